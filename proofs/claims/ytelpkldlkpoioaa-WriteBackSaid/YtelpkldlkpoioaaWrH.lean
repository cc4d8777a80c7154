/- The writer of grammars' texts: names; parts in a row, walked. -/
import Derived.Test.YtelpkldlkpoioaaWrG
import Derived.Test.YtelpkldlkpoioaaSame
namespace Go.Proofs.Ytelpkldlkpoioaa.WrH
open Go.RowKit Go.Proofs.Ytelpkldlkpoioaa.Lexy Go.Proofs.Ytelpkldlkpoioaa.LexA Go.Proofs.Ytelpkldlkpoioaa.LexB Go.Proofs.Ytelpkldlkpoioaa.LexC Go.Proofs.Ytelpkldlkpoioaa.LexD Go.Proofs.Ytelpkldlkpoioaa.LexE Go.Proofs.Ytelpkldlkpoioaa.LexF Go.Proofs.Ytelpkldlkpoioaa.LexG Go.Proofs.Ytelpkldlkpoioaa.Heap Go.Proofs.Ytelpkldlkpoioaa.Dat Go.Proofs.Ytelpkldlkpoioaa.Ready Go.Proofs.Ytelpkldlkpoioaa.ReadA Go.Proofs.Ytelpkldlkpoioaa.ReadC Go.Proofs.Ytelpkldlkpoioaa.ReadI Go.Proofs.Ytelpkldlkpoioaa.Same Go.Proofs.Ytelpkldlkpoioaa.WrE Go.Proofs.Ytelpkldlkpoioaa.WrF Go.Proofs.Ytelpkldlkpoioaa.WrG

/-- how a part ends: what it wrote behind, or the writer's own panic -/
def Wrote (B b : Nat) (w : World) (l : List UInt8) (ok : Bool) (add : List UInt8) (e : Ending) (w' : World) : Prop :=
  Kb B b w w' ∧ ((ok = true ∧ e = .returned (.tuple #[]) ∧ IsW B b (l ++ add) w') ∨ (ok = false ∧ e = .panicked wrongP))
theorem Wrote.from {B b : Nat} {w0 w w' : World} {l add : List UInt8} {ok : Bool} {e : Ending} (hk : Kb B b w0 w) (h : Wrote B b w l ok add e w') : Wrote B b w0 l ok add e w' := ⟨hk.trans h.1, h.2⟩
theorem row1 (w : World) (v : Value) (T : TypeId) : (w.alloc (.cells #[v] T)).cell? ⟨w.heap.size, 0, none⟩ = some v := cell_of_row _ w.heap.size 0 _ _ (0, 0) (heap_alloc_new w _)
theorem kb_alloc {B b : Nat} {w0 w : World} (h : Kb B b w0 w) (hB : B ≤ w.heap.size) (o : Obj) : Kb B b w0 (w.alloc o) := h.new ((Below.refl _ _).alloc (Nat.le_refl _) o) hB
/-- one text put behind -/
theorem put1 {B b g : Nat} {l s : List UInt8} {z : ByteArray} {w : World} (hg : g = w.heap.size) (hz : z = bs s) (h : IsW B b l w) (hB : B ≤ w.heap.size) (hlen : l.length + s.length ≤ 140737488355328) :
    Calls Try.prog 49 #[.pointer (some ⟨b, 0, none⟩), .slice (some ⟨g, 0, none⟩) 1 1] (w.alloc (.cells #[.string z] 9)) fun e w' => e = .returned (.tuple #[]) ∧ IsW B b (l ++ s) w' ∧ Kb B b w w' := by
  subst hz hg
  have hn := heap_alloc_new w (.cells #[.string (bs s)] 9)
  have hb := h.lt
  refine (put_any (ts := [s]) (g := w.heap.size) (c := 1) (h.new ((Below.refl _ _).alloc (Nat.le_refl _) _)) (by simp; omega) (fun w' hk j hj => ?_) (by simpa using hlen) (by simp)).mono ?_
  · obtain rfl : j = 0 := by simpa using hj
    exact cell_of_row w' w.heap.size 0 _ _ (0, 0) (hk.heap hn (by omega) (by decide))
  · rintro e w' ⟨rfl, h1, h2⟩
    exact ⟨rfl, by simpa using h1, (kb_alloc (.refl _ _ _) hB _).trans h2⟩
/-- two texts put behind -/
theorem put2 {B b g : Nat} {l s t : List UInt8} {z y : ByteArray} {w : World} (hg : g = w.heap.size) (hz : z = bs s) (hy : y = bs t) (h : IsW B b l w) (hB : B ≤ w.heap.size) (hlen : l.length + (s.length + t.length) ≤ 140737488355328) :
    Calls Try.prog 49 #[.pointer (some ⟨b, 0, none⟩), .slice (some ⟨g, 0, none⟩) 2 2] (w.alloc (.cells #[.string z, .string y] 9)) fun e w' => e = .returned (.tuple #[]) ∧ IsW B b (l ++ (s ++ t)) w' ∧ Kb B b w w' := by
  subst hz hy hg
  have hn := heap_alloc_new w (.cells #[.string (bs s), .string (bs t)] 9)
  have hb := h.lt
  refine (put_any (ts := [s, t]) (g := w.heap.size) (c := 2) (h.new ((Below.refl _ _).alloc (Nat.le_refl _) _)) (by simp; omega) (fun w' hk j hj => ?_) (by simpa using hlen) (by simp)).mono ?_
  · have hh := hk.heap hn (by omega) (by decide)
    rcases (by simp at hj; omega : j = 0 ∨ j = 1) with rfl | rfl
    · exact cell_of_row w' w.heap.size 0 _ _ (0, 0) hh
    · exact cell_of_row w' w.heap.size 1 _ _ (0, 0) hh
  · rintro e w' ⟨rfl, h1, h2⟩
    exact ⟨rfl, by simpa using h1, (kb_alloc (.refl _ _ _) hB _).trans h2⟩
theorem fm_next {α β : Type} (f : α → List β) {ts : List α} {k : Nat} (h : k < ts.length) : (ts.take (k + 1)).flatMap f = (ts.take k).flatMap f ++ f ts[k] := by
  have e : ts.take (k + 1) = ts.take k ++ [ts[k]] := by simp
  rw [e, List.flatMap_append]
  simp
theorem fm_len {α β : Type} (f : α → List β) (ts : List α) (k : Nat) : ((ts.take k).flatMap f).length ≤ (ts.flatMap f).length := by
  have h2 : ts.flatMap f = (ts.take k).flatMap f ++ (ts.drop k).flatMap f := by rw [← List.flatMap_append, List.take_append_drop]
  rw [h2, List.length_append]; omega
theorem all_false {α : Type} (p : α → Bool) {ts : List α} {k : Nat} (h : k < ts.length) (hp : p ts[k] = false) : ts.all p = false := by
  rw [List.all_eq_false]; exact ⟨_, List.getElem_mem h, by rw [hp]; decide⟩
theorem all_take {α : Type} (p : α → Bool) {ts : List α} {k : Nat} (h : k < ts.length) (ha : (ts.take k).all p = true) (hp : p ts[k] = true) : (ts.take (k + 1)).all p = true := by
  have e : ts.take (k + 1) = ts.take k ++ [ts[k]] := by simp
  rw [e, List.all_append, ha]; simp [hp]
set_option maxRecDepth 100000 in
set_option maxHeartbeats 2000000 in
/-- names, each behind a text -/
theorem names_any {B b : Nat} {m : Int} {l a : List UInt8} {za : ByteArray} {ns : List (List UInt8)} {w : World} {s : Value} (hza : za = bs a) (h : IsW B b l w) (hE : Env B m w) (hs : ∀ w', Kb B b w w' → Reads w' (.row 9 1 ns.length (nmsD ns)) s) (hlen : l.length + (ns.flatMap (a ++ ·)).length ≤ 140737488351232) (hns : ns.length ≤ 1000000) :
    Calls Try.prog 75 #[.pointer (some ⟨b, 0, none⟩), .string za, s] w (Wrote B b w l (ns.all nameB) (ns.flatMap (a ++ ·))) := by
  have h1 := hs w (.refl _ _ _)
  obtain ⟨ao, c, rfl⟩ := Reads.slice h1
  have H := Lib.hid h; have HS := Lib.hid hs; have HL := Lib.hid hlen; have HE := Lib.hid hE; have HZ := Lib.hid hza
  clear h hs hlen hE h1 hza
  go_enter Try.func75, Try.ntmps75
  go_wp2
  go_loopg [10] ns.length (fun gk i wr => ∃ (k : Nat), k ≤ ns.length ∧ gk = ns.length - k ∧ i = .int .i64 (k : Int) ∧ IsW B b (l ++ (ns.take k).flatMap (a ++ ·)) wr ∧ Kb B b w wr ∧ (ns.take k).all nameB = true)
  case atStart => exact ⟨0, by omega, by omega, rfl, by simpa using H.out, .refl _ _ _, by simp⟩
  case round =>
    obtain ⟨k, hk, rfl, rfl, hW, hK, hA⟩ := hrel
    by_cases hlt : k < ns.length
    · obtain ⟨g, o, rfl, r1⟩ := Reads.elems (HS.out _ hK) (by omega)
      have d1 := name_cell r1 hlt
      have hnx := fm_next (a ++ ·) hlt
      have hle : l.length + ((ns.take k).flatMap (a ++ ·) ++ (a ++ ns[k])).length ≤ 140737488351232 := by
        have h1 := HL.out
        have h2 := fm_len (a ++ ·) ns (k + 1)
        rw [hnx] at h2
        omega
      have hv0 := all_false nameB hlt
      have hv1 := all_take nameB hlt hA
      simp only [List.length_append] at hle
      have HN := Lib.hid hnx; clear hnx
      have HV0 := Lib.hid hv0; have HV1 := Lib.hid hv1; clear hv0 hv1 hA
      generalize ns[k] = x at d1 hle HN HV0 HV1
      have j0 : (0 : Int) ≤ (k : Int) := by omega
      have j1 : (k : Int) < (ns.length : Int) := by omega
      have hE1 := HE.out.kb hK
      have hBs := hE1.size
      have HW := Lib.hid hW; have HK := Lib.hid hK; have HE1 := Lib.hid hE1; clear hW hK hE1 r1
      cases hv : nameB x with
      | true =>
        have HV := Lib.hid hv; clear hv
        go_wp2_with (first | (go_at_call 92; refine (name_any (v := true) (by omega) HE1.out.cell HV.out).mono ?_; rintro e w1 ⟨rfl, hb1⟩; have hz1 := hb1.size) | (go_at_call 74; refine (must_t (w := w1) (by simp)).mono ?_; rintro e w2 ⟨rfl, rfl⟩) | (go_at_call 49; refine (put2 (s := a) (t := x) (by simp) HZ.out rfl ((HW.out.new hb1).new ((Below.refl _ _).alloc (Nat.le_refl _) _)) (by simp; omega) (by simp only [List.length_append]; omega)).mono ?_; rintro e w3 ⟨rfl, hW3, hK3⟩))
        have HW3 := Lib.hid hW3; have HK3 := Lib.hid hK3; clear hW3 hK3
        go_roundg (ns.length - (k + 1))
        case measure => omega
        case rel => exact ⟨k + 1, by omega, rfl, by go_num, by rw [HN.out, ← List.append_assoc]; exact HW3.out, (kb_alloc (HK.out.new hb1 hBs) (by omega) _).trans HK3.out, HV1.out HV.out⟩
      | false =>
        have HV := Lib.hid hv; clear hv
        go_wp2_with (first | (go_at_call 92; refine (name_any (v := false) (by omega) HE1.out.cell HV.out).mono ?_; rintro e w1 ⟨rfl, hb1⟩; have hz1 := hb1.size) | (go_at_call 74; refine (must_f (w := w1) (by simp)).mono ?_; rintro e w2 ⟨rfl, rfl⟩))
        exact ⟨rfl, kb_alloc (HK.out.new hb1 hBs) (by omega) _, .inr ⟨HV0.out HV.out, rfl⟩⟩
    · have hke : ns.take k = ns := List.take_of_length_le (by omega)
      rw [hke] at hW hA
      have HW := Lib.hid hW; have HK := Lib.hid hK; have HA := Lib.hid hA; clear hW hK hA
      go_wp2
      go_end0
      exact ⟨HK.out, .inl ⟨HA.out, rfl, HW.out⟩⟩
/-- what stands ahead of the end of a row of so many parts -/
def openN : List (List UInt8) → List UInt8
  | [] => []
  | p :: ps => 40 :: (p ++ ps.flatMap fun q => 44 :: 32 :: q)
theorem wrNs_eq : ∀ ps : List (List UInt8), wrNs ps = (ps.flatMap fun q => 44 :: 32 :: q) ++ [41]
  | [] => rfl
  | p :: ps => by rw [wrNs, wrNs_eq ps]; simp
theorem wrN_eq (ps : List (List UInt8)) : wrN ps = openN ps ++ (if ps = [] then [] else [41]) := by
  cases ps with
  | nil => rfl
  | cons p ps => rw [wrN, wrNs_eq]; simp [openN]
theorem open_next {ps : List (List UInt8)} {k : Nat} (h : k < ps.length) : openN (ps.take (k + 1)) = openN (ps.take k) ++ ((if k = 0 then [40] else [44, 32]) ++ ps[k]) := by
  cases ps with
  | nil => simp at h
  | cons p ps =>
    cases k with
    | zero => simp [openN]
    | succ k =>
      have h' : k < ps.length := by simpa using h
      have e : ps.take (k + 1) = ps.take k ++ [ps[k]] := by simp
      rw [List.take_succ_cons, openN, e, List.take_succ_cons, openN, List.flatMap_append]
      simp
theorem open_len (ps : List (List UInt8)) (k : Nat) : (openN (ps.take k)).length ≤ (wrN ps).length := by
  rw [wrN_eq]
  cases ps with
  | nil => simp [openN]
  | cons p ps =>
    cases k with
    | zero => simp [openN]
    | succ k =>
      have := fm_len (fun q : List UInt8 => 44 :: 32 :: q) ps k
      rw [List.take_succ_cons, openN, openN]
      simp only [List.length_append, List.length_cons]
      omega
end Go.Proofs.Ytelpkldlkpoioaa.WrH
