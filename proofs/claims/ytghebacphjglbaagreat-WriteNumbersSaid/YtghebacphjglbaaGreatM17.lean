/- The writer of grammars' texts: names; parts in a row, walked. -/
import Derived.Test.YtghebacphjglbaaGreatM16
import Derived.Test.YtghebacphjglbaaGreatTxD
import Derived.Test.YtghebacphjglbaaGreatM2
namespace Go.Proofs.YtghebacphjglbaaGreat.WrH
open Go.RowKit Go.Proofs.YtghebacphjglbaaGreat.Lexy Go.Proofs.YtghebacphjglbaaGreat.LexA Go.Proofs.YtghebacphjglbaaGreat.LexB Go.Proofs.YtghebacphjglbaaGreat.LexC Go.Proofs.YtghebacphjglbaaGreat.LexD Go.Proofs.YtghebacphjglbaaGreat.LexE Go.Proofs.YtghebacphjglbaaGreat.LexF Go.Proofs.YtghebacphjglbaaGreat.LexG Go.Proofs.YtghebacphjglbaaGreat.Heap Go.Proofs.YtghebacphjglbaaGreat.Dat Go.Proofs.YtghebacphjglbaaGreat.Ready Go.Proofs.YtghebacphjglbaaGreat.ReadA Go.Proofs.YtghebacphjglbaaGreat.ReadC Go.Proofs.YtghebacphjglbaaGreat.ReadI Go.Proofs.YtghebacphjglbaaGreat.Same Go.Proofs.YtghebacphjglbaaGreat.WrE Go.Proofs.YtghebacphjglbaaGreat.WrF Go.Proofs.YtghebacphjglbaaGreat.WrG

/-- how a part ends: what it wrote behind, or the writer's own panic -/
def Wrote (B b : Nat) (w : World) (l : List UInt8) (ok : Bool) (add : List UInt8) (e : Ending) (w' : World) : Prop :=
  Kb B b w w' ∧ ((ok = true ∧ e = .returned (.tuple #[]) ∧ IsW B b (l ++ add) w') ∨ (ok = false ∧ e = .panicked wrongP))
theorem Wrote.from {B b : Nat} {w0 w w' : World} {l add : List UInt8} {ok : Bool} {e : Ending} (hk : Kb B b w0 w) (h : Wrote B b w l ok add e w') : Wrote B b w0 l ok add e w' := ⟨hk.trans h.1, h.2⟩
theorem kb_alloc {B b : Nat} {w0 w : World} (h : Kb B b w0 w) (hB : B ≤ w.heap.size) (o : Obj) : Kb B b w0 (w.alloc o) := h.new ((Below.refl _ _).alloc (Nat.le_refl _) o) hB
/-- one text put behind -/
theorem put1 {B b g : Nat} {l s : List UInt8} {z : ByteArray} {w : World} (hg : g = w.heap.size) (hz : z = bs s) (h : IsW B b l w) (hB : B ≤ w.heap.size) (hlen : l.length + s.length ≤ 140737488355328) :
    Calls Tryz.prog 32 #[.pointer (some ⟨b, 0, none⟩), .slice (some ⟨g, 0, none⟩) 1 1] (w.alloc (.cells #[.string z] 9)) fun e w' => e = .returned (.tuple #[]) ∧ IsW B b (l ++ s) w' ∧ Kb B b w w' := by
  subst hz hg
  have hn := heap_alloc_new w (.cells #[.string (bs s)] 9)
  have hb := h.lt
  refine (put_any (ts := [s]) (g := w.heap.size) (c := 1) (h.new ((Below.refl _ _).alloc (Nat.le_refl _) _)) (by simp; omega) (fun w' hk j hj => ?_) (by simpa using hlen) (by simp)).mono ?_
  · obtain rfl : j = 0 := by simpa using hj
    exact cell_of_row w' w.heap.size 0 _ _ (0, 0) (hk.heap hn (by omega) (by decide))
  · rintro e w' ⟨rfl, h1, h2⟩
    exact ⟨rfl, by simpa using h1, (kb_alloc (.refl _ _ _) hB _).trans h2⟩
/-- two texts put behind -/
theorem put2 {B b g : Nat} {l s t : List UInt8} {z y : ByteArray} {w : World} (hg : g = w.heap.size) (hz : z = bs s) (hy : y = bs t) (h : IsW B b l w) (hB : B ≤ w.heap.size) (hlen : l.length + (s.length + t.length) ≤ 140737488355328) :
    Calls Tryz.prog 32 #[.pointer (some ⟨b, 0, none⟩), .slice (some ⟨g, 0, none⟩) 2 2] (w.alloc (.cells #[.string z, .string y] 9)) fun e w' => e = .returned (.tuple #[]) ∧ IsW B b (l ++ (s ++ t)) w' ∧ Kb B b w w' := by
  subst hz hy hg
  have hn := heap_alloc_new w (.cells #[.string (bs s), .string (bs t)] 9)
  have hb := h.lt
  refine (put_any (ts := [s, t]) (g := w.heap.size) (c := 2) (h.new ((Below.refl _ _).alloc (Nat.le_refl _) _)) (by simp; omega) (fun w' hk j hj => ?_) (by simpa using hlen) (by simp)).mono ?_
  · have hh := hk.heap hn (by omega) (by decide)
    rcases (by simp at hj; omega : j = 0 ∨ j = 1) with rfl | rfl
    · exact cell_of_row w' w.heap.size 0 _ _ (0, 0) hh
    · exact cell_of_row w' w.heap.size 1 _ _ (0, 0) hh
  · rintro e w' ⟨rfl, h1, h2⟩
    exact ⟨rfl, by simpa using h1, (kb_alloc (.refl _ _ _) hB _).trans h2⟩
theorem fm_next {α β : Type} (f : α → List β) {ts : List α} {k : Nat} (h : k < ts.length) : (ts.take (k + 1)).flatMap f = (ts.take k).flatMap f ++ f ts[k] := by
  have e : ts.take (k + 1) = ts.take k ++ [ts[k]] := by simp
  rw [e, List.flatMap_append]
  simp
theorem fm_len {α β : Type} (f : α → List β) (ts : List α) (k : Nat) : ((ts.take k).flatMap f).length ≤ (ts.flatMap f).length := by
  have h2 : ts.flatMap f = (ts.take k).flatMap f ++ (ts.drop k).flatMap f := by rw [← List.flatMap_append, List.take_append_drop]
  rw [h2, List.length_append]; omega
theorem all_false {α : Type} (p : α → Bool) {ts : List α} {k : Nat} (h : k < ts.length) (hp : p ts[k] = false) : ts.all p = false := by
  rw [List.all_eq_false]; exact ⟨_, List.getElem_mem h, by rw [hp]; decide⟩
theorem all_take {α : Type} (p : α → Bool) {ts : List α} {k : Nat} (h : k < ts.length) (ha : (ts.take k).all p = true) (hp : p ts[k] = true) : (ts.take (k + 1)).all p = true := by
  have e : ts.take (k + 1) = ts.take k ++ [ts[k]] := by simp
  rw [e, List.all_append, ha]; simp [hp]
set_option maxRecDepth 100000 in
set_option maxHeartbeats 2000000 in
/-- names, each behind a text -/
theorem names_any {B b : Nat} {m : Int} {l a : List UInt8} {za : ByteArray} {ns : List (List UInt8)} {w : World} {s : Value} (hza : za = bs a) (h : IsW B b l w) (hE : Env B m w) (hs : ∀ w', Kb B b w w' → Reads w' (.row 9 1 ns.length (nmsD ns)) s) (hlen : l.length + (ns.flatMap (a ++ ·)).length ≤ 140737488351232) (hns : ns.length ≤ 1000000) :
    Calls Tryz.prog 49 #[.pointer (some ⟨b, 0, none⟩), .string za, s] w (Wrote B b w l (ns.all nameB) (ns.flatMap (a ++ ·))) := by
  have h1 := hs w (.refl _ _ _)
  obtain ⟨ao, c, rfl⟩ := Reads.slice h1
  have H := Lib.hid h; have HS := Lib.hid hs; have HL := Lib.hid hlen; have HE := Lib.hid hE; have HZ := Lib.hid hza
  clear h hs hlen hE h1 hza
  go_enter Tryz.func49, Tryz.ntmps49
  go_wp2
  go_loopg [10] ns.length (fun gk i wr => ∃ (k : Nat), k ≤ ns.length ∧ gk = ns.length - k ∧ i = .int .i64 (k : Int) ∧ IsW B b (l ++ (ns.take k).flatMap (a ++ ·)) wr ∧ Kb B b w wr ∧ (ns.take k).all nameB = true)
  case atStart => exact ⟨0, by omega, by omega, rfl, by simpa using H.out, .refl _ _ _, by simp⟩
  case round =>
    obtain ⟨k, hk, rfl, rfl, hW, hK, hA⟩ := hrel
    by_cases hlt : k < ns.length
    · obtain ⟨g, o, rfl, r1⟩ := Reads.elems (HS.out _ hK) (by omega)
      have d1 := name_cell r1 hlt
      have hnx := fm_next (a ++ ·) hlt
      have hle : l.length + ((ns.take k).flatMap (a ++ ·) ++ (a ++ ns[k])).length ≤ 140737488351232 := by
        have h1 := HL.out
        have h2 := fm_len (a ++ ·) ns (k + 1)
        rw [hnx] at h2
        omega
      have hv0 := all_false nameB hlt
      have hv1 := all_take nameB hlt hA
      simp only [List.length_append] at hle
      have HN := Lib.hid hnx; clear hnx
      have HV0 := Lib.hid hv0; have HV1 := Lib.hid hv1; clear hv0 hv1 hA
      generalize ns[k] = x at d1 hle HN HV0 HV1
      have j0 : (0 : Int) ≤ (k : Int) := by omega
      have j1 : (k : Int) < (ns.length : Int) := by omega
      have hE1 := HE.out.kb hK
      have hBs := hE1.size
      have HW := Lib.hid hW; have HK := Lib.hid hK; have HE1 := Lib.hid hE1; clear hW hK hE1 r1
      cases hv : nameB x with
      | true =>
        have HV := Lib.hid hv; clear hv
        go_wp2_with (first | (go_at_call 69; refine (name_any (v := true) (by omega) HE1.out.cell HV.out).mono ?_; rintro e w1 ⟨rfl, hb1⟩; have hz1 := hb1.size) | (go_at_call 48; refine (must_t (w := w1) (by simp)).mono ?_; rintro e w2 ⟨rfl, rfl⟩) | (go_at_call 32; refine (put2 (s := a) (t := x) (by simp) HZ.out rfl ((HW.out.new hb1).new ((Below.refl _ _).alloc (Nat.le_refl _) _)) (by simp; omega) (by simp only [List.length_append]; omega)).mono ?_; rintro e w3 ⟨rfl, hW3, hK3⟩))
        have HW3 := Lib.hid hW3; have HK3 := Lib.hid hK3; clear hW3 hK3
        go_roundg (ns.length - (k + 1))
        case measure => omega
        case rel => exact ⟨k + 1, by omega, rfl, by go_num, by rw [HN.out, ← List.append_assoc]; exact HW3.out, (kb_alloc (HK.out.new hb1 hBs) (by omega) _).trans HK3.out, HV1.out HV.out⟩
      | false =>
        have HV := Lib.hid hv; clear hv
        go_wp2_with (first | (go_at_call 69; refine (name_any (v := false) (by omega) HE1.out.cell HV.out).mono ?_; rintro e w1 ⟨rfl, hb1⟩; have hz1 := hb1.size) | (go_at_call 48; refine (must_f (w := w1) (by simp)).mono ?_; rintro e w2 ⟨rfl, rfl⟩))
        exact ⟨rfl, kb_alloc (HK.out.new hb1 hBs) (by omega) _, .inr ⟨HV0.out HV.out, rfl⟩⟩
    · have hke : ns.take k = ns := List.take_of_length_le (by omega)
      rw [hke] at hW hA
      have HW := Lib.hid hW; have HK := Lib.hid hK; have HA := Lib.hid hA; clear hW hK hA
      go_wp2
      go_end0
      exact ⟨HK.out, .inl ⟨HA.out, rfl, HW.out⟩⟩
/-- what stands ahead of the end of a row of so many parts -/
def openN : List (List UInt8) → List UInt8
  | [] => []
  | p :: ps => 40 :: (p ++ ps.flatMap fun q => 44 :: 32 :: q)
theorem wrNs_eq : ∀ ps : List (List UInt8), wrNs ps = (ps.flatMap fun q => 44 :: 32 :: q) ++ [41]
  | [] => rfl
  | p :: ps => by rw [wrNs, wrNs_eq ps]; simp
theorem wrN_eq (ps : List (List UInt8)) : wrN ps = openN ps ++ (if ps = [] then [] else [41]) := by
  cases ps with
  | nil => rfl
  | cons p ps => rw [wrN, wrNs_eq]; simp [openN]
theorem open_next {ps : List (List UInt8)} {k : Nat} (h : k < ps.length) : openN (ps.take (k + 1)) = openN (ps.take k) ++ ((if k = 0 then [40] else [44, 32]) ++ ps[k]) := by
  cases ps with
  | nil => simp at h
  | cons p ps =>
    cases k with
    | zero => simp [openN]
    | succ k =>
      have h' : k < ps.length := by simpa using h
      have e : ps.take (k + 1) = ps.take k ++ [ps[k]] := by simp
      rw [List.take_succ_cons, openN, e, List.take_succ_cons, openN, List.flatMap_append]
      simp
theorem open_len (ps : List (List UInt8)) (k : Nat) : (openN (ps.take k)).length ≤ (wrN ps).length := by
  rw [wrN_eq]
  cases ps with
  | nil => simp [openN]
  | cons p ps =>
    cases k with
    | zero => simp [openN]
    | succ k =>
      have := fm_len (fun q : List UInt8 => 44 :: 32 :: q) ps k
      rw [List.take_succ_cons, openN, openN]
      simp only [List.length_append, List.length_cons]
      omega
end Go.Proofs.YtghebacphjglbaaGreat.WrH
/- The writer of grammars' texts: a row of parts, in parentheses; words, walked. -/
namespace Go.Proofs.YtghebacphjglbaaGreat.WrI
open Go.RowKit Go.Proofs.YtghebacphjglbaaGreat.Lexy Go.Proofs.YtghebacphjglbaaGreat.LexA Go.Proofs.YtghebacphjglbaaGreat.LexB Go.Proofs.YtghebacphjglbaaGreat.LexC Go.Proofs.YtghebacphjglbaaGreat.LexD Go.Proofs.YtghebacphjglbaaGreat.LexE Go.Proofs.YtghebacphjglbaaGreat.LexF Go.Proofs.YtghebacphjglbaaGreat.LexG Go.Proofs.YtghebacphjglbaaGreat.Heap Go.Proofs.YtghebacphjglbaaGreat.Dat Go.Proofs.YtghebacphjglbaaGreat.Ready Go.Proofs.YtghebacphjglbaaGreat.ReadA Go.Proofs.YtghebacphjglbaaGreat.ReadC Go.Proofs.YtghebacphjglbaaGreat.ReadI Go.Proofs.YtghebacphjglbaaGreat.Same Go.Proofs.YtghebacphjglbaaGreat.WrD Go.Proofs.YtghebacphjglbaaGreat.WrE Go.Proofs.YtghebacphjglbaaGreat.WrF Go.Proofs.YtghebacphjglbaaGreat.WrG Go.Proofs.YtghebacphjglbaaGreat.WrH Go.Proofs.YtghebacphjglbaaGreat.Cut

/-- a part that a closure writes: what it writes, and whether it may be -/
structure PartW (B b f : Nat) (cap : Array Value) (w : World) (ps : List (List UInt8)) (oks : List Bool) : Prop where
  enters : ∀ args w, (callFunc f args).run Tryz.prog w = .ok (.enter f args) w
  len : oks.length = ps.length
  part : ∀ (i : Nat) (hi : i < ps.length) (ok : Bool) (w' : World) (l' : List UInt8), oks[i]? = some ok → Kb B b w w' → IsW B b l' w' → l'.length + ps[i].length ≤ 140737488351232 → Calls Tryz.prog f (#[.int .i64 (i : Int)] ++ cap) w' (Wrote B b w' l' ok ps[i])
theorem oks_at {ps : List (List UInt8)} {oks : List Bool} {k : Nat} (hl : oks.length = ps.length) (h : k < ps.length) : ∃ ok, oks[k]? = some ok ∧ (ok = false → oks.all id = false) ∧ (ok = true → (oks.take k).all id = true → (oks.take (k + 1)).all id = true) := by
  have hk : k < oks.length := by omega
  refine ⟨oks[k], List.getElem?_eq_getElem hk, fun e => all_false id hk e, fun e ha => all_take id hk ha e⟩
set_option maxRecDepth 100000 in
set_option maxHeartbeats 4000000 in
theorem row_any {B b f : Nat} {cap : Array Value} {ps : List (List UInt8)} {oks : List Bool} {l : List UInt8} {w : World} (hp : PartW B b f cap w ps oks) (h : IsW B b l w) (hB : B ≤ w.heap.size) (hlen : l.length + (wrN ps).length ≤ 140737488351232) (hn : ps.length ≤ 1000000) :
    Calls Tryz.prog 50 #[.pointer (some ⟨b, 0, none⟩), .int .i64 (ps.length : Int), .func (.func f) #[] cap] w (Wrote B b w l (oks.all id) (wrN ps)) := by
  have ef := hp.enters
  have HP := Lib.hid hp; have H := Lib.hid h; have HL := Lib.hid hlen
  clear hp h hlen
  go_enter Tryz.func50, Tryz.ntmps50
  go_wp2
  go_loopg [8] ps.length (fun gk i wr => ∃ (k : Nat), k ≤ ps.length ∧ gk = ps.length - k ∧ i = .int .i64 (k : Int) ∧ IsW B b (l ++ openN (ps.take k)) wr ∧ Kb B b w wr ∧ (oks.take k).all id = true)
  case atStart => exact ⟨0, by omega, by omega, rfl, by simpa [openN] using H.out, .refl _ _ _, by simp⟩
  case round =>
    obtain ⟨k, hk, rfl, rfl, hW, hK, hA⟩ := hrel
    have hsz := hK.size
    by_cases hlt : k < ps.length
    · have hnx := open_next hlt
      have hle : l.length + (openN (ps.take k) ++ ((if k = 0 then [40] else [44, 32]) ++ ps[k])).length ≤ 140737488351232 := by
        have h1 := HL.out
        have h2 := open_len ps (k + 1)
        rw [hnx] at h2
        omega
      simp only [List.length_append] at hle
      obtain ⟨ok, ho, hv0, hv1⟩ := oks_at HP.out.len hlt
      have hpart := fun w' l' => HP.out.part k hlt ok w' l' ho
      have HN := Lib.hid hnx; have HV0 := Lib.hid hv0; have HV1 := Lib.hid (fun e => hv1 e hA); have HPT := Lib.hid hpart
      clear hnx hv0 hv1 hA ho hpart
      generalize ps[k] = x at hle HN HPT
      have HW := Lib.hid hW; have HK := Lib.hid hK; clear hW hK
      by_cases h0 : k = 0
      · subst h0
        simp only [if_true, List.length_singleton] at hle
        have HN' := Lib.hid (HN.out.trans (by rw [if_pos rfl])); clear HN
        go_wp2_with (first | (go_at_call 32; refine (put1 (w := wr) (s := [40]) (by simp) rfl HW.out (by omega) (by simp only [List.length_append, List.length_singleton]; omega)).mono ?_; rintro e w2 ⟨rfl, hW2, hK2⟩; have hz2 := hK2.size; have HW2 := Lib.hid hW2; have HK2 := Lib.hid hK2; clear hW2 hK2) | (go_at_fn f; refine (HPT.out w2 _ (HK.out.trans HK2.out) HW2.out (by simp only [List.length_append, List.length_singleton]; omega)).mono ?_; rintro e w3 ⟨hK3, hr⟩; rcases hr with ⟨rfl, rfl, hW3⟩ | ⟨rfl, rfl⟩))
        · have HW3 := Lib.hid hW3; have HK3 := Lib.hid hK3; clear hW3 hK3
          go_roundg (ps.length - (0 + 1))
          case measure => omega
          case rel => exact ⟨0 + 1, by omega, rfl, by go_num, by rw [HN'.out, ← List.append_assoc, ← List.append_assoc]; exact HW3.out, (HK.out.trans HK2.out).trans HK3.out, HV1.out trivial⟩
        · exact ⟨rfl, (HK.out.trans HK2.out).trans hK3, .inr ⟨HV0.out trivial, rfl⟩⟩
      · have q0 : ((k : Int) == 0) = false := beq_eq_false_iff_ne.2 (by omega)
        simp only [if_neg h0, List.length_cons, List.length_nil] at hle
        have HN' := Lib.hid (HN.out.trans (by rw [if_neg h0])); clear HN
        have HH0 := Lib.hid h0; clear h0
        have j0 : (0 : Int) ≤ (k : Int) := by omega
        have j1 : (k : Int) < (ps.length : Int) := by omega
        go_wp2_with (first | (go_at_call 32; refine (put1 (w := wr) (s := [44, 32]) (by simp) rfl HW.out (by omega) (by simp only [List.length_append, List.length_cons, List.length_nil]; omega)).mono ?_; rintro e w2 ⟨rfl, hW2, hK2⟩; have hz2 := hK2.size; have HW2 := Lib.hid hW2; have HK2 := Lib.hid hK2; clear hW2 hK2) | (go_at_fn f; refine (HPT.out w2 _ (HK.out.trans HK2.out) HW2.out (by simp only [List.length_append, List.length_cons, List.length_nil]; omega)).mono ?_; rintro e w3 ⟨hK3, hr⟩; rcases hr with ⟨rfl, rfl, hW3⟩ | ⟨rfl, rfl⟩))
        · have HW3 := Lib.hid hW3; have HK3 := Lib.hid hK3; clear hW3 hK3
          go_roundg (ps.length - (k + 1))
          case measure => omega
          case rel => exact ⟨k + 1, by omega, rfl, by go_num, by rw [HN'.out, ← List.append_assoc, ← List.append_assoc]; exact HW3.out, (HK.out.trans HK2.out).trans HK3.out, HV1.out trivial⟩
        · exact ⟨rfl, (HK.out.trans HK2.out).trans hK3, .inr ⟨HV0.out trivial, rfl⟩⟩
    · have hke : ps.take k = ps := List.take_of_length_le (by omega)
      have hko : oks.take k = oks := List.take_of_length_le (by have := HP.out.len; omega)
      rw [hke] at hW
      rw [hko] at hA
      obtain rfl : k = ps.length := by omega
      have hwr := wrN_eq ps
      have HW := Lib.hid hW; have HK := Lib.hid hK; have HA := Lib.hid hA; clear hW hK hA
      have hl1 := HL.out
      by_cases h0 : ps.length = 0
      · obtain rfl : ps = [] := List.eq_nil_of_length_eq_zero h0
        have HWR := Lib.hid hwr; clear hwr
        go_wp2
        go_end0
        exact ⟨HK.out, .inl ⟨HA.out, rfl, HW.out⟩⟩
      · have hpos : (0 : Int) < (ps.length : Int) := by omega
        have hne : ps ≠ [] := fun e => h0 (by rw [e]; rfl)
        rw [if_neg hne] at hwr
        rw [hwr, List.length_append, List.length_singleton] at hl1
        have HWR := Lib.hid hwr; clear hwr
        go_wp2_with (go_at_call 32; refine (put1 (w := wr) (s := [41]) (by simp) rfl HW.out (by omega) (by simp only [List.length_append, List.length_singleton]; omega)).mono ?_; rintro e w2 ⟨rfl, hW2, hK2⟩; have HW2 := Lib.hid hW2; have HK2 := Lib.hid hK2; clear hW2 hK2)
        go_end0
        exact ⟨HK.out.trans HK2.out, .inl ⟨HA.out, rfl, by rw [HWR.out, ← List.append_assoc]; exact HW2.out⟩⟩
/-- one name, behind a text -/
theorem name1 {B b g : Nat} {m : Int} {l a n : List UInt8} {za z : ByteArray} {w : World} (hg : g = w.heap.size) (hza : za = bs a) (hz : z = bs n) (h : IsW B b l w) (hE : Env B m w) (hlen : l.length + (a.length + n.length) ≤ 140737488351232) :
    Calls Tryz.prog 49 #[.pointer (some ⟨b, 0, none⟩), .string za, .slice (some ⟨g, 0, none⟩) 1 1] (w.alloc (.cells #[.string z] 9)) (Wrote B b w l (nameB n) (a ++ n)) := by
  subst hg hz
  have hB := hE.size
  have hb := h.lt
  have hn := heap_alloc_new w (.cells #[.string (bs n)] 9)
  have hba : Below w.heap.size w (w.alloc (.cells #[.string (bs n)] 9)) := (Below.refl _ _).alloc (Nat.le_refl _) _
  refine (names_any (ns := [n]) hza (h.new hba) (hE.new hba) (fun w' hk => ?_) (by simpa using hlen) (by simp)).mono ?_
  · rw [Reads.row_iff]
    refine ⟨by simp [nmsD], by unfold maxLen; simp, _, _, rfl, .inr (.inl ⟨_, _, rfl, ?_⟩)⟩
    simp only [nmsD, List.map_cons, List.map_nil, ReadsL, Reads, and_true]
    exact ⟨_, cell_of_row w' w.heap.size 0 _ _ (0, 0) (hk.heap hn (by omega) (by decide)), rfl⟩
  · intro e w' hr
    have := Wrote.from (kb_alloc (.refl B b w) hB _) hr
    simpa using this
/-- three things boxed, one behind the other -/
theorem boxes3 (w : World) (o1 o2 o3 : Obj) : (((w.alloc o1).alloc o2).alloc o3).heap[w.heap.size]? = some o1 ∧ (((w.alloc o1).alloc o2).alloc o3).heap[w.heap.size + 1]? = some o2 ∧ (((w.alloc o1).alloc o2).alloc o3).heap[w.heap.size + 2]? = some o3 ∧ Below w.heap.size w (((w.alloc o1).alloc o2).alloc o3) ∧ (((w.alloc o1).alloc o2).alloc o3).heap.size = w.heap.size + 3 := by
  have h1 := heap_alloc_new w o1
  have h2 := heap_alloc_new (w.alloc o1) o2
  have h3 := heap_alloc_new ((w.alloc o1).alloc o2) o3
  have s1 : (w.alloc o1).heap.size = w.heap.size + 1 := by simp
  have s2 : ((w.alloc o1).alloc o2).heap.size = w.heap.size + 2 := by simp
  rw [s1] at h2; rw [s2] at h3
  refine ⟨?_, ?_, h3, (((Below.refl _ _).alloc (Nat.le_refl _) _).alloc (by omega) _).alloc (by omega) _, by simp⟩
  · exact (Below.heap_alloc _ _ _ (by omega)).trans ((Below.heap_alloc _ _ _ (by omega)).trans h1)
  · exact (Below.heap_alloc _ _ _ (by omega)).trans h2
/-- what a word writes, over a world that is older -/
def WordW (W0 : World) (x : Wd) : Prop := ∀ (d b : Nat) (m : Int) (l : List UInt8) (w : World) (n : List UInt8) (xs : List Wd) (z : Int) (s : Value), x = .mk n xs z → IsW W0.heap.size b l w → Env W0.heap.size m w → Below W0.heap.size W0 w → Reads W0 (.row 33 3 xs.length (wdsD xs)) s → l.length + (wrW x).length ≤ 140737488351232 → wdOk x → d ≤ 1000 →
  Calls Tryz.prog 70 #[.pointer (some ⟨b, 0, none⟩), .agg #[.string (bs n), s, .int .i64 z], .int .i64 (d : Int)] w (Wrote W0.heap.size b w l (okW d x) (wrW x))
theorem wrWs_eq : ∀ xs : List Wd, wrWs xs = wrNs (xs.map wrW)
  | [] => rfl
  | x :: xs => by rw [wrWs, List.map_cons, wrNs, wrWs_eq xs]
theorem wrP_eq (xs : List Wd) : wrP xs = wrN (xs.map wrW) := by
  cases xs with
  | nil => rfl
  | cons x xs => rw [wrP, List.map_cons, wrN, wrWs_eq]
theorem okWs_eq (d : Nat) : ∀ xs : List Wd, okWs d xs = (xs.map (okW d)).all id
  | [] => rfl
  | x :: xs => by rw [okWs, okWs_eq d xs]; rfl
set_option maxRecDepth 100000 in
set_option maxHeartbeats 2000000 in
/-- the closure that writes a word's argument -/
theorem part_word {W0 : World} {n : List UInt8} {xs : List Wd} {z : Int} {s : Value} {d b H : Nat} {m : Int} {w : World} (hx : ∀ y ∈ xs, WordW W0 y) (hE : Env W0.heap.size m w) (hW : Below W0.heap.size W0 w) (hR : Reads W0 (.row 33 3 xs.length (wdsD xs)) s) (hok : wdsOk xs) (hd : d ≤ 60) (hn : xs.length ≤ 1000000)
    (h1 : w.heap[H]? = some (.cells #[.pointer (some ⟨b, 0, none⟩)] 78 (0, 0))) (h2 : w.heap[H + 1]? = some (.cells #[.string (bs n), s, .int .i64 z] 33 (0, 0))) (h3 : w.heap[H + 2]? = some (.cells #[.int .i64 (d : Int)] 3 (0, 0))) (hbH : b < H) :
    PartW W0.heap.size b 84 #[.pointer (some ⟨H, 0, none⟩), .pointer (some ⟨H + 1, 0, none⟩), .pointer (some ⟨H + 2, 0, none⟩)] w (xs.map wrW) (xs.map (okW (d + 1))) where
  enters := fun args w => by kernel_rfl
  len := by simp
  part := fun i hi ok w' l' ho hK hI hlen => by
    have hi' : i < xs.length := by simpa using hi
    obtain ⟨a0, c, rfl⟩ := Reads.slice hR
    obtain ⟨g, o, rfl, hr⟩ := Reads.elems hR (by omega)
    obtain ⟨n1, ys, z1, hy⟩ : ∃ n1 ys z1, xs[i] = .mk n1 ys z1 := by cases xs[i]; exact ⟨_, _, _, rfl⟩
    obtain ⟨a1, c1, e0, e1, e2, hry⟩ := word_cells hr hi' hy
    have hW' : Below W0.heap.size W0 w' := hW.trans hK.below
    have k1 := hK.heap h1 (by omega) (by decide)
    have k2 := hK.heap h2 (by omega) (by decide)
    have k3 := hK.heap h3 (by omega) (by decide)
    have hgl : g < W0.heap.size := World.block_lt_of_cell? _ _ e0
    have q0 := (hW'.cell (p := ⟨g, o + i * 3, none⟩) hgl).trans e0
    have q1 := (hW'.cell (p := ⟨g, o + i * 3 + 1, none⟩) hgl).trans e1
    have q2 := (hW'.cell (p := ⟨g, o + i * 3 + 2, none⟩) hgl).trans e2
    have hH1 : H < w'.heap.size := (Array.getElem?_eq_some_iff.1 k1).1
    have hH2 : H + 2 < w'.heap.size := (Array.getElem?_eq_some_iff.1 k3).1
    have hsz := hW'.size
    have hwx := hx xs[i] (List.getElem_mem hi')
    have hokx := wdsOk_mem hok xs[i] (List.getElem_mem hi')
    have hoi : ok = okW (d + 1) xs[i] := by rw [List.getElem?_map, List.getElem?_eq_getElem hi'] at ho; exact (Option.some.inj ho).symm
    rw [List.getElem_map] at hlen ⊢
    subst hoi
    have HC := Lib.hid (fun (u : World) (hu : Below w'.heap.size w' u) => hwx (d + 1) b m l' u n1 ys z1 _ hy (hI.new hu) ((hE.kb hK).new hu) (hW'.trans (hu.mono hsz)) hry hlen hokx (by omega))
    have j0 : (0 : Int) ≤ (i : Int) := by omega
    have j1 : (i : Int) < (xs.length : Int) := by omega
    have hd1 : IntKind.i64.wrap ((d : Int) + 1) = ((d + 1 : Nat) : Int) := by unfold IntKind.wrap; simp [IntKind.bits, IntKind.signed]; omega
    generalize okW (d + 1) xs[i] = okv at HC ⊢
    generalize wrW xs[i] = wv at HC hlen ⊢
    clear hwx hokx hy hry e0 e1 e2 hr ho hx hok hR hE hI hW h1 h2 h3
    have c1' := cell_of_row w' H 0 _ _ (0, 0) k1
    have c2' := cell_of_row w' (H + 1) 1 _ _ (0, 0) k2
    have c3' := cell_of_row w' (H + 2) 0 _ _ (0, 0) k3
    have HQ := Lib.hid q0; have HQ1 := Lib.hid q1; have HQ2 := Lib.hid q2
    have HK1 := Lib.hid c1'; have HK2 := Lib.hid c2'; have HK3 := Lib.hid c3'
    clear k1 k2 k3 q0 q1 q2 c1' c2' c3'
    go_enter Tryz.func84, Tryz.ntmps84
    refine wp_region_mixI (l1 := [_, _, _, _, _, _, _, _]) (l2 := [_]) [(0, true), (1, true), (2, true), (3, true), (4, true), (5, true), (6, true), (7, true)] (fun u => Below w'.heap.size w' u) (by kernel_rfl) (by kernel_rfl) (by repeat (first | refine loose_then ?_ | refine loose_block ?_ | exact loose_body (P := Tryz.prog) (fn := Tryz.f84))) ((Below.refl _ w').drew) ?_
    refine mixI_take (.pointer (some ⟨b, 0, none⟩)) rfl rfl (fun u hu => by have hc := (hu.cell (p := ⟨H, 0, none⟩) (by omega)).trans HK1.out; go_simp) ?_
    refine mixI_take (.pointer (some ⟨H + 1, 1, none⟩)) rfl rfl (fun u hu => by go_simp) ?_
    refine mixI_take (.slice (some ⟨g, o, none⟩) xs.length c) rfl rfl (fun u hu => by have hc := (hu.cell (p := ⟨H + 1, 1, none⟩) (by simp; omega)).trans HK2.out; go_simp) ?_
    refine mixI_take (.int .i64 (i : Int)) rfl rfl (fun u hu => by go_simp) ?_
    refine mixI_take (.pointer (some ⟨g, o + i * 3, none⟩)) rfl rfl (fun u hu => by go_simp) ?_
    refine mixI_take (.agg #[.string (bs n1), .slice a1 ys.length c1, .int .i64 z1]) rfl rfl (fun u hu => by have hc := (hu.cell (p := ⟨g, o + i * 3, none⟩) (by simp; omega)).trans HQ.out; have hc1 := (hu.cell (p := ⟨g, o + i * 3 + 1, none⟩) (by simp; omega)).trans HQ1.out; have hc2 := (hu.cell (p := ⟨g, o + i * 3 + 2, none⟩) (by simp; omega)).trans HQ2.out; go_simp) ?_
    refine mixI_take (.int .i64 (d : Int)) rfl rfl (fun u hu => by have hc := (hu.cell (p := ⟨H + 2, 0, none⟩) (by simp; omega)).trans HK3.out; go_simp) ?_
    refine mixI_take (.int .i64 ((d + 1 : Nat) : Int)) rfl rfl (fun u hu => by go_simp) ?_
    show wpList _ _ _ _ _ _
    have hkd : Kb W0.heap.size b w' w'.drew := (Kb.refl _ _ _).new ((Below.refl _ w').drew) hsz
    go_wp2_with (go_at_call 70; refine (HC.out _ ((Below.refl _ w').drew)).mono ?_; rintro e w3 ⟨hK3, hr⟩; rcases hr with ⟨h5, rfl, hW3⟩ | ⟨h5, rfl⟩)
    · have HW3 := Lib.hid hW3; have HK3 := Lib.hid hK3; have H5 := Lib.hid h5; clear hW3 hK3 h5
      go_end0
      exact ⟨hkd.trans HK3.out, .inl ⟨H5.out, rfl, HW3.out⟩⟩
    · exact ⟨rfl, hkd.trans hK3, .inr ⟨rfl, rfl⟩⟩
end Go.Proofs.YtghebacphjglbaaGreat.WrI
