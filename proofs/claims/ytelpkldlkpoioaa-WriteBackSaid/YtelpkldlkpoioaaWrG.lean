/- The writer of grammars' texts: what is one token; what must be; texts put, walked. -/
import Derived.Test.YtelpkldlkpoioaaWrF
namespace Go.Proofs.Ytelpkldlkpoioaa.WrG
open Go.RowKit Go.Proofs.Ytelpkldlkpoioaa.Lexy Go.Proofs.Ytelpkldlkpoioaa.LexA Go.Proofs.Ytelpkldlkpoioaa.LexB Go.Proofs.Ytelpkldlkpoioaa.LexC Go.Proofs.Ytelpkldlkpoioaa.LexD Go.Proofs.Ytelpkldlkpoioaa.LexE Go.Proofs.Ytelpkldlkpoioaa.LexF Go.Proofs.Ytelpkldlkpoioaa.LexG Go.Proofs.Ytelpkldlkpoioaa.Heap Go.Proofs.Ytelpkldlkpoioaa.Dat Go.Proofs.Ytelpkldlkpoioaa.Ready Go.Proofs.Ytelpkldlkpoioaa.ReadA Go.Proofs.Ytelpkldlkpoioaa.WrE Go.Proofs.Ytelpkldlkpoioaa.WrF

/-- what a call hangs on, but for its arguments -/
structure Env (B : Nat) (m : Int) (w : World) : Prop where
  cell : w.cell? ⟨0, 0, none⟩ = some (.int .i64 m)
  lt : 0 < B
  size : B ≤ w.heap.size
theorem Env.below {B : Nat} {m : Int} {w w' : World} (h : Env B m w) (hb : Below B w w') : Env B m w' := ⟨(hb.cell (p := ⟨0, 0, none⟩) h.lt).trans h.cell, h.lt, Nat.le_trans h.size hb.size⟩
theorem Env.kb {B b : Nat} {m : Int} {w w' : World} (h : Env B m w) (hb : Kb B b w w') : Env B m w' := h.below hb.below
theorem Env.new {B : Nat} {m : Int} {w w' : World} (h : Env B m w) (hb : Below w.heap.size w w') : Env B m w' := h.below (hb.mono h.size)
/-- a token's cells, behind a new block -/
theorem toks_at {w : World} {g : Nat} {l : List Tok} (h : IsToks w g l) (hg : g < w.heap.size) (i j : Nat) (hi : i < l.length) (hj : j = i * 3) (t : Tok) (ht : tk l i = t) :
    ∀ o, (w.alloc o).cell? ⟨g, j, none⟩ = some (.int .u8 (t.kind : Int)) ∧ (w.alloc o).cell? ⟨g, j + 1, none⟩ = some (.string (bs t.text)) ∧ (w.alloc o).cell? ⟨g, j + 2, none⟩ = some (.int .i64 (t.at_ : Int)) := by
  subst hj ht
  intro o
  obtain ⟨a, b, c⟩ := h i hi
  exact ⟨(World.cell?_alloc_past _ _ _ hg).trans a, (World.cell?_alloc_past _ _ _ hg).trans b, (World.cell?_alloc_past _ _ _ hg).trans c⟩
theorem strs_eq (l s : List UInt8) : ((bs l).toList == (bs s).toList) = decide (l = s) := by
  rw [bs_toList, bs_toList]
  by_cases h : l = s
  · rw [decide_eq_true h]; exact beq_iff_eq.2 h
  · rw [decide_eq_false h]; exact beq_eq_false_iff_ne.2 h
set_option maxRecDepth 100000 in
set_option maxHeartbeats 1000000 in
theorem one_any {s t : List UInt8} {k : Nat} {kz : Int} {v : Bool} {w : World} {m : Int} (hs : s.length ≤ 140737488351232) (hm : w.cell? ⟨0, 0, none⟩ = some (.int .i64 m)) (hz : kz = (k : Int)) (hv : oneB s k t = v) :
    Calls Try.prog 95 #[.string (bs s), .int .u8 kz, .string (bs t)] w fun e w' => e = .returned (.bool v) ∧ Below w.heap.size w w' := by
  subst hz hv
  have hsz : (bs s).size ≤ 140737488351232 := by simpa [bs, ByteArray.size] using hs
  have HB := Lib.hid (show (bs s).data.toList = s by simp [bs])
  cases ht : toks s with
  | bad x p =>
    have hx := toks_bad _ _ _ ht
    have hx0 : ((x : Int) == 0) = false := beq_eq_false_iff_ne.2 (by omega)
    have HT := Lib.hid ht; clear ht hx
    generalize bs s = sz at hsz HB ⊢
    generalize bs t = tz
    go_enter Try.func95, Try.ntmps95
    go_wp2_with (go_at_call 10; refine (tokens_bad hsz hm (by rw [HB.out]; exact HT.out)).mono ?_; rintro e w1 ⟨rfl, hb⟩)
    go_ret
    exact ⟨ret_bool (by unfold oneB; rw [HT.out]), hb.alloc hb.size _⟩
  | good l =>
    by_cases hl : l.length = 2
    · obtain ⟨u, e, rfl⟩ : ∃ t e, l = [t, e] := by
        match l, hl with
        | [t, e], _ => exact ⟨t, e, rfl⟩
      have HT := Lib.hid ht; clear ht hl
      by_cases hk : u.kind = k
      · have k1 : ((u.kind : Int) == (k : Int)) = true := by rw [hk]; exact beq_iff_eq.2 rfl
        have HK := Lib.hid hk; clear hk
        have k2 := strs_eq u.text t
        generalize hd : decide (u.text = t) = d at k2
        have HD := Lib.hid hd; clear hd
        generalize bs s = sz at hsz HB ⊢
        generalize bs t = tz at k2 ⊢
        cases d with
        | true =>
          go_enter Try.func95, Try.ntmps95
          go_wp2_with (go_at_call 10; refine (tokens_good hsz hm (by rw [HB.out]; exact HT.out)).mono ?_; rintro e w1 ⟨g, cap, rfl, hg1, hg2, hg3, hg4, hg5, hb⟩; have q0 := fun o => (toks_at hg5 hg2 0 0 (by simp) rfl u rfl o).1; have q1 := fun o => (toks_at hg5 hg2 0 0 (by simp) rfl u rfl o).2.1)
          go_ret
          exact ⟨ret_bool (by unfold oneB; rw [HT.out]; simp [HK.out, of_decide_eq_true HD.out, Ready.tok]), hb.alloc hb.size _⟩
        | false =>
          go_enter Try.func95, Try.ntmps95
          go_wp2_with (go_at_call 10; refine (tokens_good hsz hm (by rw [HB.out]; exact HT.out)).mono ?_; rintro e w1 ⟨g, cap, rfl, hg1, hg2, hg3, hg4, hg5, hb⟩; have q0 := fun o => (toks_at hg5 hg2 0 0 (by simp) rfl u rfl o).1; have q1 := fun o => (toks_at hg5 hg2 0 0 (by simp) rfl u rfl o).2.1)
          go_ret
          exact ⟨ret_bool (by unfold oneB; rw [HT.out]; simp [HK.out, of_decide_eq_false HD.out, Ready.tok]), hb.alloc hb.size _⟩
      · have k1 : ((u.kind : Int) == (k : Int)) = false := beq_eq_false_iff_ne.2 (by omega)
        have HK := Lib.hid hk; clear hk
        generalize bs s = sz at hsz HB ⊢
        generalize bs t = tz
        go_enter Try.func95, Try.ntmps95
        go_wp2_with (go_at_call 10; refine (tokens_good hsz hm (by rw [HB.out]; exact HT.out)).mono ?_; rintro e w1 ⟨g, cap, rfl, hg1, hg2, hg3, hg4, hg5, hb⟩; have q0 := fun o => (toks_at hg5 hg2 0 0 (by simp) rfl u rfl o).1; have q1 := fun o => (toks_at hg5 hg2 0 0 (by simp) rfl u rfl o).2.1)
        go_ret
        exact ⟨ret_bool (by unfold oneB; rw [HT.out]; simp [HK.out, Ready.tok]), hb.alloc hb.size _⟩
    · have hl0 : ((l.length : Int) == 2) = false := beq_eq_false_iff_ne.2 (by omega)
      have HL := Lib.hid hl; clear hl
      have HT := Lib.hid ht; clear ht
      generalize bs s = sz at hsz HB ⊢
      generalize bs t = tz
      go_enter Try.func95, Try.ntmps95
      go_wp2_with (go_at_call 10; refine (tokens_good hsz hm (by rw [HB.out]; exact HT.out)).mono ?_; rintro e w1 ⟨g, cap, rfl, hg1, hg2, hg3, hg4, hg5, hb⟩)
      go_ret
      refine ⟨ret_bool ?_, hb.alloc hb.size _⟩
      unfold oneB; rw [HT.out]
      simp [HL.out]
theorem name_any {s : List UInt8} {v : Bool} {w : World} {m : Int} (hs : s.length ≤ 140737488351232) (hm : w.cell? ⟨0, 0, none⟩ = some (.int .i64 m)) (hv : nameB s = v) :
    Calls Try.prog 92 #[.string (bs s)] w fun e w' => e = .returned (.bool v) ∧ Below w.heap.size w w' := by
  have ho := Lib.hid (one_any (kz := 2) hs hm rfl hv)
  generalize bs s = sz at ho ⊢
  clear hs hm hv
  go_enter Try.func92, Try.ntmps92
  go_wp2_with (go_at_call 95; refine (ho.out).mono ?_; rintro e w1 ⟨rfl, hb⟩)
  go_ret
  exact ⟨rfl, hb⟩
/-- the writer's own panic -/
def wrongP : List PanicEntry := [{ v := .iface 88 (.agg #[]), recovered := false }]
/-- how what must be ends -/
def Must (v : Bool) (e : Ending) : Prop := if v = true then e = .returned (.tuple #[]) else e = .panicked wrongP
set_option maxRecDepth 100000 in
set_option maxHeartbeats 1000000 in
theorem must_t {w : World} {g : Nat} (hg : g = w.heap.size) : Calls Try.prog 74 #[.slice (some ⟨g, 0, none⟩) 1 1] (w.alloc (.cells #[.bool true] 4)) fun e w' => e = .returned (.tuple #[]) ∧ w' = w.alloc (.cells #[.bool true] 4) := by
  subst hg
  have c0 : (w.alloc (.cells #[.bool true] 4)).cell? ⟨w.heap.size, 0, none⟩ = some (.bool true) := cell_of_row _ w.heap.size 0 _ _ (0, 0) (heap_alloc_new w _)
  generalize w.alloc (.cells #[.bool true] 4) = w1 at *
  generalize w.heap.size = g at *
  go_enter Try.func74, Try.ntmps74
  go_wp2
  go_loopg [6] 1 (fun gk i wr => ∃ k : Nat, k ≤ 1 ∧ gk = 1 - k ∧ i = .int .i64 (k : Int) ∧ wr = w1)
  case atStart => exact ⟨0, by omega, by omega, rfl, rfl⟩
  case round =>
    obtain ⟨k, hk, rfl, rfl, rfl⟩ := hrel
    rcases (by omega : k = 0 ∨ k = 1) with rfl | rfl
    · go_wp2
      go_roundg 0
      case measure => omega
      case rel => exact ⟨1, by omega, by omega, rfl, rfl⟩
    · go_wp2
      go_end0
      exact ⟨rfl, rfl⟩
set_option maxRecDepth 100000 in
set_option maxHeartbeats 1000000 in
theorem must_f {w : World} {g : Nat} (hg : g = w.heap.size) : Calls Try.prog 74 #[.slice (some ⟨g, 0, none⟩) 1 1] (w.alloc (.cells #[.bool false] 4)) fun e w' => e = .panicked wrongP ∧ w' = w.alloc (.cells #[.bool false] 4) := by
  subst hg
  have c0 : (w.alloc (.cells #[.bool false] 4)).cell? ⟨w.heap.size, 0, none⟩ = some (.bool false) := cell_of_row _ w.heap.size 0 _ _ (0, 0) (heap_alloc_new w _)
  generalize w.alloc (.cells #[.bool false] 4) = w1 at *
  generalize w.heap.size = g at *
  go_enter Try.func74, Try.ntmps74
  go_wp2
  go_loopg [6] 1 (fun gk i wr => gk = 1 ∧ i = .int .i64 0 ∧ wr = w1)
  case atStart => exact ⟨rfl, rfl, rfl⟩
  case round =>
    obtain ⟨rfl, rfl, rfl⟩ := hrel
    go_wp2
    exact ⟨rfl, rfl, rfl⟩
theorem must_any {w : World} {g : Nat} (hg : g = w.heap.size) (v : Bool) : Calls Try.prog 74 #[.slice (some ⟨g, 0, none⟩) 1 1] (w.alloc (.cells #[.bool v] 4)) fun e w' => Must v e ∧ w' = w.alloc (.cells #[.bool v] 4) := by
  cases v with
  | true => exact (must_t hg).mono fun e w' h => ⟨h.1, h.2⟩
  | false => exact (must_f hg).mono fun e w' h => ⟨h.1, h.2⟩
theorem flat_next {α : Type} {ts : List (List α)} {k : Nat} (h : k < ts.length) : (ts.take (k + 1)).flatten = (ts.take k).flatten ++ ts[k] := by
  have e : ts.take (k + 1) = ts.take k ++ [ts[k]] := by simp
  rw [e, List.flatten_append]
  simp
set_option maxRecDepth 100000 in
set_option maxHeartbeats 2000000 in
/-- texts put behind -/
theorem put_any {B b g c : Nat} {l : List UInt8} {ts : List (List UInt8)} {w : World} (h : IsW B b l w) (hB : B ≤ w.heap.size) (ht : ∀ w', Kb B b w w' → ∀ j (hj : j < ts.length), w'.cell? ⟨g, j, none⟩ = some (.string (bs (ts[j])))) (hlen : l.length + ts.flatten.length ≤ 140737488355328) (hts : ts.length ≤ 1000000) :
    Calls Try.prog 49 #[.pointer (some ⟨b, 0, none⟩), .slice (some ⟨g, 0, none⟩) ts.length c] w fun e w' => e = .returned (.tuple #[]) ∧ IsW B b (l ++ ts.flatten) w' ∧ Kb B b w w' := by
  have H := Lib.hid h; have HT := Lib.hid ht; have HL := Lib.hid hlen
  clear h ht hlen
  go_enter Try.func49, Try.ntmps49
  go_wp2
  go_loopg [8] ts.length (fun gk i wr => ∃ (k : Nat), k ≤ ts.length ∧ gk = ts.length - k ∧ i = .int .i64 (k : Int) ∧ IsW B b (l ++ (ts.take k).flatten) wr ∧ Kb B b w wr)
  case atStart => exact ⟨0, by omega, by omega, rfl, by simpa using H.out, .refl _ _ _⟩
  case round =>
    obtain ⟨k, hk, rfl, rfl, hW, hK⟩ := hrel
    by_cases hlt : k < ts.length
    · have d1 := HT.out _ hK k hlt
      have hnx : (ts.take (k + 1)).flatten = (ts.take k).flatten ++ ts[k] := flat_next hlt
      have hle : l.length + ((ts.take k).flatten ++ ts[k]).length ≤ 140737488355328 := by
        have h1 := HL.out
        have h2 : ts.flatten = (ts.take (k + 1)).flatten ++ (ts.drop (k + 1)).flatten := by rw [← List.flatten_append, List.take_append_drop]
        rw [h2, hnx, List.length_append] at h1
        omega
      have HN := Lib.hid hnx; clear hnx
      generalize ts[k] = x at d1 hle HN
      have j0 : (0 : Int) ≤ (k : Int) := by omega
      have j1 : (k : Int) < (ts.length : Int) := by omega
      have hsz := hK.size
      have HW := Lib.hid hW; have HK := Lib.hid hK; clear hW hK
      go_wp2_with (go_at_call 76; refine (write_any HW.out (by simp only [List.length_append] at hle ⊢; omega) (by omega)).mono ?_; rintro e w2 ⟨rfl, hW2, hK2⟩)
      have HW2 := Lib.hid hW2; have HK2 := Lib.hid hK2; clear hW2 hK2
      go_roundg (ts.length - (k + 1))
      case measure => omega
      case rel => exact ⟨k + 1, by omega, rfl, by go_num, by rw [HN.out, ← List.append_assoc]; exact HW2.out, HK.out.trans HK2.out⟩
    · have hke : ts.take k = ts := List.take_of_length_le (by omega)
      rw [hke] at hW
      have HW := Lib.hid hW; have HK := Lib.hid hK; clear hW hK
      go_wp2
      go_end0
      exact ⟨rfl, HW.out, HK.out⟩
end Go.Proofs.Ytelpkldlkpoioaa.WrG
