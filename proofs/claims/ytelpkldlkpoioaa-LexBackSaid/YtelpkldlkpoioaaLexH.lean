/- 'one', walked; an action within another one. -/
import Derived.Test.YtelpkldlkpoioaaLexG
namespace Go.Proofs.Ytelpkldlkpoioaa.LexH
open Go.RowKit Go.Proofs.Ytelpkldlkpoioaa.Lexy Go.Proofs.Ytelpkldlkpoioaa.LexA Go.Proofs.Ytelpkldlkpoioaa.LexB Go.Proofs.Ytelpkldlkpoioaa.LexC Go.Proofs.Ytelpkldlkpoioaa.LexD Go.Proofs.Ytelpkldlkpoioaa.LexE Go.Proofs.Ytelpkldlkpoioaa.LexF Go.Proofs.Ytelpkldlkpoioaa.LexG

/-- is a text, in braces, one action? -/
def oneB (s : List UInt8) : Bool :=
  match toks (123 :: (s ++ [125])) with
  | .good [t, _] => decide (t.kind = 9) && decide (t.text = s)
  | _ => false
theorem braced (s : ByteArray) : (({ data := #[123] } : ByteArray) ++ s ++ { data := #[125] }).data.toList = 123 :: (s.data.toList ++ [125]) := by simp

/-- a token's cells, behind a new block -/
theorem IsToks.at {w : World} {g : Nat} {l : List Tok} (h : IsToks w g l) (hg : g < w.heap.size) (i j : Nat) (hi : i < l.length) (hj : j = i * 3) (t : Tok) (ht : tk l i = t) :
    ∀ o, (w.alloc o).cell? ⟨g, j, none⟩ = some (.int .u8 (t.kind : Int)) ∧ (w.alloc o).cell? ⟨g, j + 1, none⟩ = some (.string (bs t.text)) ∧ (w.alloc o).cell? ⟨g, j + 2, none⟩ = some (.int .i64 (t.at_ : Int)) := by
  subst hj ht
  intro o
  obtain ⟨a, b, c⟩ := h i hi
  exact ⟨(World.cell?_alloc_past _ _ _ hg).trans a, (World.cell?_alloc_past _ _ _ hg).trans b, (World.cell?_alloc_past _ _ _ hg).trans c⟩
theorem str_eq (l : List UInt8) (s : ByteArray) : ((bs l).toList == s.toList) = decide (l = s.data.toList) := by
  rw [bs_toList, ByteArray.toList_eq]
  by_cases h : l = s.data.toList
  · rw [decide_eq_true h]; exact beq_iff_eq.2 h
  · rw [decide_eq_false h]; exact beq_eq_false_iff_ne.2 h
set_option maxRecDepth 100000 in
set_option maxHeartbeats 1000000 in
theorem one_any {s : ByteArray} {w : World} {m : Int} (hs : s.size ≤ 1000000) (hm : w.cell? ⟨0, 0, none⟩ = some (.int .i64 m)) :
    Calls Try.prog 12 #[.string s] w fun e w' => e = .returned (.bool (oneB s.data.toList)) ∧ Below w.heap.size w w' := by
  have hsz : (({ data := #[123] } : ByteArray) ++ s ++ { data := #[125] }).size ≤ 140737488351232 := by
    have e1 : ({ data := #[123] } : ByteArray).size = 1 := rfl
    have e2 : ({ data := #[125] } : ByteArray).size = 1 := rfl
    simp [e1, e2]; omega
  have HB := Lib.hid (braced s)
  cases ht : toks (123 :: (s.data.toList ++ [125])) with
  | bad x p =>
    have hx := toks_bad _ _ _ ht
    have hx0 : ((x : Int) == 0) = false := beq_eq_false_iff_ne.2 (by omega)
    have HT := Lib.hid ht; clear ht hx
    go_enter Try.func12, Try.ntmps12
    go_wp2_with (go_at_call 10; refine (tokens_bad hsz hm (by rw [HB.out]; exact HT.out)).mono ?_; rintro e w1 ⟨rfl, hb⟩)
    go_ret
    exact ⟨ret_bool (by unfold oneB; rw [HT.out]), hb.alloc hb.size _⟩
  | good l =>
    by_cases hl : l.length = 2
    · obtain ⟨t, e, rfl⟩ : ∃ t e, l = [t, e] := by
        match l, hl with
        | [t, e], _ => exact ⟨t, e, rfl⟩
      have HT := Lib.hid ht; clear ht hl
      by_cases hk : t.kind = 9
      · have k1 : ((t.kind : Int) == 9) = true := by rw [hk]; rfl
        have HK := Lib.hid hk; clear hk
        by_cases hx : t.text = s.data.toList
        · have k2 : ((bs t.text).toList == s.toList) = true := by rw [str_eq]; exact decide_eq_true hx
          have HX := Lib.hid hx; clear hx
          go_enter Try.func12, Try.ntmps12
          go_wp2_with (go_at_call 10; refine (tokens_good hsz hm (by rw [HB.out]; exact HT.out)).mono ?_; rintro e w1 ⟨g, cap, rfl, hg1, hg2, hg3, hg4, hg5, hb⟩; have q0 := fun o => (IsToks.at hg5 hg2 0 0 (by simp) rfl t rfl o).1; have q1 := fun o => (IsToks.at hg5 hg2 0 0 (by simp) rfl t rfl o).2.1)
          go_ret
          exact ⟨ret_bool (by unfold oneB; rw [HT.out]; simp [HK.out, HX.out]), hb.alloc hb.size _⟩
        · have k2 : ((bs t.text).toList == s.toList) = false := by rw [str_eq]; exact decide_eq_false hx
          have HX := Lib.hid hx; clear hx
          go_enter Try.func12, Try.ntmps12
          go_wp2_with (go_at_call 10; refine (tokens_good hsz hm (by rw [HB.out]; exact HT.out)).mono ?_; rintro e w1 ⟨g, cap, rfl, hg1, hg2, hg3, hg4, hg5, hb⟩; have q0 := fun o => (IsToks.at hg5 hg2 0 0 (by simp) rfl t rfl o).1; have q1 := fun o => (IsToks.at hg5 hg2 0 0 (by simp) rfl t rfl o).2.1)
          go_ret
          exact ⟨ret_bool (by unfold oneB; rw [HT.out]; simp [HK.out, HX.out]), hb.alloc hb.size _⟩
      · have k1 : ((t.kind : Int) == 9) = false := beq_eq_false_iff_ne.2 (by omega)
        have HK := Lib.hid hk; clear hk
        go_enter Try.func12, Try.ntmps12
        go_wp2_with (go_at_call 10; refine (tokens_good hsz hm (by rw [HB.out]; exact HT.out)).mono ?_; rintro e w1 ⟨g, cap, rfl, hg1, hg2, hg3, hg4, hg5, hb⟩; have q0 := fun o => (IsToks.at hg5 hg2 0 0 (by simp) rfl t rfl o).1; have q1 := fun o => (IsToks.at hg5 hg2 0 0 (by simp) rfl t rfl o).2.1)
        go_ret
        exact ⟨ret_bool (by unfold oneB; rw [HT.out]; simp [HK.out]), hb.alloc hb.size _⟩
    · have hl0 : ((l.length : Int) == 2) = false := beq_eq_false_iff_ne.2 (by omega)
      have HL := Lib.hid hl; clear hl
      have HT := Lib.hid ht; clear ht
      go_enter Try.func12, Try.ntmps12
      go_wp2_with (go_at_call 10; refine (tokens_good hsz hm (by rw [HB.out]; exact HT.out)).mono ?_; rintro e w1 ⟨g, cap, rfl, hg1, hg2, hg3, hg4, hg5, hb⟩)
      go_ret
      refine ⟨ret_bool ?_, hb.alloc hb.size _⟩
      unfold oneB; rw [HT.out]
      have := HL.out
      match l, this with
      | [], _ => rfl
      | [_], _ => rfl
      | _ :: _ :: _ :: _, _ => rfl

theorem szL (s : ByteArray) : s.size = s.data.toList.length := by simp
theorem bs_self (s : ByteArray) : bs s.data.toList = s := rfl
theorem inner_of_one {s : List UInt8} (h : oneB s = true) : Inner s := by
  unfold oneB at h
  split at h
  · rename_i t e ht
    simp only [Bool.and_eq_true, decide_eq_true_eq] at h
    exact one_inner s t e ht h
  · cases h
theorem one_of_inner {s : List UInt8} (h : Inner s) (hl : s.length ≤ 65534) : oneB s = true := by
  have := inner_one s h hl
  unfold oneL at this
  unfold oneB; rw [this]; simp
/-- the same, behind a world that has grown -/
theorem one_t {s : ByteArray} {w : World} {m : Int} (hs : s.size ≤ 1000000) (hm : w.cell? ⟨0, 0, none⟩ = some (.int .i64 m)) (h : oneB s.data.toList = true) :
    Calls Try.prog 12 #[.string s] w fun e w' => e = .returned (.bool true) ∧ Below w.heap.size w w' := h ▸ one_any hs hm
theorem one_f {s : ByteArray} {w : World} {m : Int} (hs : s.size ≤ 1000000) (hm : w.cell? ⟨0, 0, none⟩ = some (.int .i64 m)) (h : oneB s.data.toList = false) :
    Calls Try.prog 12 #[.string s] w fun e w' => e = .returned (.bool false) ∧ Below w.heap.size w w' := h ▸ one_any hs hm

set_option maxRecDepth 100000 in
set_option maxHeartbeats 4000000 in
theorem inside_any {a b : ByteArray} {w : World} {m : Int} (hsa : a.size ≤ 140737488351232) (hsb : b.size ≤ 140737488351232) (hm : w.cell? ⟨0, 0, none⟩ = some (.int .i64 m)) :
    Calls Try.prog 4 #[.string a, .string b] w fun e w' => e = .returned (.bool true) ∧ Below w.heap.size w w' := by
  have hml := World.block_lt_of_cell? w _ hm
  simp only at hml
  by_cases ha : (a.size : Int) ≤ 10000
  case neg =>
    go_enter Try.func4, Try.ntmps4
    go_wp2_with (go_at_call 9; refine (awake_any hm).mono ?_; rintro e w1 ⟨rfl, hb1⟩; have hz1 := hb1.size; have hm1 := (hb1.cell (p := ⟨0, 0, none⟩) hml).trans hm)
    go_ret
    exact ⟨rfl, hb1⟩
  by_cases hb : (b.size : Int) ≤ 10000
  case neg =>
    go_enter Try.func4, Try.ntmps4
    go_wp2_with (go_at_call 9; refine (awake_any hm).mono ?_; rintro e w1 ⟨rfl, hb1⟩; have hz1 := hb1.size; have hm1 := (hb1.cell (p := ⟨0, 0, none⟩) hml).trans hm)
    go_ret
    exact ⟨rfl, hb1⟩
  cases h1 : oneB a.data.toList with
  | false =>
    have H1 := Lib.hid h1; clear h1
    go_enter Try.func4, Try.ntmps4
    go_wp2_with (first | (go_at_call 9; refine (awake_any hm).mono ?_; rintro e w1 ⟨rfl, hb1⟩; have hz1 := hb1.size; have hm1 := (hb1.cell (p := ⟨0, 0, none⟩) hml).trans hm) | (go_at_call 12; refine (one_f (by omega) hm1 H1.out).mono ?_; rintro e w2 ⟨rfl, hb2⟩))
    go_ret
    exact ⟨rfl, hb1.trans (hb2.mono hz1)⟩
  | true =>
    have H1 := Lib.hid h1; clear h1
    cases h2 : oneB b.data.toList with
    | false =>
      have H2 := Lib.hid h2; clear h2
      go_enter Try.func4, Try.ntmps4
      go_wp2_with (first | (go_at_call 9; refine (awake_any hm).mono ?_; rintro e w1 ⟨rfl, hb1⟩; have hz1 := hb1.size; have hm1 := (hb1.cell (p := ⟨0, 0, none⟩) hml).trans hm))
      refine (one_t (by omega) hm1 H1.out).mono ?_
      rintro e w2 ⟨rfl, hb2⟩
      have hm2 := (hb2.cell (p := ⟨0, 0, none⟩) (by simp; omega)).trans hm1
      have hz2 := hb2.size
      go_wp2_with fail
      refine (one_f (by omega) hm2 H2.out).mono ?_
      rintro e w3 ⟨rfl, hb3⟩
      go_wp2
      go_ret
      exact ⟨rfl, (hb1.trans (hb2.mono hz1)).trans (hb3.mono (by omega))⟩
    | true =>
      have H2 := Lib.hid h2; clear h2
      have i1 := inner_of_one H1.out
      have i2 := inner_of_one H2.out
      have la : a.data.toList.length ≤ 10000 := by simp; omega
      have lb : b.data.toList.length ≤ 10000 := by simp; omega
      have e1 : (({ data := #[120, 32, 123] } : ByteArray) ++ a ++ { data := #[125, 123] } ++ b ++ { data := #[125, 32, 121] }).data.toList = 120 :: 32 :: 123 :: (a.data.toList ++ 125 :: 123 :: (b.data.toList ++ [125, 32, 121])) := by simp
      have e2 : (a ++ ({ data := #[123] } : ByteArray) ++ b ++ { data := #[125] }).data.toList = a.data.toList ++ 123 :: (b.data.toList ++ [125]) := by simp
      have e3 : (({ data := #[123] } : ByteArray) ++ a ++ { data := #[125, 10, 123] } ++ b ++ { data := #[125] }).data.toList = 123 :: (a.data.toList ++ 125 :: 10 :: 123 :: (b.data.toList ++ [125])) := by simp
      have z1 : (({ data := #[120, 32, 123] } : ByteArray) ++ a ++ { data := #[125, 123] } ++ b ++ { data := #[125, 32, 121] }).size ≤ 140737488351232 := by
        rw [szL, e1]; simp at la lb ⊢; omega
      have z2 : (a ++ ({ data := #[123] } : ByteArray) ++ b ++ { data := #[125] }).size ≤ 1000000 := by
        rw [szL, e2]; simp at la lb ⊢; omega
      have z3 : (({ data := #[123] } : ByteArray) ++ a ++ { data := #[125, 10, 123] } ++ b ++ { data := #[125] }).size ≤ 1000000 := by
        rw [szL, e3]; simp at la lb ⊢; omega
      have t1 := inner_side a.data.toList b.data.toList i1 i2 la lb
      have o2 := one_of_inner (inner_in _ _ i1 i2) (by simp at la lb ⊢; omega)
      have o3 := one_of_inner (inner_two _ _ i1 i2) (by simp at la lb ⊢; omega)
      rw [← e1] at t1; rw [← e2] at o2; rw [← e3] at o3
      have T1 := Lib.hid t1; have O2 := Lib.hid o2; have O3 := Lib.hid o3
      have Z1 := Lib.hid z1; have Z2 := Lib.hid z2; have Z3 := Lib.hid z3
      clear t1 o2 o3 e1 e2 e3 i1 i2 la lb z1 z2 z3
      go_enter Try.func4, Try.ntmps4
      go_wp2_with (first | (go_at_call 9; refine (awake_any hm).mono ?_; rintro e w1 ⟨rfl, hb1⟩; have hz1 := hb1.size; have hm1 := (hb1.cell (p := ⟨0, 0, none⟩) hml).trans hm))
      refine (one_t (by omega) hm1 H1.out).mono ?_
      rintro e w2 ⟨rfl, hb2⟩
      have hm2 := (hb2.cell (p := ⟨0, 0, none⟩) (by simp; omega)).trans hm1
      have hz2 := hb2.size
      go_wp2_with fail
      refine (one_t (by omega) hm2 H2.out).mono ?_
      rintro e w3 ⟨rfl, hb3⟩
      have hm3 := (hb3.cell (p := ⟨0, 0, none⟩) (by simp; omega)).trans hm2
      have hz3 := hb3.size
      go_wp2_with fail
      refine (tokens_good Z1.out hm3 T1.out).mono ?_
      rintro e w4 ⟨g, cap, rfl, hg1, hg2, hg3, hg4, hg5, hb4⟩
      have hm4 := (hb4.cell (p := ⟨0, 0, none⟩) (by simp; omega)).trans hm3
      have hz4 := hb4.size
      have q0 : ∀ o, (w4.alloc o).cell? ⟨g, 3, none⟩ = some (.int .u8 9) := fun o => (IsToks.at hg5 hg2 1 3 (by simp) rfl _ rfl o).1
      have q1 : ∀ o, (w4.alloc o).cell? ⟨g, 4, none⟩ = some (.string a) := fun o => (IsToks.at hg5 hg2 1 3 (by simp) rfl _ rfl o).2.1
      have q2 : ∀ o, (w4.alloc o).cell? ⟨g, 6, none⟩ = some (.int .u8 9) := fun o => (IsToks.at hg5 hg2 2 6 (by simp) rfl _ rfl o).1
      have q3 : ∀ o, (w4.alloc o).cell? ⟨g, 7, none⟩ = some (.string b) := fun o => (IsToks.at hg5 hg2 2 6 (by simp) rfl _ rfl o).2.1
      go_wp2_with fail
      have hb5 := (((hb1.trans (hb2.mono hz1)).trans (hb3.mono (by omega))).trans (hb4.mono (by omega))).alloc (by omega) (.cells #[.int .i64 0, .int .i64 0] 26)
      have hm5 := (hb5.cell (p := ⟨0, 0, none⟩) hml).trans hm
      have hz5 := hb5.size
      refine (one_t Z2.out hm5 O2.out).mono ?_
      rintro e w6 ⟨rfl, hb6⟩
      have hm6 := (hb6.cell (p := ⟨0, 0, none⟩) (by simp <;> omega)).trans hm5
      have hz6 := hb6.size
      go_wp2_with fail
      refine (one_t Z3.out hm6 O3.out).mono ?_
      rintro e w7 ⟨rfl, hb7⟩
      go_wp2
      go_ret
      exact ⟨rfl, (hb5.trans (hb6.mono (by simp at hz5 ⊢ <;> omega))).trans (hb7.mono (by simp at hz5 hz6 ⊢ <;> omega))⟩
end Go.Proofs.Ytelpkldlkpoioaa.LexH
