/- Comments ahead of line ends change nothing but places: walked. -/
import Derived.Test.YtliddljdidofaaaDoorScanQ
import Derived.Test.YtliddljdidofaaaDoorScanPlain4
namespace Go.Proofs.YtliddljdidofaaaDoor.ScanR
open Go.RowKit Go.Proofs.YtliddljdidofaaaDoor.Lexy Go.Proofs.YtliddljdidofaaaDoor.Heap Go.Proofs.YtliddljdidofaaaDoor.Base Go.Proofs.YtliddljdidofaaaDoor.Scany Go.Proofs.YtliddljdidofaaaDoor.ScanA Go.Proofs.YtliddljdidofaaaDoor.ScanB Go.Proofs.YtliddljdidofaaaDoor.ScanC Go.Proofs.YtliddljdidofaaaDoor.ScanD Go.Proofs.YtliddljdidofaaaDoor.ScanE Go.Proofs.YtliddljdidofaaaDoor.ScanH Go.Proofs.YtliddljdidofaaaDoor.ScanI Go.Proofs.YtliddljdidofaaaDoor.ScanL Go.Proofs.YtliddljdidofaaaDoor.ScanM Go.Proofs.YtliddljdidofaaaDoor.ScanN Go.Proofs.YtliddljdidofaaaDoor.ScanO Go.Proofs.YtliddljdidofaaaDoor.ScanP

/-- each line's end replaced -/
def rep : List UInt8 → List UInt8
  | [] => []
  | c :: r => if c.toNat = 10 then nlL ++ rep r else c :: rep r
theorem phi_rep (s : List UInt8) : phi s = rep s ++ tailL := by
  induction s with
  | nil => rfl
  | cons c r ih => by_cases h : c.toNat = 10 <;> simp [phi, rep, h, ih]
theorem replaceK_rep : ∀ (s : List UInt8), Lib.replaceK [10] nlL (Lib.count s [10]) s = rep s := by
  -- by the length: a line's end, or none
  have main : ∀ (n : Nat) (s : List UInt8), s.length ≤ n → Lib.replaceK [10] nlL (Lib.count s [10]) s = rep s := by
    intro n
    induction n with
    | zero =>
      intro s hs
      obtain rfl : s = [] := List.eq_nil_of_length_eq_zero (by omega)
      rfl
    | succ n ih =>
      intro s hs
      cases s with
      | nil => rfl
      | cons c r =>
        simp only [List.length_cons] at hs
        by_cases hc : c.toNat = 10
        · have := u8_eq hc; subst this
          have hi : Lib.index (10 :: r) [10] = ((0 : Nat) : Int) := by simp [Lib.index, List.isPrefixOf]
          rw [show (UInt8.ofNat 10 : UInt8) = 10 from rfl, Lib.count_cons_eq, Nat.add_comm, Lib.replaceK_hit _ _ _ _ 0 hi]
          simp only [List.take_zero, List.nil_append, Nat.zero_add, List.length_cons, List.length_nil, List.drop_succ_cons, List.drop_zero]
          rw [ih r (by omega)]
          simp [rep]
        · have hne : c ≠ 10 := by rintro rfl; exact hc rfl
          rw [Lib.count_cons_ne _ _ _ hne]
          have hr := ih r (by omega)
          have hb : ((10 : UInt8) == c) = false := beq_eq_false_iff_ne.2 (fun e => hne e.symm)
          rw [show rep (c :: r) = c :: rep r by simp [rep, hc], ← hr]
          cases hk : Lib.count r [10] with
          | zero => rfl
          | succ k =>
            obtain ⟨i, hi⟩ := Lib.index_of_count (s := r) (old := [10]) (by omega)
            have hi2 : Lib.index (c :: r) [10] = ((i + 1 : Nat) : Int) := by
              have hm : ¬ (Lib.index r [10] == -1) = true := fun e => by have := beq_iff_eq.1 e; omega
              simp only [Lib.index, List.isPrefixOf, hb, Bool.false_and, Bool.false_eq_true, if_false, if_neg hm]
              rw [hi]; omega
            rw [Lib.replaceK_hit _ _ _ _ (i + 1) hi2, Lib.replaceK_hit _ _ _ _ i hi]
            simp
  intro s
  exact main _ s (Nat.le_refl _)
theorem replaceAll_rep (s : List UInt8) : Lib.replaceAll s [10] nlL = rep s := by
  have h : Lib.replaceNum s [10] (-1) = Lib.count s [10] := by unfold Lib.replaceNum; simp
  unfold Lib.replaceAll Lib.replace
  rw [h, if_neg (by decide)]
  exact replaceK_rep s
theorem count_nl (s : List UInt8) : Lib.countByte s 10 = nlCount s := by
  unfold Lib.countByte nlCount
  rw [List.count_eq_countP, List.countP_eq_length_filter]
theorem count_one_at {s : ByteArray} {w : World} {n : Nat} (h : nlCount s.data.toList = n) :
    Calls Tryd.prog 11 #[.string s, .string { data := #[10] }] w fun e w' => e = .returned (.int .i64 (n : Int)) ∧ w' = w := by
  subst h
  refine (Tryd.strings_Count_one s 10 w).mono ?_
  rintro e w' ⟨he, hw⟩
  exact ⟨by rw [he, count_nl], hw⟩
theorem replace_at {s X : ByteArray} {w : World} (hG : Gl w w.heap.size) (hs : s.size ≤ 20000) (hX : bs (rep s.data.toList) = X) (hc : nlCount s.data.toList ≤ 2000) :
    Calls Tryd.prog 12 #[.string s, .string { data := #[10] }, .string { data := #[32, 47, 47, 32, 120, 34, 32, 0, 10] }] w fun e w' => e = .returned (.string X) ∧ Below w.heap.size w w' := by
  obtain ⟨_, ⟨m, hm⟩, _⟩ := hG
  subst hX
  refine (Tryd.strings_ReplaceAll s { data := #[10] } { data := #[32, 47, 47, 32, 120, 34, 32, 0, 10] } m w (by omega) hm (by decide) ?_).mono ?_
  · have h1 : Lib.countB s { data := #[10] } = Lib.count s.data.toList [10] := rfl
    have h2 : Lib.count s.data.toList [10] = nlCount s.data.toList := by rw [Lib.count_one]; exact count_nl _
    have h3 : ({ data := #[32, 47, 47, 32, 120, 34, 32, 0, 10] } : ByteArray).size = 9 := rfl
    rw [h1, h2, h3]
    omega
  · rintro e w' ⟨he, hb⟩
    refine ⟨?_, hb⟩
    rw [he]
    exact ret_str (congrArg bs (replaceAll_rep s.data.toList))
set_option maxRecDepth 100000 in
set_option maxHeartbeats 4000000 in
theorem lines_any {s : ByteArray} {w : World} (hG : Gl w w.heap.size) :
    Calls Tryd.prog 5 #[.string s] w fun e w' => e = .returned (.bool true) ∧ Below w.heap.size w w' := by
  by_cases hs : (s.size : Int) ≤ 20000
  case neg =>
    go_enter Tryd.func5, Tryd.ntmps5
    go_wp2_with (go_at_call 6; refine (awake_any hG).mono ?_; rintro e w1 ⟨rfl, hb⟩)
    go_ret
    exact ⟨rfl, hb⟩
  obtain ⟨cn, hcn⟩ : ∃ cn, nlCount s.data.toList = cn := ⟨_, rfl⟩
  by_cases hc : (cn : Int) ≤ 2000
  case neg =>
    have HC := Lib.hid hcn; clear hcn
    go_enter Tryd.func5, Tryd.ntmps5
    go_wp2_with (first | (go_at_call 6; refine (awake_any hG).mono ?_; rintro e w1 ⟨rfl, hb⟩) | (go_at_call 11; refine (count_one_at HC.out).mono ?_; rintro e w2 ⟨rfl, rfl⟩))
    go_ret
    exact ⟨rfl, hb⟩
  have hs2 : s.size ≤ 140737488351232 := by omega
  cases ht : toksS s.data.toList with
  | bad x p =>
    have hx := toksS_bad _ _ _ ht
    have hx0 : ((x : Int) != 0) = true := bne_iff_ne.2 (by omega)
    have HT := Lib.hid ht; have HC := Lib.hid hcn; clear ht hx hcn
    go_enter Tryd.func5, Tryd.ntmps5
    go_wp2_with (first | (go_at_call 6; refine (awake_any hG).mono ?_; rintro e w1 ⟨rfl, hb1⟩; have hG1 := hG.at hb1) | (go_at_call 11; refine (count_one_at HC.out).mono ?_; rintro e w2 ⟨rfl, rfl⟩) | (go_at_call 7; refine (tokens_bad hs2 hG1 HT.out).mono ?_; rintro e w2 ⟨rfl, hb2⟩))
    go_ret
    exact ⟨rfl, (below_tr hb1 hb2).alloc (below_tr hb1 hb2).size _⟩
  | good l =>
    obtain ⟨hs65, ts, hl, hri, _, _⟩ := toksS_back _ _ ht
    have hcnt := rise_count ts 0 (by omega) hri
    have hszl : s.data.toList.length = s.size := by simp
    have hll : l.length ≤ 1000000 := by rw [hl]; simp; omega
    have hpl : (preL ++ phi s.data.toList).length ≤ 65536 := by
      rw [List.length_append, phi_len]
      have : preL.length = 9 := rfl
      omega
    obtain ⟨mm, hmm, hbm⟩ := toksS_lines _ _ ht hpl
    have hml2 := bare_len hbm
    obtain ⟨R, hR⟩ : ∃ R, bs (rep s.data.toList) = R := ⟨_, rfl⟩
    obtain ⟨Y, hY⟩ : ∃ Y, ({ data := #[9, 13, 32, 47, 47, 32, 103, 111, 10] } : ByteArray) ++ R = Y := ⟨_, rfl⟩
    obtain ⟨X, hX⟩ : ∃ X, Y ++ { data := #[9, 47, 47, 32, 48, 48, 55] } = X := ⟨_, rfl⟩
    have hXl : X.data.toList = preL ++ phi s.data.toList := by
      rw [← hX, ← hY, ← hR, phi_rep]; simp [bs, preL, tailL]
    have sX : X.size ≤ 65536 := by rw [szL, hXl]; exact hpl
    have sXY : X.size = Y.size + 7 := by rw [← hX, ByteArray.size_append]; rfl
    have sYR : Y.size = 9 + R.size := by rw [← hY, ByteArray.size_append]; rfl
    have hsz : X.size ≤ 140737488351232 := by omega
    have hRs : R.size ≤ 65536 := by omega
    have hYs : Y.size ≤ 65536 := by omega
    have HM := Lib.hid (show toksS X.data.toList = .good mm by rw [hXl]; exact hmm)
    have HT := Lib.hid ht; have HC := Lib.hid hcn; have HBM := Lib.hid hbm; have HR := Lib.hid hR
    have hcn2 : nlCount s.data.toList ≤ 2000 := by omega
    have HC2 := Lib.hid hcn2
    clear ht hcn hbm hR hmm hXl hl hri hpl hcn2 hszl sXY sYR hcnt hs65
    have hs3 : s.size ≤ 20000 := by omega
    go_enter Tryd.func5, Tryd.ntmps5
    go_wp2_with (first | (go_at_call 6; refine (awake_any hG).mono ?_; rintro e w1 ⟨rfl, hb1⟩; have hG1 := hG.at hb1) | (go_at_call 11; refine (count_one_at HC.out).mono ?_; rintro e w2 ⟨rfl, rfl⟩) | (go_at_call 7; (with_reducible refine (tokens_good hsz hG4 HM.out).mono ?_); rintro e w5 ⟨g2, cap2, rfl, k1, k2, k3, k4, k5, hb5⟩) | (go_at_call 7; (with_reducible refine (tokens_good hs2 hG1 HT.out).mono ?_); rintro e w3 ⟨g, cap, rfl, hg1, hg2, hg3, hg4, hg5, hb3⟩; have hb3' := hb3.alloc hb3.size (.cells #[.int .i64 0, .int .i64 0] 26); have hG3 := hG1.at hb3') | (go_at_call 12; refine (replace_at hG3 hs3 HR.out HC2.out).mono ?_; rintro e w4 ⟨rfl, hb4⟩; have hG4 := hG3.at hb4))
    have hT3 : IsToks (w3.alloc (.cells #[.int .i64 0, .int .i64 0] 26)) g l := fun i hi => IsToks.at hg5 hg2 i _ hi rfl _ rfl _
    have hgW : g < (w3.alloc (.cells #[.int .i64 0, .int .i64 0] 26)).heap.size := by simp; omega
    have hb45 := below_tr hb4 hb5
    have hbx := hb45.alloc hb45.size (.cells #[.int .i64 0, .int .i64 0] 26)
    refine (alike_any (l := l) (al_of (hT3.below hbx hgW) rfl) (al_of (fun i hi => IsToks.at k5 k2 i _ hi rfl _ rfl _) HBM.out) hll).mono ?_
    rintro e w6 ⟨rfl, n6, rfl⟩
    go_wp2
    go_ret
    exact ⟨rfl, (below_tr (below_tr hb1 hb3') hbx).drewN n6⟩
end Go.Proofs.YtliddljdidofaaaDoor.ScanR
