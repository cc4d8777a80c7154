/- What stands behind a source's text makes no difference to its tokens; what is ahead turns their places. No program in sight. -/
import Derived.Test.YtelpkldlkpoioaaLexPlain2
namespace Go.Proofs.Ytelpkldlkpoioaa.Lexy

theorem runL_blank (l : List UInt8) (c : UInt8) (x : List UInt8) (hc : ldN c.toNat = false) : runL (l ++ c :: x) = runL l := by
  induction l with
  | nil => simp [runL, hc]
  | cons a r ih => simp [runL, ih]
theorem take_app {α : Type} (l y : List α) {n : Nat} (h : n ≤ l.length) : (l ++ y).take n = l.take n := by rw [List.take_append_of_le_length h]
theorem ws_ld {c : UInt8} (h : wsN c.toNat = true) : ldN c.toNat = false ∧ c.toNat ≠ 37 ∧ c.toNat ≠ 47 := by
  simp only [wsN, Bool.or_eq_true, decide_eq_true_eq] at h
  refine ⟨?_, by omega, by omega⟩
  simp only [ldN, letN, digN, Bool.or_eq_false_iff, Bool.and_eq_false_iff, decide_eq_false_iff_not]
  omega
theorem tokL_more {l : List UInt8} {k n : Nat} {t : List UInt8} {c : UInt8} (x : List UInt8) (hc : wsN c.toNat = true) (h : tokL l = .good k t n) : tokL (l ++ c :: x) = .good k t n := by
  obtain ⟨hc1, hc2, _⟩ := ws_ld hc
  cases l with
  | nil => simp [tokL] at h
  | cons a r =>
    rw [List.cons_append]
    simp only [tokL] at h ⊢
    split at h
    · rename_i h1
      rw [if_pos h1]
      have hr : runL (a :: (r ++ c :: x)) = runL (a :: r) := by rw [← List.cons_append]; exact runL_blank _ _ _ hc1
      have ht : (a :: (r ++ c :: x)).take (runL (a :: r)) = (a :: r).take (runL (a :: r)) := by rw [← List.cons_append]; exact take_app _ _ (runL_le _)
      rw [hr, ht]; exact h
    · rename_i h1
      rw [if_neg h1]
      split at h
      · rename_i h2
        rw [if_pos h2]
        have hr := runL_blank r c x hc1
        have ht : (r ++ c :: x).take (runL r) = r.take (runL r) := take_app _ _ (runL_le _)
        have hh : ((r ++ c :: x).head?.map (·.toNat) = some 37) ↔ (r.head?.map (·.toNat) = some 37) := by
          cases r with
          | nil => simp [hc2]
          | cons b s => simp
        split at h
        · rename_i h3
          rw [if_pos (hh.2 h3)]; exact h
        · rename_i h3
          rw [if_neg (fun e => h3 (hh.1 e)), hr, ht]; exact h
      · rename_i h2
        rw [if_neg h2]
        split at h
        · rename_i h3
          rw [if_pos h3]
          cases ha : autoL r 1 0 with
          | none => rw [ha] at h; cases h
          | some m =>
            rw [ha] at h
            have hm := (autoL_le _ _ _ _ ha).1
            have := autoL_app r 1 0 m (r.drop m ++ c :: x) ha
            rw [← List.append_assoc, List.take_append_drop] at this
            rw [this]
            simp only at h ⊢
            rw [take_app _ _ (by omega)]; exact h
        · rename_i h3
          rw [if_neg h3]
          split at h
          · rename_i h4
            rw [if_pos h4]; exact h
          · cases h

/-- tokens so far on -/
def sh (d : Nat) (t : Tok) : Tok := { t with at_ := t.at_ + d }
/-- tokens ahead of a result -/
def ahead (ts : List Tok) (r : Res) : Res := ts.foldr Res.cons r
theorem ahead_good (ts l : List Tok) : ahead ts (.good l) = .good (ts ++ l) := by
  induction ts with
  | nil => rfl
  | cons t ts ih => show Res.cons t (ahead ts (.good l)) = _; rw [ih]; rfl
theorem overL_app (l y : List UInt8) : overL (l ++ y) = if overL l < l.length then overL l else l.length + overL y := by
  induction l with
  | nil => simp [overL]
  | cons c r ih =>
    simp only [List.cons_append, overL]
    split
    · rename_i h; simp
    · rename_i h
      rw [ih]
      simp only [List.length_cons, Nat.add_lt_add_iff_right]
      split
      · rfl
      · omega
theorem lexA_tail {c : UInt8} {x : List UInt8} (hc : wsN c.toNat = true) (d : Nat) : ∀ (m : Nat) (l : List UInt8) (a : Nat) (ts : List Tok), l.length ≤ m → lexA l 0 a = .good (ts ++ [⟨7, [], a + l.length⟩]) →
    lexA (l ++ c :: x) 0 (a + d) = ahead (ts.map (sh d)) (lexA (c :: x) 0 (a + d + l.length)) ∨ lexA (l ++ c :: x) 0 (a + d) = ahead (ts.map (sh d)) (lexA ((c :: x).drop (overL (c :: x))) 0 (a + d + l.length + overL (c :: x))) := by
  intro m
  induction m with
  | zero =>
    intro l a ts hm h
    obtain rfl : l = [] := List.eq_nil_of_length_eq_zero (by omega)
    left
    have : ts = [] := by
      simp only [lexA, Res.good.injEq] at h
      have := congrArg List.length h
      simp at this; exact this
    subst this; rfl
  | succ m ih =>
    intro l a ts hm h
    cases l with
    | nil => exact ih [] a ts (by simp) h
    | cons b r =>
      have hne : b :: r ≠ [] := by simp
      have hne' : b :: r ++ c :: x ≠ [] := by simp
      have hhd : (b :: r ++ c :: x).headD 0 = (b :: r).headD 0 := rfl
      cases hw : wsN ((b :: r).headD 0).toNat with
      | true =>
        rw [lexA_ws _ _ hne hw] at h
        rw [lexA_ws _ _ hne' (by rw [hhd]; exact hw)]
        simp only [List.drop_succ_cons, List.drop_zero, List.cons_append] at h ⊢
        have := ih r (a + 1) ts (by simp at hm; omega) (by rw [h]; simp; omega)
        rw [show a + 1 + d = a + d + 1 by omega, show a + d + 1 + r.length = a + d + (b :: r).length by simp; omega] at this
        exact this
      | false =>
        have hcm : comL (b :: r ++ c :: x) = comL (b :: r) := by
          cases r with
          | nil => simp [comL, (ws_ld hc).2.2]
          | cons e s => rfl
        cases hcom : comL (b :: r) with
        | true =>
          rw [lexA_com _ _ hw hcom] at h
          have hle := overL_le (b :: r)
          have hap := overL_app (b :: r) (c :: x)
          have hcx := lexA_com (b :: r ++ c :: x) (a + d) (by rw [hhd]; exact hw) (by rw [hcm]; exact hcom)
          by_cases hlt : overL (b :: r) < (b :: r).length
          · rw [if_pos hlt] at hap
            rw [hap] at hcx
            rw [hcx, List.drop_append_of_le_length hle]
            have hpos := overL_pos _ hcom
            have := ih ((b :: r).drop (overL (b :: r))) (a + overL (b :: r)) ts (by simp only [List.length_drop]; omega) (by rw [h]; simp only [List.length_drop]; congr 4; omega)
            simp only [List.length_drop] at this
            rw [show a + overL (b :: r) + d = a + d + overL (b :: r) by omega, show a + d + overL (b :: r) + ((b :: r).length - overL (b :: r)) = a + d + (b :: r).length by omega] at this
            exact this
          · rw [if_neg hlt] at hap
            have hov : overL (b :: r) = (b :: r).length := by omega
            rw [hov, List.drop_length] at h
            have : ts = [] := by
              simp only [lexA, Res.good.injEq] at h
              have := congrArg List.length h
              simp at this; exact this
            subst this
            right
            rw [hcx, hap, List.drop_append, List.drop_eq_nil_of_le (by omega), List.nil_append, Nat.add_sub_cancel_left, Nat.add_assoc (a + d)]
            rfl
        | false =>
          rw [lexA_tok _ _ hne hw hcom] at h
          rw [lexA_tok _ _ hne' (by rw [hhd]; exact hw) (by rw [hcm]; exact hcom)]
          cases ht : tokL (b :: r) with
          | bad e => rw [ht] at h; cases h
          | good k t n =>
            rw [ht] at h
            rw [tokL_more x hc ht]
            have hn := tokL_le _ _ _ _ ht
            have hk := tokL_kind _ _ _ _ ht
            simp only at h ⊢
            rw [List.drop_append_of_le_length hn.2]
            cases hl : lexA ((b :: r).drop n) 0 (a + n) with
            | bad e p => rw [hl] at h; cases h
            | good l2 =>
              rw [hl] at h
              simp only [Res.cons, Res.good.injEq] at h
              cases ts with
              | nil => simp only [List.nil_append, List.cons.injEq, Tok.mk.injEq] at h; omega
              | cons t0 ts =>
                simp only [List.cons_append, List.cons.injEq] at h
                obtain ⟨rfl, rfl⟩ := h
                have := ih ((b :: r).drop n) (a + n) ts (by simp only [List.length_drop]; omega) (by rw [hl]; simp only [List.length_drop]; congr 4; omega)
                simp only [List.length_drop] at this
                rw [show a + n + d = a + d + n by omega, show a + d + n + ((b :: r).length - n) = a + d + (b :: r).length by omega] at this
                rcases this with h | h
                · left; rw [h]; rfl
                · right; rw [h]; rfl
end Go.Proofs.Ytelpkldlkpoioaa.Lexy
