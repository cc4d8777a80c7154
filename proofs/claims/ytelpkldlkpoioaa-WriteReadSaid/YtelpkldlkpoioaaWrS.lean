/- How much is written of what was read. Plain. -/
import Derived.Test.YtelpkldlkpoioaaWrP
namespace Go.Proofs.Ytelpkldlkpoioaa.WrS
open Go.Proofs.Ytelpkldlkpoioaa.Lexy Go.Proofs.Ytelpkldlkpoioaa.Ready Go.Proofs.Ytelpkldlkpoioaa.WrA Go.Proofs.Ytelpkldlkpoioaa.WrB Go.Proofs.Ytelpkldlkpoioaa.WrC Go.Proofs.Ytelpkldlkpoioaa.WrD Go.Proofs.Ytelpkldlkpoioaa.WrE Go.Proofs.Ytelpkldlkpoioaa.WrP

def sumW : List Wd → Nat
  | [] => 0
  | x :: xs => (wrW x).length + 2 + sumW xs
theorem sumW_snoc : ∀ (l : List Wd) (x : Wd), sumW (l ++ [x]) = sumW l + ((wrW x).length + 2)
  | [], x => by simp [sumW]
  | y :: l, x => by rw [List.cons_append, sumW, sumW, sumW_snoc l x]; omega
theorem wrWs_len : ∀ l : List Wd, (wrWs l).length = sumW l + 1
  | [] => by rw [wrWs, sumW]; rfl
  | x :: l => by rw [wrWs, sumW]; simp only [List.length_cons, List.length_append, wrWs_len l]; omega
theorem wrP_len (l : List Wd) : (wrP l).length ≤ sumW l := by
  cases l with
  | nil => rw [wrP]; simp
  | cons x l => rw [wrP, sumW]; simp only [List.length_cons, List.length_append, wrWs_len l]; omega
theorem name_len {T : List Tok} (hT : Fit T) {i : Nat} (h : isK T i 2 = true) : (tok T i).text.length ≤ 40 := (name_iff.1 (hT.name i h)).len
def SzA : Job → Ans → Prop
  | .word k _, .one x k1 => k < k1 ∧ (wrW x).length ≤ 100 * (k1 - k)
  | .args k _ acc, .many xs k1 => k ≤ k1 ∧ sumW xs ≤ sumW acc + 100 * (k1 - k)
  | _, _ => True
theorem PR_sz {T : List Tok} (hT : Fit T) {j : Job} {a : Ans} (h : PR T j a) : SzA j a := by
  induction h with
  | name h1 hd h2 =>
    have := name_len hT h1
    refine ⟨by omega, ?_⟩
    rw [wrW, wrP, List.append_nil]; omega
  | whole h1 hd h3 _ _ h4 ih1 ih2 =>
    rename_i k d k1 k2 x xs _ _
    have i1 : k + 2 < k1 ∧ (wrW x).length ≤ 100 * (k1 - (k + 2)) := ih1
    have i2 : k1 ≤ k2 ∧ sumW xs ≤ sumW [x] + 100 * (k2 - k1) := ih2
    have hn := name_len hT h1
    have hp := wrP_len xs
    have hs : sumW [x] = (wrW x).length + 2 := by simp [sumW]
    refine ⟨by omega, ?_⟩
    rw [wrW, List.length_append]; omega
  | stop _ => exact ⟨Nat.le_refl _, by omega⟩
  | @next k d k1 acc x a _ _ _ ih1 ih2 =>
    have i1 : k + 1 < k1 ∧ (wrW x).length ≤ 100 * (k1 - (k + 1)) := ih1
    cases a with
    | many xs k2 =>
      have i2 : k1 ≤ k2 ∧ sumW xs ≤ sumW (acc ++ [x]) + 100 * (k2 - k1) := ih2
      rw [sumW_snoc] at i2
      exact ⟨by omega, by omega⟩
    | one _ _ => trivial
    | bad _ _ => trivial
  | _ => trivial
theorem wrL_snoc (l : List Wd) (x : Wd) : (wrL (l ++ [x])).length = (wrL l).length + ((wrW x).length + 1) := by
  simp [wrL]
theorem WordsR_sz {T : List Tok} (hT : Fit T) {k : Nat} {acc : List Wd} {o : Out (List Wd)} (h : WordsR T k acc o) : ∀ ws k1, o = .ok ws k1 → k ≤ k1 ∧ (wrL ws).length ≤ (wrL acc).length + 101 * (k1 - k) := by
  induction h with
  | stop _ => intro ws k1 e; cases e; exact ⟨Nat.le_refl _, by omega⟩
  | fail _ _ => intro ws k1 e; cases e
  | @next k k2 acc x o _ h2 _ ih =>
    intro ws k1 e
    have i1 : k < k2 ∧ (wrW x).length ≤ 100 * (k2 - k) := PR_sz hT h2
    obtain ⟨j1, j2⟩ := ih ws k1 e
    rw [wrL_snoc] at j2
    exact ⟨by omega, by omega⟩
theorem act_len {T : List Tok} (hT : Fit T) {i : Nat} (h : isK T i 9 = true) : (tok T i).text.length ≤ 65534 := by
  have := hT.act i h
  unfold actB oneB at this
  cases ht : toks (123 :: ((tok T i).text ++ [125])) with
  | bad e p => rw [ht] at this; cases this
  | good l =>
    obtain ⟨_, _, _, _, h2⟩ := toks_shape ht
    simp only [List.length_cons, List.length_append, List.length_nil] at h2
    omega
theorem AltR_sz {T : List Tok} (hT : Fit T) {k : Nat} {o : Out Al} (h : AltR T k o) : ∀ x k1, o = .ok x k1 → k ≤ k1 ∧ (wrA x).length ≤ 66000 * (k1 - k) + 1 := by
  intro x k1 e
  cases h with
  | words _ => cases e
  | prec _ _ => cases e
  | @ok ws j1 j2 q h1 h2 =>
    obtain ⟨w1, w2⟩ := WordsR_sz hT h1 _ _ rfl
    have w3 : (wrL []).length = 0 := rfl
    rw [w3] at w2
    have hq : j1 ≤ j2 ∧ (wrPrec q).length ≤ 100 * (j2 - j1) := by
      rcases precL_ok h2 with ⟨_, hq, hj⟩ | ⟨_, hn, hq, hj⟩
      · subst hq hj; exact ⟨Nat.le_refl _, by simp [wrPrec]⟩
      · have := name_len hT hn
        subst hj
        refine ⟨by omega, ?_⟩
        unfold wrPrec
        split
        · simp
        · rw [hq]; simp only [List.length_cons, List.length_append, precT, List.length_nil]; omega
    cases e
    unfold actL
    split
    · rename_i hk
      have := act_len hT hk
      refine ⟨by simp only; omega, ?_⟩
      simp only [wrA, wrAct, if_true, List.length_append, List.length_cons, List.length_nil]
      omega
    · refine ⟨by simp only; omega, ?_⟩
      simp only [wrA, wrAct, Bool.false_eq_true, if_false, List.length_append, List.length_cons, List.length_nil]
      omega
theorem wrAs_snoc (l : List Al) (x : Al) : (wrAs (l ++ [x])).length = (wrAs l).length + ((wrA x).length + 2) := by
  simp [wrAs]
theorem AltsR_sz {T : List Tok} (hT : Fit T) {k : Nat} {acc : List Al} {o : Out (List Al)} (h : AltsR T k acc o) : ∀ zs k1, o = .ok zs k1 → k ≤ k1 ∧ (wrAs zs).length ≤ (wrAs acc).length + 66000 * (k1 - k) := by
  induction h with
  | stop _ => intro ws k1 e; cases e; exact ⟨Nat.le_refl _, by omega⟩
  | fail _ _ => intro ws k1 e; cases e
  | @next k k2 acc x o _ h2 _ ih =>
    intro ws k1 e
    obtain ⟨i1, i2⟩ := AltR_sz hT h2 _ _ rfl
    obtain ⟨j1, j2⟩ := ih ws k1 e
    rw [wrAs_snoc] at j2
    exact ⟨by omega, by omega⟩
theorem wrAlts_len (l : List Al) : (wrAlts l).length ≤ (wrAs l).length := by
  cases l with
  | nil => simp [wrAlts]
  | cons a l =>
    have : (wrAs (a :: l)).length = (wrAs l).length + ((wrA a).length + 2) := by simp [wrAs]; omega
    rw [this, wrAlts]; simp only [List.length_cons, List.length_append]; omega
def sumN : List (List UInt8) → Nat
  | [] => 0
  | x :: xs => x.length + 2 + sumN xs
theorem sumN_snoc : ∀ (l : List (List UInt8)) (x : List UInt8), sumN (l ++ [x]) = sumN l + (x.length + 2)
  | [], x => by simp [sumN]
  | y :: l, x => by rw [List.cons_append, sumN, sumN, sumN_snoc l x]; omega
theorem wrNs_len : ∀ l : List (List UInt8), (wrNs l).length = sumN l + 1
  | [] => by rw [wrNs, sumN]; rfl
  | x :: l => by rw [wrNs, sumN]; simp only [List.length_cons, List.length_append, wrNs_len l]; omega
theorem wrN_len (l : List (List UInt8)) : (wrN l).length ≤ sumN l := by
  cases l with
  | nil => rw [wrN]; simp
  | cons x l => rw [wrN, sumN]; simp only [List.length_cons, List.length_append, wrNs_len l]; omega
theorem blanks_len : ∀ l : List (List UInt8), (blanks l).length ≤ sumN l
  | [] => by simp [blanks]
  | x :: l => by
    have : (blanks (x :: l)).length = x.length + 1 + (blanks l).length := by simp [blanks]; omega
    have := blanks_len l
    rw [sumN]; omega
theorem NamesR_sz {T : List Tok} (hT : Fit T) {k : Nat} {acc : List (List UInt8)} {o : Out (List (List UInt8))} (h : NamesR T k acc o) : ∀ zs k1, o = .ok zs k1 → k ≤ k1 ∧ sumN zs ≤ sumN acc + 42 * (k1 - k) := by
  induction h with
  | stop _ => intro ws k1 e; cases e; exact ⟨Nat.le_refl _, by omega⟩
  | fail _ _ => intro ws k1 e; cases e
  | @next k acc o _ h2 _ ih =>
    intro ws k1 e
    have := name_len hT h2
    obtain ⟨j1, j2⟩ := ih ws k1 e
    rw [sumN_snoc] at j2
    exact ⟨by omega, by omega⟩
theorem ParamsR_sz {T : List Tok} (hT : Fit T) {k : Nat} {o : Out (List (List UInt8))} (h : ParamsR T k o) : ∀ zs k1, o = .ok zs k1 → k ≤ k1 ∧ sumN zs ≤ 42 * (k1 - k) := by
  intro zs k1 e
  cases h with
  | none _ => cases e; exact ⟨Nat.le_refl _, by simp [sumN]⟩
  | whole _ h2 h3 _ =>
    cases e
    have := name_len hT h2
    obtain ⟨j1, j2⟩ := NamesR_sz hT h3 _ _ rfl
    have h5 : sumN [(tok T (k + 1)).text] = (tok T (k + 1)).text.length + 2 := by simp [sumN]
    exact ⟨by omega, by omega⟩
  | _ => cases e
theorem RuleR_sz {T : List Tok} (hT : Fit T) {k : Nat} {o : Out Ru} (h : RuleR T k o) : ∀ x k1, o = .ok x k1 → k ≤ k1 ∧ (wrR x).length ≤ 66000 * (k1 - k) := by
  intro x k1 e
  cases h with
  | whole h1 h2 _ h4 h5 _ =>
    rename_i ps j1 j2 j3 a ays _ _
    cases e
    have hn := name_len hT h1
    obtain ⟨p1, p2⟩ := ParamsR_sz hT h2 _ _ rfl
    obtain ⟨a1, a2⟩ := AltR_sz hT h4 _ _ rfl
    obtain ⟨b1, b2⟩ := AltsR_sz hT h5 _ _ rfl
    have h6 : (wrAs [a]).length = (wrA a).length + 2 := by simp [wrAs]
    have h7 := wrAlts_len ays
    have h8 := wrN_len ps
    refine ⟨by omega, ?_⟩
    simp only [wrR, List.length_append, List.length_cons, List.length_nil]
    omega
  | _ => cases e
theorem RulesR_sz {T : List Tok} (hT : Fit T) {k : Nat} {acc : List Ru} {o : Out (List Ru)} (h : RulesR T k acc o) : ∀ zs k1, o = .ok zs k1 → k ≤ k1 ∧ (zs.flatMap wrR).length ≤ (acc.flatMap wrR).length + 66000 * (k1 - k) := by
  induction h with
  | stop _ => intro ws k1 e; cases e; exact ⟨Nat.le_refl _, by omega⟩
  | fail _ _ => intro ws k1 e; cases e
  | @next k k2 acc x o _ h2 _ ih =>
    intro ws k1 e
    obtain ⟨i1, i2⟩ := RuleR_sz hT h2 _ _ rfl
    obtain ⟨j1, j2⟩ := ih ws k1 e
    have h5 : ((acc ++ [x]).flatMap wrR).length = (acc.flatMap wrR).length + (wrR x).length := by simp
    rw [h5] at j2
    exact ⟨by omega, by omega⟩
theorem namesL_sz {T : List Tok} (hT : Fit T) : ∀ (m k : Nat) (acc : List (List UInt8)), k ≤ (namesL T m k acc).2 ∧ sumN (namesL T m k acc).1 ≤ sumN acc + 42 * ((namesL T m k acc).2 - k)
  | 0, _, _ => ⟨Nat.le_refl _, by simp [namesL]⟩
  | m + 1, k, acc => by
    rw [namesL]
    split
    · rename_i hk
      have := name_len hT hk
      obtain ⟨j1, j2⟩ := namesL_sz hT m (k + 1) (acc ++ [(tok T k).text])
      rw [sumN_snoc] at j2
      exact ⟨by omega, by omega⟩
    · exact ⟨Nat.le_refl _, Nat.le_add_right _ _⟩
theorem word_len {w : List UInt8} (h : w ∈ wordsL) : w.length ≤ 8 := by
  simp only [wordsL, List.mem_cons, List.not_mem_nil, or_false] at h
  rcases h with rfl | rfl | rfl | rfl | rfl | rfl | rfl <;> decide
theorem declL_sz {T : List Tok} (hT : Fit T) {k k1 : Nat} {x : De} (hk : isK T k 1 = true) (h : declL T k = .ok x k1) : k ≤ k1 ∧ (wrD x).length ≤ 66000 * (k1 - k) := by
  unfold declL at h
  split at h
  · cases h
  split at h
  · cases h
  rename_i t j hty
  split at h
  · cases h
  rename_i h2
  simp only at h
  split at h
  · cases h
  have h2 : isK T j 2 = true := by simpa using h2
  have hw := word_len (hT.word _ hk)
  have hn := name_len hT h2
  obtain ⟨n1, n2⟩ := namesL_sz hT T.length (j + 1) [(tok T j).text]
  have h5 : sumN [(tok T j).text] = (tok T j).text.length + 2 := by simp [sumN]
  have h6 := blanks_len (namesL T T.length (j + 1) [(tok T j).text]).1
  cases h
  have hty2 : k + 1 ≤ j ∧ (wrTy t).length ≤ 43 := by
    rcases typeL_ok hty with ⟨_, _, g5, _, g6, h7⟩ | ⟨_, g6, h7⟩
    · have := name_len hT g5
      subst h7
      refine ⟨by omega, ?_⟩
      unfold wrTy
      split
      · simp
      · rw [g6]; simp only [List.length_cons, List.length_append, List.length_nil]; omega
    · subst g6 h7; exact ⟨Nat.le_refl _, by simp [wrTy]⟩
  refine ⟨by omega, ?_⟩
  simp only [wrD, List.length_append, List.length_cons, List.length_nil]
  omega
theorem DeclsR_sz {T : List Tok} (hT : Fit T) {k : Nat} {acc : List De} {o : Out (List De)} (h : DeclsR T k acc o) : ∀ zs k1, o = .ok zs k1 → k ≤ k1 ∧ (zs.flatMap wrD).length ≤ (acc.flatMap wrD).length + 66000 * (k1 - k) := by
  induction h with
  | stop _ => intro ws k1 e; cases e; exact ⟨Nat.le_refl _, by omega⟩
  | fail _ _ => intro ws k1 e; cases e
  | @next k k2 acc x o h1 h2 _ ih =>
    intro ws k1 e
    obtain ⟨i1, i2⟩ := declL_sz hT h1 h2
    obtain ⟨j1, j2⟩ := ih ws k1 e
    have h5 : ((acc ++ [x]).flatMap wrD).length = (acc.flatMap wrD).length + (wrD x).length := by simp
    rw [h5] at j2
    exact ⟨by omega, by omega⟩
/-- HOW MUCH IS WRITTEN OF WHAT WAS READ -/
theorem text_sz {s : List UInt8} {T : List Tok} {x : Tx} {k : Nat} (h : toks s = .good T) (hx : TextR T (.ok x k)) : (wrT x).length ≤ 66000 * k + 3 := by
  have hT := toks_fit h
  cases hx with
  | whole h1 _ h2 =>
    obtain ⟨a1, a2⟩ := DeclsR_sz hT h1 _ _ rfl
    obtain ⟨b1, b2⟩ := RulesR_sz hT h2 _ _ rfl
    simp only [List.flatMap_nil, List.length_nil] at a2 b2
    simp only [wrT, List.length_append, List.length_cons]
    omega
end Go.Proofs.Ytelpkldlkpoioaa.WrS
