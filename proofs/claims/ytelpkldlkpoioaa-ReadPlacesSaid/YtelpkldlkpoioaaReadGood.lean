/- What a text's parts are, that a row of tokens says: where they stand, how many they are; that they are said by other tokens alike. No program in sight. -/
import Derived.Test.YtelpkldlkpoioaaReadTok
import Derived.Test.YtelpkldlkpoioaaLexTail
namespace Go.Proofs.Ytelpkldlkpoioaa.Ready
open Go.Proofs.Ytelpkldlkpoioaa.Lexy

/-- a text stands at a place -/
def standsL (s : List UInt8) (at_ : Nat) (t : List UInt8) : Prop := at_ + t.length ≤ s.length ∧ (s.drop at_).take t.length = t
mutual
def thereW (s : List UInt8) : Wd → Prop
  | .mk n ws a => standsL s a n ∧ thereWs s ws
def thereWs (s : List UInt8) : List Wd → Prop
  | [] => True
  | x :: xs => thereW s x ∧ thereWs s xs
end
mutual
/-- how many words a word is -/
def szW : Wd → Nat
  | .mk _ ws _ => 1 + szWs ws
def szWs : List Wd → Nat
  | [] => 0
  | x :: xs => szW x + szWs xs
end
mutual
/-- a word without places -/
def bareW : Wd → Wd
  | .mk n ws _ => .mk n (bareWs ws) 0
def bareWs : List Wd → List Wd
  | [] => []
  | x :: xs => bareW x :: bareWs xs
end
def plainA (x : Al) : Al := { x with words := bareWs x.words, whr := 0, at_ := 0 }
def plainR (x : Ru) : Ru := { x with alts := x.alts.map plainA, at_ := 0 }
def plainD (x : De) : De := { x with at_ := 0 }
def plainT (x : Tx) : Tx := ⟨x.decls.map plainD, x.rules.map plainR⟩
theorem bareWs_map : ∀ l : List Wd, bareWs l = l.map bareW
  | [] => by simp [bareWs]
  | x :: xs => by simp [bareWs, bareWs_map xs]
theorem bareWs_snoc (l : List Wd) (x : Wd) : bareWs (l ++ [x]) = bareWs l ++ [bareW x] := by simp [bareWs_map]
theorem thereWs_snoc {s : List UInt8} : ∀ {l : List Wd} {x : Wd}, thereWs s l → thereW s x → thereWs s (l ++ [x])
  | [], x, _, h => by simp [thereWs]; exact h
  | y :: ys, x, h, hx => by
    simp only [thereWs, List.cons_append] at h ⊢
    exact ⟨h.1, thereWs_snoc h.2 hx⟩
theorem thereWs_mem {s : List UInt8} : ∀ {l : List Wd}, thereWs s l → ∀ x ∈ l, thereW s x
  | [], _, x, h => by cases h
  | y :: ys, ho, x, h => by
    simp only [thereWs] at ho
    rcases List.mem_cons.1 h with e | h
    · rw [e]; exact ho.1
    · exact thereWs_mem ho.2 x h
theorem szWs_snoc : ∀ (l : List Wd) (x : Wd), szWs (l ++ [x]) = szWs l + szW x
  | [], x => by simp [szWs]
  | y :: ys, x => by simp only [szWs, List.cons_append, szWs_snoc ys x]; omega
theorem szW_pos (x : Wd) : 1 ≤ szW x := by cases x; simp [szW]
theorem len_szWs : ∀ l : List Wd, l.length ≤ szWs l
  | [] => by simp
  | x :: xs => by have := len_szWs xs; have := szW_pos x; simp only [szWs, List.length_cons]; omega

/-- tokens of one list are those of another, so far on, but for places -/
def Alike (T T2 : List Tok) (d lo hi : Nat) : Prop := ∀ i, lo ≤ i → i ≤ hi → (tok T2 (i + d)).kind = (tok T i).kind ∧ (tok T2 (i + d)).text = (tok T i).text
theorem Alike.less {T T2 : List Tok} {d lo hi lo' hi' : Nat} (h : Alike T T2 d lo hi) (h1 : lo ≤ lo') (h2 : hi' ≤ hi) : Alike T T2 d lo' hi' := fun i a b => h i (by omega) (by omega)
theorem Alike.k {T T2 : List Tok} {d lo hi i j kind : Nat} (h : Alike T T2 d lo hi) (h1 : lo ≤ i) (h2 : i ≤ hi) (hj : j = i + d) : isK T2 j kind = isK T i kind := by
  subst hj; unfold isK; rw [(h i h1 h2).1]
theorem Alike.t {T T2 : List Tok} {d lo hi i j kind : Nat} {t : List UInt8} (h : Alike T T2 d lo hi) (h1 : lo ≤ i) (h2 : i ≤ hi) (hj : j = i + d) : isT T2 j kind t = isT T i kind t := by
  subst hj; unfold isT; rw [(h i h1 h2).1, (h i h1 h2).2]
theorem Alike.text {T T2 : List Tok} {d lo hi i j : Nat} (h : Alike T T2 d lo hi) (h1 : lo ≤ i) (h2 : i ≤ hi) (hj : j = i + d) : (tok T2 j).text = (tok T i).text := by
  subst hj; exact (h i h1 h2).2
theorem noSemi_k {T : List Tok} {i kind : Nat} (h : isK T i kind = true) (hk : kind ≠ 6) : isT T i 6 [59] = false := by
  have := isK_eq h
  simp only [isT, Bool.and_eq_false_iff, decide_eq_false_iff_not]
  left; omega
theorem noSemi_t {T : List Tok} {i kind : Nat} {t : List UInt8} (h : isT T i kind t = true) (ht : t ≠ [59]) : isT T i 6 [59] = false := by
  have := (isT_eq h).2
  simp only [isT, Bool.and_eq_false_iff, decide_eq_false_iff_not]
  right; rw [this]; exact ht

structure GoodW (T : List Tok) (s : List UInt8) (dd k k1 : Nat) (x : Wd) : Prop where
  lt : k < k1
  semi : ∀ i, k ≤ i → i < k1 → isT T i 6 [59] = false
  size : szW x ≤ k1 - k
  there : thereW s x
  move : ∀ (T2 : List Tok) (d k' k1' : Nat), Alike T T2 d k k1 → k' = k + d → k1' = k1 + d → ∃ x2, PR T2 (.word k' dd) (.one x2 k1') ∧ bareW x2 = bareW x
structure GoodA (T : List Tok) (s : List UInt8) (dd k k1 : Nat) (acc xs : List Wd) : Prop where
  le : k ≤ k1
  semi : ∀ i, k ≤ i → i < k1 → isT T i 6 [59] = false
  size : szWs xs ≤ szWs acc + (k1 - k)
  there : thereWs s acc → thereWs s xs
  move : ∀ (T2 : List Tok) (d k' k1' : Nat) (acc2 : List Wd), Alike T T2 d k k1 → k' = k + d → k1' = k1 + d → bareWs acc2 = bareWs acc → ∃ xs2, PR T2 (.args k' dd acc2) (.many xs2 k1') ∧ bareWs xs2 = bareWs xs
def Good (T : List Tok) (s : List UInt8) : Job → Ans → Prop
  | .word k dd, .one x k1 => GoodW T s dd k k1 x
  | .args k dd acc, .many xs k1 => GoodA T s dd k k1 acc xs
  | _, _ => True
/-- names stand at their places -/
def Names (T : List Tok) (s : List UInt8) : Prop := ∀ i, isK T i 2 = true → standsL s (tok T i).at_ (tok T i).text
theorem PR_good {T : List Tok} {s : List UInt8} (hN : Names T s) {j : Job} {a : Ans} (h : PR T j a) : Good T s j a := by
  induction h with
  | deep _ _ => trivial
  | none _ => trivial
  | first _ _ _ _ _ => trivial
  | rest _ _ _ _ _ _ _ => trivial
  | close _ _ _ _ _ _ _ _ => trivial
  | fail _ _ _ => trivial
  | name h1 h2 h3 =>
    rename_i k d
    refine ⟨by omega, fun i a b => ?_, by simp only [szW, szWs]; omega, ?_, fun T2 d2 k' k1' hA e1 e2 => ?_⟩
    · obtain rfl : i = k := by omega
      exact noSemi_k h1 (by omega)
    · simp only [thereW, thereWs]; exact ⟨hN _ h1, trivial⟩
    · have q1 := (hA.k (kind := 2) (Nat.le_refl _) (Nat.le_succ _) e1).trans h1
      have q3 := (hA.t (kind := 6) (t := [40]) (i := k + 1) (j := k' + 1) (by omega) (Nat.le_refl _) (by omega)).trans h3
      obtain rfl : k1' = k' + 1 := by omega
      exact ⟨_, .name q1 h2 q3, by simp only [bareW, bareWs]; rw [hA.text (Nat.le_refl _) (Nat.le_succ _) e1]⟩
  | whole h1 h2 h3 _ _ h4 ih1 ih2 =>
    rename_i k d k1 k2 x xs _ _
    obtain ⟨l1, s1, z1, t1, m1⟩ : GoodW T s (d + 1) (k + 2) k1 x := ih1
    obtain ⟨l2, s2, z2, t2, m2⟩ : GoodA T s (d + 1) k1 k2 [x] xs := ih2
    simp only [szWs] at z2
    refine ⟨by omega, fun i a b => ?_, by simp only [szW]; omega, ?_, fun T2 d2 k' k1' hA e1 e2 => ?_⟩
    · by_cases c1 : i = k
      · rw [c1]; exact noSemi_k h1 (by omega)
      by_cases c2 : i = k + 1
      · rw [c2]; exact noSemi_t h3 (by decide)
      by_cases c3 : i < k1
      · exact s1 i (by omega) c3
      by_cases c4 : i < k2
      · exact s2 i (by omega) c4
      · obtain rfl : i = k2 := by omega
        exact noSemi_t h4 (by decide)
    · simp only [thereW]; exact ⟨hN _ h1, t2 (by simp only [thereWs]; exact ⟨t1, trivial⟩)⟩
    · have q1 := (hA.k (kind := 2) (i := k) (j := k') (Nat.le_refl _) (by omega) e1).trans h1
      have q3 := (hA.t (kind := 6) (t := [40]) (i := k + 1) (j := k' + 1) (by omega) (by omega) (by omega)).trans h3
      have q4 := (hA.t (kind := 6) (t := [41]) (i := k2) (j := k2 + d2) (by omega) (by omega) rfl).trans h4
      obtain ⟨x2, p1, b1⟩ := m1 T2 d2 (k' + 2) (k1 + d2) (hA.less (by omega) (by omega)) (by omega) rfl
      obtain ⟨xs2, p2, b2⟩ := m2 T2 d2 (k1 + d2) (k2 + d2) [x2] (hA.less (by omega) (by omega)) rfl rfl (by simp [bareWs, b1])
      obtain rfl : k1' = k2 + d2 + 1 := by omega
      exact ⟨_, .whole q1 h2 q3 p1 p2 q4, by simp only [bareW]; rw [hA.text (Nat.le_refl _) (by omega) e1, b2]⟩
  | stop h1 =>
    rename_i k d acc
    refine ⟨Nat.le_refl _, fun i a b => by omega, by omega, id, fun T2 d2 k' k1' acc2 hA e1 e2 eb => ?_⟩
    obtain rfl : k1' = k' := by omega
    exact ⟨_, .stop ((hA.t (kind := 6) (t := [44]) (Nat.le_refl _) (Nat.le_refl _) e1).trans h1), eb⟩
  | next h1 _ _ ih1 ih2 =>
    rename_i k d k1 acc x a _ _
    cases a with
    | one _ _ => trivial
    | bad _ _ => trivial
    | many xs k2 =>
      obtain ⟨l1, s1, z1, t1, m1⟩ : GoodW T s d (k + 1) k1 x := ih1
      obtain ⟨l2, s2, z2, t2, m2⟩ : GoodA T s d k1 k2 (acc ++ [x]) xs := ih2
      rw [szWs_snoc] at z2
      refine ⟨by omega, fun i a b => ?_, by omega, fun h => t2 (thereWs_snoc h t1), fun T2 d2 k' k1' acc2 hA e1 e2 eb => ?_⟩
      · by_cases c1 : i = k
        · rw [c1]; exact noSemi_t h1 (by decide)
        by_cases c3 : i < k1
        · exact s1 i (by omega) c3
        · exact s2 i (by omega) b
      · have q1 := (hA.t (kind := 6) (t := [44]) (i := k) (j := k') (Nat.le_refl _) (by omega) e1).trans h1
        obtain ⟨x2, p1, b1⟩ := m1 T2 d2 (k' + 1) (k1 + d2) (hA.less (by omega) (by omega)) (by omega) rfl
        obtain ⟨xs2, p2, b2⟩ := m2 T2 d2 (k1 + d2) (k2 + d2) (acc2 ++ [x2]) (hA.less (by omega) (by omega)) rfl rfl (by rw [bareWs_snoc, bareWs_snoc, b1, eb])
        obtain rfl : k1' = k2 + d2 := by omega
        exact ⟨_, .next q1 p1 p2, b2⟩
theorem WordsR_good {T : List Tok} {s : List UInt8} (hN : Names T s) {k k1 : Nat} {acc ws : List Wd} {o : Out (List Wd)} (h : WordsR T k acc o) (ho : o = .ok ws k1) :
    k ≤ k1 ∧ (∀ i, k ≤ i → i < k1 → isT T i 6 [59] = false) ∧ szWs ws ≤ szWs acc + (k1 - k) ∧ (thereWs s acc → thereWs s ws) ∧
    ∀ (T2 : List Tok) (d k' k1' : Nat) (acc2 : List Wd), Alike T T2 d k k1 → k' = k + d → k1' = k1 + d → bareWs acc2 = bareWs acc → ∃ ws2, WordsR T2 k' acc2 (.ok ws2 k1') ∧ bareWs ws2 = bareWs ws := by
  induction h with
  | stop h1 =>
    cases ho
    refine ⟨Nat.le_refl _, fun i a b => by omega, by omega, id, fun T2 d2 k' k1' acc2 hA e1 e2 eb => ?_⟩
    obtain rfl : k1' = k' := by omega
    exact ⟨_, .stop ((hA.k (kind := 2) (Nat.le_refl _) (Nat.le_refl _) e1).trans h1), eb⟩
  | fail _ _ => cases ho
  | next h1 hw _ ih =>
    rename_i k km acc x o _
    obtain ⟨l1, s1, z1, t1, m1⟩ : GoodW T s 0 k km x := PR_good hN hw
    obtain ⟨l2, s2, z2, t2, m2⟩ := ih ho
    rw [szWs_snoc] at z2
    refine ⟨by omega, fun i a b => ?_, by omega, fun h => t2 (thereWs_snoc h t1), fun T2 d2 k' k1' acc2 hA e1 e2 eb => ?_⟩
    · by_cases c3 : i < km
      · exact s1 i (by omega) c3
      · exact s2 i (by omega) b
    · have q1 := (hA.k (kind := 2) (i := k) (j := k') (Nat.le_refl _) (by omega) e1).trans h1
      obtain ⟨x2, p1, b1⟩ := m1 T2 d2 k' (km + d2) (hA.less (by omega) (by omega)) e1 rfl
      obtain ⟨ws2, p2, b2⟩ := m2 T2 d2 (km + d2) k1' (acc2 ++ [x2]) (hA.less (by omega) (by omega)) rfl e2 (by rw [bareWs_snoc, bareWs_snoc, b1, eb])
      exact ⟨_, .next q1 p1 p2, b2⟩
end Go.Proofs.Ytelpkldlkpoioaa.Ready
