/- The lexer's words and signs, as the library's search finds them. No program in sight. -/
import Derived.Test.YtelpkldlkpoioaaLexPlain
import Derived.Lib.IndexMore
namespace Go.Proofs.Ytelpkldlkpoioaa.Lexy
open Go.Lib

theorem index_nonneg (b : UInt8) (l sub : List UInt8) : 0 ≤ index (b :: l) sub ↔ (sub.isPrefixOf (b :: l) = true ∨ 0 ≤ index l sub) := by
  have hg := index_ge l sub
  rw [index]
  by_cases h : sub.isPrefixOf (b :: l) = true
  · simp [h]
  · by_cases h2 : index l sub = -1
    · simp [h, h2]
    · have : (index l sub == -1) = false := beq_eq_false_iff_ne.2 h2
      simp [h, this]; omega
theorem pfx (t : List UInt8) : ∀ u v : List UInt8, (∀ c ∈ t, c ≠ 32) → (∀ c ∈ u, c ≠ 32) → ((t ++ [32]).isPrefixOf (u ++ 32 :: v) = true ↔ t = u) := by
  induction t with
  | nil =>
    intro u v _ hu
    cases u with
    | nil => simp [List.isPrefixOf]
    | cons d u =>
      have := hu d (by simp)
      simp [List.isPrefixOf]; exact fun h => this h.symm
  | cons c t ih =>
    intro u v ht hu
    cases u with
    | nil =>
      have := ht c (by simp)
      simp [List.isPrefixOf]; intro h; exact absurd h this
    | cons d u =>
      simp only [List.cons_append, List.isPrefixOf, Bool.and_eq_true, beq_iff_eq, List.cons.injEq]
      rw [ih u v (fun x hx => ht x (by simp [hx])) (fun x hx => hu x (by simp [hx]))]

/-- the text that holds the words -/
def wordsText : List UInt8 := [32, 116, 111, 107, 101, 110, 32, 116, 121, 112, 101, 32, 108, 101, 102, 116, 32, 114, 105, 103, 104, 116, 32, 110, 111, 110, 97, 115, 115, 111, 99, 32, 115, 116, 97, 114, 116, 32, 112, 114, 101, 99, 32]
theorem skip (b : UInt8) (l t : List UInt8) (h : b ≠ 32) : 0 ≤ index (b :: l) (32 :: (t ++ [32])) ↔ 0 ≤ index l (32 :: (t ++ [32])) := by
  rw [index_nonneg]
  have : (32 :: (t ++ [32])).isPrefixOf (b :: l) = false := by simp [List.isPrefixOf]; intro e; exact absurd e.symm h
  rw [this]; simp
theorem hit (l t : List UInt8) : 0 ≤ index (32 :: l) (32 :: (t ++ [32])) ↔ ((t ++ [32]).isPrefixOf l = true ∨ 0 ≤ index l (32 :: (t ++ [32]))) := by
  rw [index_nonneg]; simp [List.isPrefixOf]
theorem skips (t : List UInt8) : ∀ u x : List UInt8, (∀ c ∈ u, c ≠ 32) → (0 ≤ index (u ++ x) (32 :: (t ++ [32])) ↔ 0 ≤ index x (32 :: (t ++ [32]))) := by
  intro u
  induction u with
  | nil => intro x _; simp
  | cons c u ih => intro x h; rw [List.cons_append, skip _ _ _ (h c (by simp)), ih x fun d hd => h d (by simp [hd])]
theorem word1 (t u v : List UInt8) (ht : ∀ c ∈ t, c ≠ 32) (hu : ∀ c ∈ u, c ≠ 32) : 0 ≤ index (32 :: (u ++ 32 :: v)) (32 :: (t ++ [32])) ↔ (t = u ∨ 0 ≤ index (32 :: v) (32 :: (t ++ [32]))) := by
  rw [hit, pfx t u v ht hu, skips t u _ hu]
theorem wordsText_eq : wordsText = 32 :: ([116, 111, 107, 101, 110] ++ 32 :: ([116, 121, 112, 101] ++ 32 :: ([108, 101, 102, 116] ++ 32 :: ([114, 105, 103, 104, 116] ++ 32 :: ([110, 111, 110, 97, 115, 115, 111, 99] ++ 32 :: ([115, 116, 97, 114, 116] ++ 32 :: ([112, 114, 101, 99] ++ 32 :: []))))))) := rfl
theorem contains_words (t : List UInt8) (ht : ∀ c ∈ t, c ≠ 32) : contains wordsText (32 :: (t ++ [32])) = decide (t ∈ wordsL) := by
  unfold contains
  congr 1
  apply propext
  rw [wordsText_eq, word1 t _ _ ht (by decide), word1 t _ _ ht (by decide), word1 t _ _ ht (by decide), word1 t _ _ ht (by decide), word1 t _ _ ht (by decide), word1 t _ _ ht (by decide), word1 t _ _ ht (by decide)]
  have e2 : ¬ (0 : Int) ≤ index [32] (32 :: (t ++ [32])) := by
    rw [hit]
    have e1 : (t ++ [32]).isPrefixOf ([] : List UInt8) = false := by cases t <;> rfl
    simp [e1, index]
  simp only [wordsL, List.mem_cons, List.not_mem_nil, or_false, e2]

theorem sign_index (n : Nat) (h : n < 256) : (0 ≤ indexByte [58, 59, 124, 40, 41, 44, 60, 62] n.toUInt8) ↔ signN n = true := by
  have key : ∀ n : Fin 256, decide (0 ≤ indexByte [58, 59, 124, 40, 41, 44, 60, 62] n.val.toUInt8) = signN n.val := by decide +kernel
  have := key ⟨n, h⟩
  simp only at this
  rw [← this]; simp
end Go.Proofs.Ytelpkldlkpoioaa.Lexy
