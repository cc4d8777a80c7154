/- Of the scanner's plain answers: how many bytes they take; step by step. -/
import Derived.Test.YtopbhopblpfjpaaGreatDoorScanPlain
namespace Go.Proofs.YtopbhopblpfjpaaGreatDoor.Scany
open Go.Proofs.YtopbhopblpfjpaaGreatDoor.Lexy

theorem digL_le (l : List UInt8) : digL l ≤ l.length := by
  induction l with
  | nil => simp [digL]
  | cons c r ih => simp only [digL]; split <;> simp <;> omega
theorem pairL_le (l : List UInt8) : ∀ b n, pairL l = some (b, n) → 1 ≤ n ∧ n ≤ l.length := by
  intro b n h
  cases l with
  | nil => simp [pairL] at h
  | cons c r =>
    simp only [pairL] at h
    split at h
    · cases h; simp
    · split at h
      · cases h; simp
      · split at h
        · cases h; simp
        · split at h
          · cases h; simp
          · split at h
            · cases h; simp
            · split at h
              · rename_i h2
                cases h
                obtain ⟨_, h3, h4⟩ := h2
                match r, h3, h4 with
                | [], h3, _ => exact absurd h3 (by decide)
                | [x], _, h4 => exact absurd (show hexN (0 : UInt8).toNat < 16 from h4) (by decide)
                | x :: y :: r, _, _ => simp
              · cases h
theorem strL_skip (l : List UInt8) : ∀ k, k ≤ l.length → strL l k = (strL (l.drop k) 0).map fun x => (x.1, x.2 + k) := by
  induction l with
  | nil => intro k h; simp at h; subst h; simp [strL]
  | cons c r ih =>
    intro k h
    cases k with
    | zero => simp
    | succ k =>
      rw [strL, ih k (by simp at h; omega), Option.map_map]
      simp only [List.drop_succ_cons]
      congr 1
theorem strL_le : ∀ (m : Nat) (l : List UInt8), l.length ≤ m → ∀ t n, strL l 0 = some (t, n) → 1 ≤ n ∧ n ≤ l.length
  | 0, l, hm, t, n, h => by
    obtain rfl : l = [] := List.eq_nil_of_length_eq_zero (by omega)
    simp [strL] at h
  | m + 1, [], _, t, n, h => by simp [strL] at h
  | m + 1, c :: r, hm, t, n, h => by
    simp only [List.length_cons] at hm
    simp only [strL] at h
    split at h
    · cases h; simp
    · split at h
      · cases h
      · split at h
        · split at h
          · cases h
          · rename_i b k hp
            have hk := pairL_le _ _ _ hp
            rw [strL_skip r k hk.2, Option.map_map] at h
            cases hs : strL (r.drop k) 0 with
            | none => simp [hs] at h
            | some x =>
              simp [hs] at h
              have := strL_le m (r.drop k) (by simp; omega) x.1 x.2 (by rw [hs])
              simp at this
              have h2 := h.2
              simp; omega
        · cases hs : strL r 0 with
          | none => simp [hs] at h
          | some x =>
            simp [hs] at h
            have := strL_le m r (by omega) x.1 x.2 (by rw [hs])
            have h2 := h.2
            simp; omega
theorem point_cons {l : List UInt8} (h : pointL l = true) : ∃ x y r, l = x :: y :: r ∧ x.toNat = 46 ∧ digN y.toNat = true := by
  simp only [pointL, Bool.and_eq_true, decide_eq_true_eq] at h
  match l, h with
  | [], h => simp at h
  | [x], h => simp [digN] at h
  | x :: y :: r, h => exact ⟨x, y, r, rfl, h.1, h.2⟩
theorem numLen_le (l : List UInt8) : numLen l ≤ l.length ∧ digL l ≤ numLen l := by
  unfold numLen
  have h1 := digL_le l
  split
  · rename_i h
    obtain ⟨x, y, r, e, _, _⟩ := point_cons h
    have h2 := digL_le (l.drop (digL l + 1))
    have h3 : (l.drop (digL l)).length = (x :: y :: r).length := by rw [e]
    simp at h2 h3
    omega
  · omega
theorem dolL_le (r : List UInt8) : ∀ t n, dolL r = some (t, n) → 1 ≤ n ∧ n ≤ r.length + 1 := by
  intro t n h
  unfold dolL at h
  split at h
  · rename_i h1
    cases h
    cases r with
    | nil => simp at h1
    | cons c r => simp
  · split at h
    · cases h
    · cases h; have := digL_le r; omega
theorem firstL_pre (L : List (List UInt8)) (l : List UInt8) (h : firstL L l ≠ []) : firstL L l ∈ L ∧ (firstL L l).isPrefixOf l = true := by
  unfold firstL at *
  cases hf : L.find? (fun p => p.isPrefixOf l) with
  | none => simp [hf] at h
  | some p => exact ⟨by simpa using List.mem_of_find?_eq_some hf, by simpa using List.find?_some hf⟩
theorem firstL_le (L : List (List UInt8)) (l : List UInt8) (h : firstL L l ≠ []) : 1 ≤ (firstL L l).length ∧ (firstL L l).length ≤ l.length := by
  have h2 := (firstL_pre L l h).2
  refine ⟨by rcases Nat.eq_zero_or_pos (firstL L l).length with e | e; · exact absurd (List.eq_nil_of_length_eq_zero e) h
             · exact e, ?_⟩
  exact (List.isPrefixOf_iff_prefix.1 h2).length_le
theorem runL_one {c : UInt8} {r : List UInt8} (h : letN c.toNat = true) : 1 ≤ runL (c :: r) := by simp [runL, ldN, h]
theorem digL_one {c : UInt8} {r : List UInt8} (h : digN c.toNat = true) : 1 ≤ digL (c :: r) := by simp [digL, h]
theorem tokS_le (l : List UInt8) : ∀ k t n, tokS l = .good k t n → 1 ≤ n ∧ n ≤ l.length := by
  intro k t n h
  cases l with
  | nil => simp [tokS] at h
  | cons c r =>
    have hr := runL_le (c :: r)
    have hn := numLen_le (c :: r)
    simp only [tokS] at h
    split at h
    · rename_i hl
      have := runL_one (r := r) hl
      split at h
      · cases h; omega
      · split at h
        · cases h
        · cases h; omega
    · split at h
      · rename_i hd
        have := digL_one (r := r) hd
        split at h
        · cases h
        · cases h; omega
      · split at h
        · split at h
          · cases h
          · rename_i x y hs
            cases h
            have := strL_le _ r (Nat.le_refl _) _ _ hs
            simp; omega
        · split at h
          · split at h
            · cases h
            · rename_i x y hs
              cases h
              have := dolL_le _ _ _ hs
              simp; omega
          · split at h
            · cases h
            · split at h
              · cases h
              · rename_i h5
                have := firstL_le signsS (c :: r) h5
                cases h
                exact this
theorem tokS_bad (l : List UInt8) (e : Nat) (h : tokS l = .bad e) : e = 100 ∨ e = 101 := by
  cases l with
  | nil => simp [tokS] at h; omega
  | cons c r =>
    simp only [tokS] at h
    repeat' (split at h)
    all_goals first | (cases h; done) | (cases h; omega)

theorem scanA_skip (l : List UInt8) : ∀ k a last, k ≤ l.length → scanA l k a last = scanA (l.drop k) 0 (a + k) last := by
  induction l with
  | nil => intro k a last h; simp at h; subst h; rfl
  | cons c r ih =>
    intro k a last h
    cases k with
    | zero => rfl
    | succ k =>
      rw [scanA, ih k (a + 1) last (by simp at h; omega)]
      simp only [List.drop_succ_cons]
      congr 1; omega
theorem scanA_nl_t (c : UInt8) (r : List UInt8) (a : Nat) (last : Option Tok) (h : c.toNat = 10) (he : endsS last = true) : scanA (c :: r) 0 a last = (scanA r 0 (a + 1) (some ⟨6, [59], a⟩)).cons ⟨6, [59], a⟩ := by
  simp [scanA, h, he]
theorem scanA_nl_f (c : UInt8) (r : List UInt8) (a : Nat) (last : Option Tok) (h : c.toNat = 10) (he : endsS last = false) : scanA (c :: r) 0 a last = scanA r 0 (a + 1) last := by
  simp [scanA, h, he]
theorem scanA_ws (c : UInt8) (r : List UInt8) (a : Nat) (last : Option Tok) (h : c.toNat = 32 ∨ c.toNat = 9 ∨ c.toNat = 13) : scanA (c :: r) 0 a last = scanA r 0 (a + 1) last := by
  have h1 : ¬ c.toNat = 10 := by omega
  simp [scanA, h1, h]
theorem overL_pos' (l : List UInt8) (h : comL l = true) : 1 ≤ overL l := overL_pos l h
theorem scanA_com (c : UInt8) (r : List UInt8) (a : Nat) (last : Option Tok) (h : comL (c :: r) = true) : scanA (c :: r) 0 a last = scanA ((c :: r).drop (overL (c :: r))) 0 (a + overL (c :: r)) last := by
  have hc : c.toNat = 47 := by
    cases r with
    | nil => simp [comL] at h
    | cons d r => simp [comL] at h; exact h.1
  have h1 : ¬ c.toNat = 10 := by omega
  have h2 : ¬ (c.toNat = 32 ∨ c.toNat = 9 ∨ c.toNat = 13) := by omega
  have hp := overL_pos _ h
  have hl := overL_le (c :: r)
  obtain ⟨m, hm⟩ : ∃ m, overL (c :: r) = m + 1 := ⟨overL (c :: r) - 1, by omega⟩
  simp only [scanA, if_neg h1, if_neg h2, h, if_true]
  rw [hm] at hl ⊢
  rw [scanA_skip r _ _ _ (by simp at hl ⊢; omega)]
  simp only [List.drop_succ_cons]
  congr 1; omega
theorem scanA_tok (c : UInt8) (r : List UInt8) (a : Nat) (last : Option Tok) (h1 : c.toNat ≠ 10) (h2 : ¬ (c.toNat = 32 ∨ c.toNat = 9 ∨ c.toNat = 13)) (h3 : comL (c :: r) = false) :
    scanA (c :: r) 0 a last = match tokS (c :: r) with | .bad e => .bad e a | .good k t n => (scanA ((c :: r).drop n) 0 (a + n) (some ⟨k, t, a⟩)).cons ⟨k, t, a⟩ := by
  simp only [scanA, if_neg h1, if_neg h2, h3]
  cases ht : tokS (c :: r) with
  | bad e => rfl
  | good k t n =>
    have hn := tokS_le _ _ _ _ ht
    obtain ⟨m, rfl⟩ : ∃ m, n = m + 1 := ⟨n - 1, by omega⟩
    simp only [Nat.add_sub_cancel, List.drop_succ_cons]
    rw [scanA_skip r m (a + 1) _ (by simp at hn; omega), show a + 1 + m = a + (m + 1) by omega]
    rfl
end Go.Proofs.YtopbhopblpfjpaaGreatDoor.Scany
