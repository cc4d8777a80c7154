/- What a row of tokens is, as lexers tell it: where it ends, how long it is, which words are in it. No program in sight. -/
import Derived.Test.YtelpkldlkpoioaaReadPlain
import Derived.Test.YtelpkldlkpoioaaLexPlain2
namespace Go.Proofs.Ytelpkldlkpoioaa.Ready
open Go.Proofs.Ytelpkldlkpoioaa.Lexy

theorem fine_pos {t : Tok} (h : t.fine) : 1 ≤ (render t.kind t.text).length := by
  have := tokL_le _ _ _ _ (h.2 [])
  omega
theorem chain_len {s : List UInt8} : ∀ {ts : List Tok} {b : Nat}, chain s b ts → (∀ t ∈ ts, t.fine) → b ≤ s.length → b + ts.length ≤ s.length
  | [], b, _, _, hb => by simpa using hb
  | t :: ts, b, h, hf, _ => by
    obtain ⟨h1, h2, _, h4⟩ := h
    have := fine_pos (hf t (List.mem_cons_self ..))
    have := chain_len h4 (fun x hx => hf x (List.mem_cons_of_mem _ hx)) h2
    simp only [List.length_cons]; omega
theorem chain_at {s : List UInt8} : ∀ {ts : List Tok} {b : Nat}, chain s b ts → ∀ t ∈ ts, t.at_ ≤ s.length
  | [], _, _, t, ht => by cases ht
  | x :: ts, b, h, t, ht => by
    obtain ⟨h1, h2, _, h4⟩ := h
    rcases List.mem_cons.1 ht with rfl | ht
    · omega
    · exact chain_at h4 t ht
theorem fine_word {t : Tok} (h : t.fine) (hk : t.kind = 1) : t.text ∈ wordsL := by
  have h1 := h.2 []
  rw [hk] at h1
  simp only [render, if_true] at h1
  rw [List.cons_append] at h1
  unfold tokL at h1
  dsimp only at h1
  rw [if_neg (by decide), if_pos (by decide)] at h1
  split at h1
  · simp at h1
  · split at h1
    · rename_i hm
      simp only [One.good.injEq] at h1
      rw [← h1.2.1]; exact hm
    · cases h1
/-- a row of tokens that a lexer tells -/
structure Told (s : List UInt8) (T : List Tok) : Prop where
  ends : Ends T
  len : T.length ≤ s.length + 1
  at_ : ∀ i, (tok T i).at_ ≤ s.length
  words : ∀ i, isK T i 1 = true → (tok T i).text ∈ wordsL
theorem tok_lt {T : List Tok} {i : Nat} (h : i < T.length) : tok T i ∈ T := by
  unfold tok
  rw [List.getD_eq_getElem?_getD, List.getElem?_eq_getElem h]
  exact List.getElem_mem h
theorem tok_ge {T : List Tok} {i : Nat} (h : T.length ≤ i) : tok T i = ⟨0, [], 0⟩ := by
  unfold tok
  rw [List.getD_eq_getElem?_getD, List.getElem?_eq_none h]; rfl
theorem toks_shape {s : List UInt8} {T : List Tok} (h : toks s = .good T) : ∃ ts, T = ts ++ [⟨7, [], s.length⟩] ∧ chain s 0 ts ∧ (∀ t ∈ ts, t.fine) ∧ s.length ≤ 65536 := by
  unfold toks at h
  split at h
  · cases h
  · have := lexA_shape s s.length 0 (by omega) (by omega)
    simp only [List.drop_zero, h] at this
    obtain ⟨ts, h1, h2, h3⟩ := this
    exact ⟨ts, h1, h2, h3, by omega⟩
theorem toks_told {s : List UInt8} {T : List Tok} (h : toks s = .good T) : Told s T ∧ s.length ≤ 65536 := by
  obtain ⟨ts, rfl, hc, hf, hs⟩ := toks_shape h
  have hl : (ts ++ [(⟨7, [], s.length⟩ : Tok)]).length = ts.length + 1 := by simp
  have hlast : tok (ts ++ [(⟨7, [], s.length⟩ : Tok)]) ts.length = ⟨7, [], s.length⟩ := by unfold tok; simp
  have hin : ∀ i, i < ts.length → tok (ts ++ [(⟨7, [], s.length⟩ : Tok)]) i ∈ ts := fun i hi => by
    unfold tok
    rw [List.getD_eq_getElem?_getD, List.getElem?_append_left hi, List.getElem?_eq_getElem hi]
    exact List.getElem_mem hi
  refine ⟨⟨⟨by omega, ?_, ?_⟩, ?_, ?_, ?_⟩, hs⟩
  · rw [hl, Nat.add_sub_cancel, hlast]
  · intro k hk
    rw [hl, Nat.add_sub_cancel] at hk
    rcases (hf _ (hin k hk)).1 with h | h | h | h <;> rw [h] <;> decide
  · have := chain_len hc hf (Nat.zero_le _); omega
  · intro i
    rcases Nat.lt_or_ge i ts.length with h1 | h1
    · exact chain_at hc _ (hin i h1)
    · rcases Nat.lt_or_ge ts.length i with h2 | h2
      · rw [tok_ge (by omega)]; exact Nat.zero_le _
      · obtain rfl : i = ts.length := by omega
        rw [hlast]; exact Nat.le_refl _
  · intro i hi
    have hk := isK_eq hi
    rcases Nat.lt_or_ge i ts.length with h1 | h1
    · exact fine_word (hf _ (hin i h1)) hk
    · rcases Nat.lt_or_ge ts.length i with h2 | h2
      · rw [tok_ge (by omega)] at hk; cases hk
      · obtain rfl : i = ts.length := by omega
        rw [hlast] at hk; cases hk
end Go.Proofs.Ytelpkldlkpoioaa.Ready
