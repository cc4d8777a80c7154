/- What a text is as tokens, and that these say it. Plain. -/
import Derived.Test.YtelpkldlkpoioaaReadPlain
namespace Go.Proofs.Ytelpkldlkpoioaa.WrA
open Go.Proofs.Ytelpkldlkpoioaa.Lexy Go.Proofs.Ytelpkldlkpoioaa.Ready

/-- a token without its place -/
abbrev KT := Nat × List UInt8
/-- these tokens stand from there on -/
def At (T : List Tok) : Nat → List KT → Prop
  | _, [] => True
  | k, t :: l => ((tok T k).kind = t.1 ∧ (tok T k).text = t.2) ∧ At T (k + 1) l
theorem at_app {T : List Tok} : ∀ {a b : List KT} {k : Nat}, At T k (a ++ b) ↔ At T k a ∧ At T (k + a.length) b
  | [], b, k => by simp [At]
  | t :: a, b, k => by
    rw [List.cons_append, At, At, at_app, List.length_cons, show k + 1 + a.length = k + (a.length + 1) by omega]
    simp only [and_assoc]
theorem isK_of {T : List Tok} {k q : Nat} {t : List UInt8} (h : (tok T k).kind = q ∧ (tok T k).text = t) (q' : Nat) : isK T k q' = decide (q = q') := by unfold isK; rw [h.1]
theorem isT_of {T : List Tok} {k q : Nat} {t : List UInt8} (h : (tok T k).kind = q ∧ (tok T k).text = t) (q' : Nat) (t' : List UInt8) : isT T k q' t' = (decide (q = q') && decide (t = t')) := by unfold isT; rw [h.1, h.2]
mutual
def tkW : Wd → List KT
  | .mk n xs _ => (2, n) :: tkP xs
def tkP : List Wd → List KT
  | [] => []
  | x :: xs => (6, [40]) :: (tkW x ++ tkWs xs)
def tkWs : List Wd → List KT
  | [] => [(6, [41])]
  | x :: xs => (6, [44]) :: (tkW x ++ tkWs xs)
end
mutual
/-- no deeper than may be -/
def nestW (d : Nat) : Wd → Bool
  | .mk _ xs _ => decide (d ≤ 60) && nestWs (d + 1) xs
def nestWs (d : Nat) : List Wd → Bool
  | [] => true
  | x :: xs => nestW d x && nestWs d xs
end
theorem ws_head (T : List Tok) (k : Nat) : ∀ xs : List Wd, At T k (tkWs xs) → isT T k 6 [40] = false
  | [], h => by rw [tkWs, At] at h; rw [isT_of h.1]; decide
  | x :: xs, h => by rw [tkWs, At] at h; rw [isT_of h.1]; decide
theorem ws_pos : ∀ xs : List Wd, 1 ≤ (tkWs xs).length
  | [] => by simp [tkWs]
  | x :: xs => by simp [tkWs]
mutual
theorem say_w {T : List Tok} : ∀ (x : Wd) (k d : Nat), At T k (tkW x) → isT T (k + (tkW x).length) 6 [40] = false → nestW d x = true → ∃ y, PR T (.word k d) (.one y (k + (tkW x).length)) ∧ bareW y = bareW x
  | .mk n [] z, k, d, h, hn, hd => by
    rw [tkW, tkP, At] at h
    rw [tkW, tkP] at hn ⊢
    simp only [nestW, Bool.and_eq_true, decide_eq_true_eq] at hd
    have h1 := PR.name (T := T) (k := k) (d := d) (by rw [isK_of h.1]; rfl) hd.1 hn
    rw [h.1.2] at h1
    exact ⟨_, h1, by simp [bareW, bareWs]⟩
  | .mk n (x :: xs) z, k, d, h, _, hd => by
    rw [tkW, tkP, At, At] at h
    obtain ⟨h0, h1, h2⟩ := h
    rw [at_app] at h2
    simp only [nestW, nestWs, Bool.and_eq_true, decide_eq_true_eq] at hd
    obtain ⟨y, hy, by1⟩ := say_w x (k + 2) (d + 1) h2.1 (ws_head T _ xs h2.2) hd.2.1
    obtain ⟨ys, hys, by2, hc⟩ := say_ws xs [y] (k + 2 + (tkW x).length) (d + 1) h2.2 hd.2.2
    have hw := PR.whole (T := T) (by rw [isK_of h0]; rfl) hd.1 (by rw [isT_of h1]; rfl) hy hys hc
    rw [h0.2] at hw
    have hp := ws_pos xs
    refine ⟨_, by rw [show k + (tkW (.mk n (x :: xs) z)).length = k + 2 + (tkW x).length + (tkWs xs).length - 1 + 1 by rw [tkW, tkP]; simp; omega]; exact hw, ?_⟩
    simp [bareW, bareWs, by1, by2]
theorem say_ws {T : List Tok} : ∀ (xs acc : List Wd) (k d : Nat), At T k (tkWs xs) → nestWs d xs = true → ∃ ys, PR T (.args k d acc) (.many (acc ++ ys) (k + (tkWs xs).length - 1)) ∧ bareWs ys = bareWs xs ∧ isT T (k + (tkWs xs).length - 1) 6 [41] = true
  | [], acc, k, d, h, _ => by
    rw [tkWs, At] at h
    refine ⟨[], ?_, rfl, ?_⟩
    · rw [List.append_nil, tkWs]
      exact PR.stop (by rw [isT_of h.1]; decide)
    · rw [tkWs]
      show isT T k 6 [41] = true
      rw [isT_of h.1]; rfl
  | x :: xs, acc, k, d, h, hd => by
    rw [tkWs, At, at_app] at h
    simp only [nestWs, Bool.and_eq_true] at hd
    obtain ⟨y, hy, by1⟩ := say_w x (k + 1) d h.2.1 (ws_head T _ xs h.2.2) hd.1
    obtain ⟨ys, hys, by2, hc⟩ := say_ws xs (acc ++ [y]) (k + 1 + (tkW x).length) d h.2.2 hd.2
    have hp := ws_pos xs
    have e : k + (tkWs (x :: xs)).length - 1 = k + 1 + (tkW x).length + (tkWs xs).length - 1 := by rw [tkWs]; simp; omega
    rw [e]
    refine ⟨y :: ys, ?_, by simp [bareWs, by1, by2], hc⟩
    have := PR.next (T := T) (by rw [isT_of h.1]; rfl) hy hys
    simpa using this
end
/-- words, one behind the other -/
def tkL (l : List Wd) : List KT := l.flatMap tkW
theorem w_head (T : List Tok) (k : Nat) : ∀ x : Wd, At T k (tkW x) → isK T k 2 = true ∧ isT T k 6 [40] = false
  | .mk n xs _, h => by
    rw [tkW, At] at h
    rw [isK_of h.1, isT_of h.1]; exact ⟨rfl, rfl⟩
theorem say_l {T : List Tok} : ∀ (l acc : List Wd) (k : Nat), At T k (tkL l) → isT T (k + (tkL l).length) 6 [40] = false → isK T (k + (tkL l).length) 2 = false → (∀ x ∈ l, nestW 0 x = true) → ∃ ys, WordsR T k acc (.ok (acc ++ ys) (k + (tkL l).length)) ∧ bareWs ys = bareWs l
  | [], acc, k, _, _, h2, _ => ⟨[], by rw [List.append_nil]; exact .stop h2, rfl⟩
  | x :: l, acc, k, h, h1, h2, hd => by
    have e : tkL (x :: l) = tkW x ++ tkL l := rfl
    rw [e] at h h1 h2 ⊢
    rw [at_app] at h
    rw [List.length_append, ← Nat.add_assoc] at h1 h2 ⊢
    have hn : isT T (k + (tkW x).length) 6 [40] = false := by
      cases l with
      | nil => exact h1
      | cons z l =>
        have h3 := h.2
        rw [show tkL (z :: l) = tkW z ++ tkL l from rfl, at_app] at h3
        exact (w_head T _ z h3.1).2
    obtain ⟨y, hy, by1⟩ := say_w x k 0 h.1 hn (hd x (List.mem_cons_self ..))
    obtain ⟨ys, hys, by2⟩ := say_l l (acc ++ [y]) (k + (tkW x).length) h.2 h1 h2 fun z hz => hd z (List.mem_cons_of_mem _ hz)
    refine ⟨y :: ys, ?_, by simp [bareWs, by1, by2]⟩
    have := WordsR.next (w_head T k x h.1).1 hy hys
    simpa using this
end Go.Proofs.Ytelpkldlkpoioaa.WrA
