/- The reader of grammars' texts: a word, walked. -/
import Derived.Test.YtelpkldlkpoioaaReadD
namespace Go.Proofs.Ytelpkldlkpoioaa.ReadF
open Go.RowKit Go.Proofs.Ytelpkldlkpoioaa.Lexy Go.Proofs.Ytelpkldlkpoioaa.LexA Go.Proofs.Ytelpkldlkpoioaa.LexB Go.Proofs.Ytelpkldlkpoioaa.LexC Go.Proofs.Ytelpkldlkpoioaa.LexD Go.Proofs.Ytelpkldlkpoioaa.LexE Go.Proofs.Ytelpkldlkpoioaa.LexF Go.Proofs.Ytelpkldlkpoioaa.LexG Go.Proofs.Ytelpkldlkpoioaa.Heap Go.Proofs.Ytelpkldlkpoioaa.Dat Go.Proofs.Ytelpkldlkpoioaa.Ready Go.Proofs.Ytelpkldlkpoioaa.ReadA Go.Proofs.Ytelpkldlkpoioaa.ReadB Go.Proofs.Ytelpkldlkpoioaa.ReadC Go.Proofs.Ytelpkldlkpoioaa.ReadE Go.Proofs.Ytelpkldlkpoioaa.ReadD

/-- a word goes on, and ends within the row -/
def PastJ (n : Nat) : Job → Ans → Prop
  | .word k _, .one _ k1 => k < n → k < k1 ∧ k1 < n
  | .args k _ _, .many _ k1 => k < n → k ≤ k1 ∧ k1 < n
  | _, _ => True
theorem past_job {T : List Tok} (hT : Ready.Ends T) {j : Job} {a : Ans} (h : PR T j a) : PastJ T.length j a := by
  induction h with
  | deep | none | first | rest | close | fail => trivial
  | name h1 _ _ => intro hk; have := hT.ltK hk h1; omega
  | whole h1 _ h3 _ _ h6 i1 i2 =>
    intro hk
    have a1 := hT.ltT (hT.ltK hk h1) h3
    have a2 := i1 a1
    have a3 := i2 a2.2
    have a4 := hT.ltT a3.2 h6
    omega
  | stop _ => intro hk; omega
  | @next k d k1 acc x a h1 h2 h3 i1 i2 =>
    cases a with
    | one => trivial
    | bad => trivial
    | many xs k2 =>
      intro hk
      have a1 := i1 (hT.ltT hk h1)
      have a2 := i2 a1.2
      omega
theorem past_word {T : List Tok} (hT : Ready.Ends T) {k d k1 : Nat} {x : Wd} (h : PR T (.word k d) (.one x k1)) (hk : k < T.length) : k < k1 ∧ k1 < T.length := past_job hT h hk

/-- a word's argument as a part: one more -/
def WPS (T : List Tok) (k0 d k : Nat) (s : List Wd) : Ends2 (List Wd) → Prop
  | .inl (k1, s1) => k0 < k ∧ s.length ≤ k ∧ ∃ x, PR T (.word k d) (.one x k1) ∧ s1 = s ++ [x]
  | .inr (e, p) => k0 < k ∧ s.length ≤ k ∧ PR T (.word k d) (.bad e p)
theorem args_LT {T : List Tok} (hT : Ready.Ends T) {k0 : Nat} : ∀ {j : Job} {a : Ans}, PR T j a → ∀ k d acc, j = .args k d acc → k0 < k → k < T.length → acc.length ≤ k →
    (∀ xs k1, a = .many xs k1 → LT T [44] (WPS T k0 d) k acc (.inl (k1, xs))) ∧ ∀ e p, a = .bad e p → LT T [44] (WPS T k0 d) k acc (.inr (e, p)) := by
  intro j a h
  induction h with
  | stop h1 => intro k d acc e _ hk _; cases e; exact ⟨fun xs k1 e => (by cases e; exact .stop h1), fun _ _ e => (by cases e)⟩
  | fail h1 h2 _ => intro k d acc e h0 hk hl; cases e; exact ⟨fun _ _ e => (by cases e), fun e p he => (by cases he; exact .fail h1 ⟨by omega, by omega, h2⟩)⟩
  | @next _ _ k1 _ x a h1 h2 h3 _ ih =>
    intro k d acc e h0 hk hl
    cases e
    have hk1 := hT.ltT hk h1
    have hp := past_word hT h2 hk1
    obtain ⟨i1, i2⟩ := ih _ _ _ rfl (by omega) hp.2 (by simp; omega)
    exact ⟨fun xs k2 e => .next h1 ⟨by omega, by omega, x, h2, rfl⟩ (i1 xs k2 e), fun e p he => .next h1 ⟨by omega, by omega, x, h2, rfl⟩ (i2 e p he)⟩
  | _ => intro k d acc e; cases e
/-- behind a word's name: what comes in parentheses -/
theorem word_GR {T : List Tok} (hT : Ready.Ends T) {k d : Nat} {a : Ans} (h : PR T (.word k d) a) (h2 : isK T k 2 = true) (hd : d ≤ 60) (hk : k < T.length) :
    ∃ o, GR T (WPS T k (d + 1)) (k + 1) [] o ∧ (match o with | .inl (k1, xs) => a = .one (.mk (tok T k).text xs (tok T k).at_) k1 | .inr (e, p) => a = .bad e p) := by
  have hk1 := hT.ltK hk h2
  cases h with
  | deep _ h => omega
  | none h => rw [h] at h2; cases h2
  | name _ _ h3 => exact ⟨_, .none h3, rfl⟩
  | first _ _ h3 h4 => exact ⟨.inr (_, _), .bad h3 (.fail ⟨by omega, by simp, h4⟩), rfl⟩
  | rest _ _ h3 h4 h5 =>
    have hk2 := hT.ltT hk1 h3
    have hp := past_word hT h4 hk2
    exact ⟨.inr (_, _), .bad h3 (.more ⟨by omega, by simp, _, h4, rfl⟩ ((args_LT hT h5 _ _ _ rfl (by omega) hp.2 (by simp; omega)).2 _ _ rfl)), rfl⟩
  | close _ _ h3 h4 h5 h6 =>
    have hk2 := hT.ltT hk1 h3
    have hp := past_word hT h4 hk2
    exact ⟨.inr (_, _), .close h3 (.more ⟨by omega, by simp, _, h4, rfl⟩ ((args_LT hT h5 _ _ _ rfl (by omega) hp.2 (by simp; omega)).1 _ _ rfl)) h6, rfl⟩
  | whole _ _ h3 h4 h5 h6 =>
    have hk2 := hT.ltT hk1 h3
    have hp := past_word hT h4 hk2
    exact ⟨.inl (_, _), .whole h3 (.more ⟨by omega, by simp, _, h4, rfl⟩ ((args_LT hT h5 _ _ _ rfl (by omega) hp.2 (by simp; omega)).1 _ _ rfl)) h6, rfl⟩

/-- the call of a word's argument is a part -/
theorem word_part {b g c Hw Hr Hd B B1 d k0 : Nat} {T : List Tok} {n : ByteArray} {p : Int} (hT : Ready.Ends T) (hT2 : T.length ≤ 1000000) (hB : b < B ∧ g < B ∧ Hw < B ∧ Hr < B ∧ Hd < B) (hne : Hw ≠ b ∧ Hr ≠ b ∧ Hd ≠ b ∧ Hr ≠ Hw ∧ Hd ≠ Hw ∧ Hw ≠ g) (hd : d ≤ 1000) (hB1 : B1 ≤ Hw)
    (hW : ∀ k a w1, k0 < k → k < T.length → PR T (.word k (d + 1)) a → Rr w1 b g c T k → Calls Try.prog 88 #[.pointer (some ⟨b, 0, none⟩), .int .i64 ((d : Int) + 1)] w1 (WordQ b g c T w1 a)) :
    Part T b g c B1 98 #[.pointer (some ⟨Hw, 0, none⟩), .pointer (some ⟨Hr, 0, none⟩), .pointer (some ⟨Hd, 0, none⟩)] (fun k s w => WordI Hw Hr Hd b g c d B T n p k s w) (WPS T k0 (d + 1)) where
  enters := fun args w => by go_simp
  reads := fun h => h.rr
  base := fun h => by have := h.base; omega
  keeps := fun {k k' s w w'} h hg hR => by
    obtain ⟨_, ⟨va, bk, hE, hL, hnd⟩, hb⟩ := h
    obtain ⟨n1, n2, n3, n4, n5, n6⟩ := hne
    exact ⟨hR, ⟨va, bk, hE.grown hg (by simpa using n1) (by simpa using n2) (by simpa using n3), Lies.kept hg hL (fun j hj e => by have := (Lies.lt hL j hj).1; have : j = b := Option.some.inj e; omega), hnd⟩, Nat.le_trans hb hg.size⟩
  past := fun {k s k1 s1} hk h => by
    obtain ⟨_, _, x, hx, _⟩ := h
    have := past_word hT hx hk
    omega
  part := fun {k s o w} h hk hI => by
    rcases o with ⟨k1, s1⟩ | ⟨e, q⟩
    · obtain ⟨h0, hl, x, hx, rfl⟩ := h
      exact (part_any hI (by omega) hB hne hd hB1 (fun w1 hR => hW _ _ w1 h0 hk hx hR)).mono fun e w' h => h
    · obtain ⟨h0, hl, hx⟩ := h
      exact (part_any hI (by omega) hB hne hd hB1 (fun w1 hR => hW _ _ w1 h0 hk hx hR)).mono fun e w' h => h
end Go.Proofs.Ytelpkldlkpoioaa.ReadF
