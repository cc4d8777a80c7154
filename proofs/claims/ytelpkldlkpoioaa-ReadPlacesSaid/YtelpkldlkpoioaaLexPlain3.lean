/- What is an action alone is one within another, and behind other tokens. Plain lists; no program in sight. -/
import Derived.Test.YtelpkldlkpoioaaLexPlain2
namespace Go.Proofs.Ytelpkldlkpoioaa.Lexy

/-- where the automaton stands behind some bytes, a brace being open all the while -/
def runA : List UInt8 → Nat → Nat → Option (Nat × Nat)
  | [], o, m => some (o, m)
  | c :: r, o, m =>
    match stepA o m c.toNat with
    | none => none
    | some p => if p.1 = 0 then none else runA r p.1 p.2

theorem autoL_run (s : List UInt8) : ∀ o m x o' m', 0 < o → runA s o m = some (o', m') → 0 < o' ∧ autoL (s ++ x) o m = (autoL x o' m').map (· + s.length) := by
  induction s with
  | nil => intro o m x o' m' ho h; simp [runA] at h; obtain ⟨rfl, rfl⟩ := h; exact ⟨ho, by simp⟩
  | cons c r ih =>
    intro o m x o' m' ho h
    obtain ⟨o, rfl⟩ : ∃ k, o = k + 1 := ⟨o - 1, by omega⟩
    simp only [runA] at h
    cases hs : stepA (o + 1) m c.toNat with
    | none => simp [hs] at h
    | some p =>
      simp only [hs] at h
      split at h
      · cases h
      · rename_i hp
        have := ih p.1 p.2 x o' m' (by omega) h
        refine ⟨this.1, ?_⟩
        rw [List.cons_append, autoL_cons, hs]
        simp only
        rw [this.2]
        cases autoL x o' m' <;> simp <;> omega

theorem runA_app (s t : List UInt8) : ∀ o m o' m', runA s o m = some (o', m') → runA (s ++ t) o m = runA t o' m' := by
  induction s with
  | nil => intro o m o' m' h; simp [runA] at h; obtain ⟨rfl, rfl⟩ := h; rfl
  | cons c r ih =>
    intro o m o' m' h
    simp only [runA, List.cons_append] at h ⊢
    cases hs : stepA o m c.toNat with
    | none => simp [hs] at h
    | some p =>
      simp only [hs] at h ⊢
      split at h
      · cases h
      · rename_i hp; rw [if_neg hp]; exact ih _ _ _ _ h

theorem stepA_shift (o m c k : Nat) (p : Nat × Nat) (ho : 0 < o) (h : stepA o m c = some p) : stepA (o + k) m c = some (p.1 + k, p.2) := by
  unfold stepA at h ⊢
  (repeat' split at h) <;> simp_all <;> (subst h; simp) <;> omega
theorem runA_shift (s : List UInt8) : ∀ o m k o' m', 0 < o → runA s o m = some (o', m') → runA s (o + k) m = some (o' + k, m') := by
  induction s with
  | nil => intro o m k o' m' _ h; simp [runA] at h; obtain ⟨rfl, rfl⟩ := h; rfl
  | cons c r ih =>
    intro o m k o' m' ho h
    simp only [runA] at h ⊢
    cases hs : stepA o m c.toNat with
    | none => simp [hs] at h
    | some p =>
      simp only [hs] at h
      split at h
      · cases h
      · rename_i hp
        rw [stepA_shift o m c.toNat k p ho hs]
        simp only
        rw [if_neg (by omega)]
        exact ih _ _ _ _ _ (by omega) h

/-- no string, no comment -/
def plainM (m : Nat) : Prop := m ≠ 1 ∧ m ≠ 2 ∧ m ≠ 4
theorem stepA_close (o m : Nat) (h : plainM m) : stepA o m 125 = some (o - 1, 0) := by simp [stepA, h.1, h.2.1, h.2.2]
theorem stepA_open (o m : Nat) (h : plainM m) : stepA o m 123 = some (o + 1, 0) := by simp [stepA, h.1, h.2.1, h.2.2]
theorem stepA_line (o m : Nat) (h : plainM m) : stepA o m 10 = some (o, 0) := by simp [stepA, h.1, h.2.1, h.2.2]

theorem inner_of_auto (s : List UInt8) : ∀ o m, autoL (s ++ [125]) (o + 1) m = some (s.length + 1) → ∃ m', plainM m' ∧ runA s (o + 1) m = some (1, m') := by
  induction s with
  | nil =>
    intro o m h
    have e : UInt8.toNat 125 = 125 := rfl
    rw [List.nil_append, autoL_cons, e] at h
    cases hs : stepA (o + 1) m 125 with
    | none => rw [hs] at h; cases h
    | some p =>
      obtain ⟨o', m'⟩ := p
      rw [hs] at h
      simp only at h
      cases o' with
      | succ o' => simp [autoL] at h
      | zero =>
        unfold stepA at hs
        split at hs
        · simp at hs
        · split at hs
          · simp at hs
          · split at hs
            · simp at hs
            · rename_i h1 h2 h3
              simp at hs
              exact ⟨m, ⟨h1, h2, h3⟩, by simp [runA, hs.1]⟩
  | cons c r ih =>
    intro o m h
    rw [List.cons_append, autoL_cons] at h
    cases hs : stepA (o + 1) m c.toNat with
    | none => rw [hs] at h; cases h
    | some p =>
      obtain ⟨o', m'⟩ := p
      rw [hs] at h
      simp only at h
      cases o' with
      | zero => cases r <;> simp [autoL] at h
      | succ o' =>
        cases ha : autoL (r ++ [125]) (o' + 1) m' with
        | none => simp [ha] at h
        | some k =>
          simp only [ha, Option.map_some, Option.some.injEq, List.length_cons, Nat.add_right_cancel_iff] at h
          subst h
          obtain ⟨m2, h1, h2⟩ := ih o' m' ha
          exact ⟨m2, h1, by simp [runA, hs, h2]⟩

/-- an action's text: it leaves one brace open, and no string, no comment -/
def Inner (s : List UInt8) : Prop := ∃ m, plainM m ∧ runA s 1 0 = some (1, m)

theorem inner_auto (s x : List UInt8) (h : Inner s) : autoL (s ++ 125 :: x) 1 0 = some (s.length + 1) := by
  obtain ⟨m, hm, hr⟩ := h
  rw [(autoL_run s 1 0 (125 :: x) 1 m (by omega) hr).2]
  rw [autoL_cons, show UInt8.toNat 125 = 125 from rfl, stepA_close _ _ hm]
  cases x <;> simp [autoL] <;> omega

theorem tokL_action (s x : List UInt8) (h : Inner s) : tokL (123 :: (s ++ 125 :: x)) = .good 9 s (s.length + 2) := by
  have k1 : letN 123 = false := by decide
  have k2 : UInt8.toNat 123 = 123 := rfl
  simp only [tokL, k1, k2, Bool.false_eq_true, if_false, Nat.reduceEqDiff, if_true]
  rw [inner_auto s x h]
  simp only [Nat.add_sub_cancel]
  rw [List.take_left' rfl]

theorem lexA_action (s x : List UInt8) (a : Nat) (h : Inner s) : lexA (123 :: (s ++ 125 :: x)) 0 a = (lexA x 0 (a + s.length + 2)).cons ⟨9, s, a⟩ := by
  rw [lexA_tok _ _ (by simp) (by simp [wsN]) (by cases s <;> simp [comL]), tokL_action s x h]
  simp only
  congr 2
  · show List.drop (s.length + 1) (s ++ 125 :: x) = x
    rw [← List.drop_drop, List.drop_left' rfl]; rfl

/-- what 'one' asks -/
def oneL (s : List UInt8) : Prop := toks (123 :: (s ++ [125])) = .good [⟨9, s, 0⟩, ⟨7, [], s.length + 2⟩]

theorem one_inner (s : List UInt8) (t : Tok) (e : Tok) (h : toks (123 :: (s ++ [125])) = .good [t, e]) (ht : t.kind = 9 ∧ t.text = s) : Inner s := by
  unfold toks at h
  split at h
  · cases h
  rw [lexA_tok _ _ (by simp) (by simp [wsN]) (by cases s <;> simp [comL])] at h
  have k1 : letN 123 = false := by decide
  have k2 : UInt8.toNat 123 = 123 := rfl
  simp only [tokL, k1, k2, Bool.false_eq_true, if_false, Nat.reduceEqDiff, if_true] at h
  cases ha : autoL (s ++ [125]) 1 0 with
  | none => simp [ha] at h
  | some n =>
    simp only [ha] at h
    have hle := (autoL_le _ _ _ _ ha).1
    simp only [List.length_append, List.length_cons, List.length_nil] at hle
    cases hx : lexA (List.drop (n + 1) (123 :: (s ++ [125]))) 0 (0 + (n + 1)) with
    | bad e p => rw [hx] at h; cases h
    | good l =>
      simp only [hx, Res.cons, Res.good.injEq, List.cons.injEq] at h
      have h2 := ht.2
      rw [← h.1] at h2
      simp only at h2
      have h3 := congrArg List.length h2
      simp at h3
      have : n = s.length + 1 := by
        have := (autoL_le _ _ _ _ ha).2 (by omega); omega
      subst this
      exact inner_of_auto s 0 0 ha

theorem inner_one (s : List UInt8) (h : Inner s) (hl : s.length ≤ 65534) : oneL s := by
  unfold oneL toks
  rw [if_neg (by simp; omega)]
  have := lexA_action s [] 0 h
  rw [this]; simp [lexA, Res.cons]

theorem inner_in (a b : List UInt8) (ha : Inner a) (hb : Inner b) : Inner (a ++ 123 :: (b ++ [125])) := by
  obtain ⟨m, hm, hr⟩ := ha
  obtain ⟨n, hn, hs⟩ := hb
  refine ⟨0, by simp [plainM], ?_⟩
  rw [runA_app a _ 1 0 1 m hr]
  have h2 := runA_shift b 1 0 1 1 n (by omega) hs
  simp only [runA, show UInt8.toNat 123 = 123 from rfl, stepA_open _ _ hm]
  rw [if_neg (by omega), runA_app b _ _ _ _ _ h2]
  simp [runA, show UInt8.toNat 125 = 125 from rfl, stepA_close _ _ hn]
theorem inner_two (a b : List UInt8) (ha : Inner a) (hb : Inner b) : Inner (123 :: (a ++ 125 :: 10 :: 123 :: (b ++ [125]))) := by
  obtain ⟨m, hm, hr⟩ := ha
  obtain ⟨n, hn, hs⟩ := hb
  refine ⟨0, by simp [plainM], ?_⟩
  have h0 : plainM 0 := by simp [plainM]
  have h1 := runA_shift a 1 0 1 1 m (by omega) hr
  have h2 := runA_shift b 1 0 1 1 n (by omega) hs
  rw [runA, show UInt8.toNat 123 = 123 from rfl, stepA_open _ _ h0]
  simp only
  rw [if_neg (by omega), runA_app a _ _ _ _ _ h1]
  rw [runA, show UInt8.toNat 125 = 125 from rfl, stepA_close _ _ hm]
  simp only
  rw [if_neg (by omega), runA, show UInt8.toNat 10 = 10 from rfl, stepA_line _ _ h0]
  simp only
  rw [if_neg (by omega), runA, show UInt8.toNat 123 = 123 from rfl, stepA_open _ _ h0]
  simp only
  rw [if_neg (by omega), runA_app b _ _ _ _ _ h2]
  simp [runA, show UInt8.toNat 125 = 125 from rfl, stepA_close _ _ hn]

/-- two side by side, behind a name -/
theorem inner_side (a b : List UInt8) (ha : Inner a) (hb : Inner b) (hla : a.length ≤ 10000) (hlb : b.length ≤ 10000) :
    toks (120 :: 32 :: 123 :: (a ++ 125 :: 123 :: (b ++ [125, 32, 121]))) =
      .good [⟨2, [120], 0⟩, ⟨9, a, 2⟩, ⟨9, b, a.length + 4⟩, ⟨2, [121], a.length + b.length + 7⟩, ⟨7, [], a.length + b.length + 8⟩] := by
  unfold toks
  rw [if_neg (by simp; omega)]
  have hx : tokL (120 :: 32 :: 123 :: (a ++ 125 :: 123 :: (b ++ [125, 32, 121]))) = .good 2 [120] 1 := by
    have k1 : letN 120 = true := by decide
    have k2 : ldN 120 = true := by decide
    have k3 : ldN 32 = false := by decide
    have e1 : UInt8.toNat 120 = 120 := rfl
    have e2 : UInt8.toNat 32 = 32 := rfl
    have hr : ∀ y, runL (120 :: 32 :: y) = 1 := fun y => by simp [runL, e1, e2, k2, k3]
    simp [tokL, hr, e1, k1]
  rw [lexA_tok _ _ (by simp) (by simp [wsN]) (by simp [comL]), hx]
  simp only [List.drop_succ_cons, List.drop_zero]
  rw [lexA_ws _ _ (by simp) (by simp [wsN])]
  simp only [List.drop_succ_cons, List.drop_zero]
  rw [lexA_action a _ _ ha, show b ++ [125, 32, 121] = b ++ 125 :: [32, 121] from rfl, lexA_action b _ _ hb]
  have hy : ∀ p, lexA [32, 121] 0 p = .good [⟨2, [121], p + 1⟩, ⟨7, [], p + 2⟩] := by
    intro p
    have k1 : letN 121 = true := by decide
    have k2 : ldN 121 = true := by decide
    have e1 : UInt8.toNat 121 = 121 := rfl
    have e2 : UInt8.toNat 32 = 32 := rfl
    have w1 : wsN 32 = true := by decide
    have w2 : wsN 121 = false := by decide
    simp [lexA, e1, e2, w1, w2, comL, tokL, k1, runL, k2, Res.cons]
  rw [hy]
  simp only [Res.cons, Res.good.injEq, List.cons.injEq, Tok.mk.injEq, true_and, and_true]
  omega
end Go.Proofs.Ytelpkldlkpoioaa.Lexy
