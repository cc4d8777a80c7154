/- What the grammar's lexer answers, in plain words: lists of bytes, no program in sight. -/
import Derived.Lib.IndexMore
namespace Go.Proofs.YtghebacphjglbaaGreat.Lexy

/-- a letter -/
def letN (n : Nat) : Bool := (decide (97 ≤ n) && decide (n ≤ 122)) || (decide (65 ≤ n) && decide (n ≤ 90)) || decide (n = 95)
/-- a digit -/
def digN (n : Nat) : Bool := decide (48 ≤ n) && decide (n ≤ 57)
/-- a letter or a digit -/
def ldN (n : Nat) : Bool := letN n || digN n
/-- a blank -/
def wsN (n : Nat) : Bool := decide (n = 32) || decide (n = 9) || decide (n = 10) || decide (n = 13)
/-- one of the signs -/
def signN (n : Nat) : Bool := decide (n = 58) || decide (n = 59) || decide (n = 124) || decide (n = 40) || decide (n = 41) || decide (n = 44) || decide (n = 60) || decide (n = 62)

/-- how many letters and digits stand ahead -/
def runL : List UInt8 → Nat
  | [] => 0
  | c :: r => if ldN c.toNat then runL r + 1 else 0
/-- how many bytes stand ahead of the line's end -/
def overL : List UInt8 → Nat
  | [] => 0
  | c :: r => if c.toNat = 10 then 0 else overL r + 1
/-- does a comment begin? -/
def comL : List UInt8 → Bool
  | c :: d :: _ => decide (c.toNat = 47) && decide (d.toNat = 47)
  | _ => false
/-- behind an opening quote: how many bytes up to and with the closing one -/
def quoL : List UInt8 → Option Nat
  | [] => none
  | [c] => if c.toNat = 34 then some 1 else none
  | c :: d :: r =>
    if c.toNat = 34 then some 1
    else if c.toNat = 92 then (quoL r).map (· + 2)
    else if c.toNat = 10 then none
    else (quoL (d :: r)).map (· + 1)
/-- one byte of an action: how many braces are open, and the mode (0: plain, 1: in a string, 2: behind its backslash, 3: behind a slash, 4: in a comment) -/
def stepA (o m c : Nat) : Option (Nat × Nat) :=
  if m = 1 then (if c = 34 then some (o, 0) else if c = 92 then some (o, 2) else if c = 10 then none else some (o, 1))
  else if m = 2 then some (o, 1)
  else if m = 4 then (if c = 10 then some (o, 0) else some (o, 4))
  else if c = 123 then some (o + 1, 0)
  else if c = 125 then some (o - 1, 0)
  else if c = 34 then some (o, 1)
  else if c = 47 then (if m = 3 then some (o, 4) else some (o, 3))
  else some (o, 0)
/-- how many bytes up to where no brace is open -/
def autoL : List UInt8 → Nat → Nat → Option Nat
  | _, 0, _ => some 0
  | [], _ + 1, _ => none
  | c :: r, o + 1, m =>
    match stepA (o + 1) m c.toNat with
    | none => none
    | some (o', m') => (autoL r o' m').map (· + 1)

/-- the words -/
def wordsL : List (List UInt8) :=
  [[116, 111, 107, 101, 110], [116, 121, 112, 101], [108, 101, 102, 116], [114, 105, 103, 104, 116], [110, 111, 110, 97, 115, 115, 111, 99], [115, 116, 97, 114, 116], [112, 114, 101, 99]]

/-- a token: its kind, its text, its place -/
structure Tok where
  kind : Nat
  text : List UInt8
  at_ : Nat
  deriving DecidableEq, Repr

/-- what a token's beginning leads to: an error, or its kind, its text, and how many bytes it takes -/
inductive One where
  | bad (e : Nat)
  | good (kind : Nat) (text : List UInt8) (n : Nat)
  deriving DecidableEq, Repr

/-- the token that begins here -/
def tokL : List UInt8 → One
  | [] => .bad 100
  | c :: r =>
    if letN c.toNat then (if 40 < runL (c :: r) then .bad 101 else .good 2 ((c :: r).take (runL (c :: r))) (runL (c :: r)))
    else if c.toNat = 37 then
      (if (r.head?.map (·.toNat)) = some 37 then .good 6 [37, 37] 2
       else if r.take (runL r) ∈ wordsL then .good 1 (r.take (runL r)) (runL r + 1) else .bad 101)
    else if c.toNat = 123 then
      match autoL r 1 0 with
      | none => .bad 101
      | some n => .good 9 (r.take (n - 1)) (n + 1)
    else if signN c.toNat then .good 6 [c] 1
    else .bad 100

/-- what a source leads to: a fault and its place, or tokens -/
inductive Res where
  | bad (e at_ : Nat)
  | good (l : List Tok)
  deriving DecidableEq, Repr

def Res.cons (t : Tok) : Res → Res
  | .bad e a => .bad e a
  | .good l => .good (t :: l)

/-- the tokens of what is left, so many bytes of it gone over already, from a place on -/
def lexA : List UInt8 → Nat → Nat → Res
  | [], _, a => .good [⟨7, [], a⟩]
  | _ :: r, k + 1, a => lexA r k (a + 1)
  | c :: r, 0, a =>
    if wsN c.toNat then lexA r 0 (a + 1)
    else if comL (c :: r) then lexA r (overL (c :: r) - 1) (a + 1)
    else match tokL (c :: r) with
      | .bad e => .bad e a
      | .good k t n => (lexA r (n - 1) (a + 1)).cons ⟨k, t, a⟩

/-- the tokens of a source -/
def toks (s : List UInt8) : Res := if 65536 < s.length then .bad 3 0 else lexA s 0 0

theorem runL_le (l : List UInt8) : runL l ≤ l.length := by
  induction l with
  | nil => simp [runL]
  | cons c r ih => simp only [runL]; split <;> simp <;> omega
theorem overL_le (l : List UInt8) : overL l ≤ l.length := by
  induction l with
  | nil => simp [overL]
  | cons c r ih => simp only [overL]; split <;> simp <;> omega
theorem quoL_le (l : List UInt8) : ∀ n, quoL l = some n → 1 ≤ n ∧ n ≤ l.length := by
  fun_induction quoL l with
  | case1 => simp
  | case2 c => simp_all
  | case3 c h => simp_all
  | case4 c d r h => intro n hn; simp at hn; subst hn; simp
  | case5 c d r h1 h2 ih =>
    intro n hn
    cases hq : quoL r with
    | none => simp [hq] at hn
    | some m => simp [hq] at hn; subst hn; have := ih m hq; simp; omega
  | case6 c d r h1 h2 h3 => simp
  | case7 c d r h1 h2 h3 ih =>
    intro n hn
    cases hq : quoL (d :: r) with
    | none => simp [hq] at hn
    | some m => simp [hq] at hn; subst hn; have := ih m hq; simp at this ⊢; omega
theorem autoL_le (l : List UInt8) : ∀ o m n, autoL l o m = some n → n ≤ l.length ∧ (0 < o → 0 < n) := by
  induction l with
  | nil =>
    intro o m n h
    cases o with
    | zero => simp [autoL] at h; subst h; simp
    | succ o => simp [autoL] at h
  | cons c r ih =>
    intro o m n h
    cases o with
    | zero => simp [autoL] at h; subst h; simp
    | succ o =>
      simp only [autoL] at h
      cases hs : stepA (o + 1) m c.toNat with
      | none => simp [hs] at h
      | some p =>
        obtain ⟨o', m'⟩ := p
        simp only [hs] at h
        cases ha : autoL r o' m' with
        | none => simp [ha] at h
        | some k => simp [ha] at h; subst h; have := (ih o' m' k ha).1; simp; omega
theorem tokL_le (l : List UInt8) : ∀ k t n, tokL l = .good k t n → 1 ≤ n ∧ n ≤ l.length := by
  intro k t n h
  cases l with
  | nil => simp [tokL] at h
  | cons c r =>
    simp only [tokL] at h
    have hr := runL_le (c :: r)
    have hr' := runL_le r
    split at h
    · rename_i hl
      split at h
      · cases h
      · cases h
        simp [runL, ldN, hl] at hr ⊢; omega
    · split at h
      · split at h
        · rename_i hh
          cases h
          cases r with
          | nil => simp at hh
          | cons d r => simp
        · split at h
          · cases h; simp; omega
          · cases h
      · split at h
        · split at h
          · cases h
          · rename_i n' ha
            cases h
            have := (autoL_le r 1 0 n' ha).1
            simp; omega
        · split at h
          · cases h; simp
          · cases h

theorem lexA_skip (l : List UInt8) : ∀ k a, k ≤ l.length → lexA l k a = lexA (l.drop k) 0 (a + k) := by
  induction l with
  | nil => intro k a h; simp at h; subst h; simp
  | cons c r ih =>
    intro k a h
    cases k with
    | zero => simp
    | succ k =>
      simp only [List.length_cons] at h
      simp only [lexA, List.drop_succ_cons]
      rw [ih k (a + 1) (by omega)]
      congr 1; omega

/-- one step of the tokens: a token -/
theorem lexA_tok (l : List UInt8) (a : Nat) (hne : l ≠ []) (h1 : wsN (l.headD 0).toNat = false) (h2 : comL l = false) :
    lexA l 0 a = match tokL l with
      | .bad e => .bad e a
      | .good k t n => (lexA (l.drop n) 0 (a + n)).cons ⟨k, t, a⟩ := by
  cases l with
  | nil => exact absurd rfl hne
  | cons c r =>
    simp only [List.headD_cons] at h1
    simp only [lexA, h1, h2, Bool.false_eq_true, if_false]
    cases ht : tokL (c :: r) with
    | bad e => rfl
    | good k t n =>
      have hn := tokL_le _ _ _ _ ht
      simp only
      rw [lexA_skip r (n - 1) (a + 1) (by simp at hn; omega)]
      obtain ⟨m, rfl⟩ : ∃ m, n = m + 1 := ⟨n - 1, by omega⟩
      simp only [List.drop_succ_cons, Nat.add_sub_cancel]
      congr 2; omega
theorem lexA_ws (l : List UInt8) (a : Nat) (hne : l ≠ []) (h1 : wsN (l.headD 0).toNat = true) : lexA l 0 a = lexA (l.drop 1) 0 (a + 1) := by
  cases l with
  | nil => exact absurd rfl hne
  | cons c r => simp only [List.headD_cons] at h1; simp [lexA, h1]
theorem overL_pos (l : List UInt8) (h : comL l = true) : 1 ≤ overL l := by
  match l, h with
  | c :: d :: r, h =>
    simp only [comL, Bool.and_eq_true, decide_eq_true_eq] at h
    have : c.toNat ≠ 10 := by omega
    simp [overL, this]
theorem lexA_com (l : List UInt8) (a : Nat) (h1 : wsN (l.headD 0).toNat = false) (h2 : comL l = true) : lexA l 0 a = lexA (l.drop (overL l)) 0 (a + overL l) := by
  cases l with
  | nil => simp [comL] at h2
  | cons c r =>
    have hp := overL_pos _ h2
    have hl := overL_le (c :: r)
    simp only [List.headD_cons] at h1
    simp only [lexA, h1, h2, Bool.false_eq_true, if_false, if_true]
    rw [lexA_skip r _ _ (by simp at hl; omega)]
    obtain ⟨m, hm⟩ : ∃ m, overL (c :: r) = m + 1 := ⟨overL (c :: r) - 1, by omega⟩
    rw [hm]
    simp only [List.drop_succ_cons, Nat.add_sub_cancel]
    congr 1; omega

theorem autoL_cons (c : UInt8) (r : List UInt8) (o m : Nat) : autoL (c :: r) (o + 1) m = match stepA (o + 1) m c.toNat with | none => none | some p => (autoL r p.1 p.2).map (· + 1) := by
  simp only [autoL]; cases stepA (o + 1) m c.toNat <;> rfl
/-- in a string the automaton goes where 'quoL' says -/
theorem autoL_quo (l : List UInt8) : ∀ o, 0 < o → autoL l o 1 = match quoL l with | none => none | some n => (autoL (l.drop n) o 0).map (· + n) := by
  fun_induction quoL l with
  | case1 => intro o ho; obtain ⟨o, rfl⟩ : ∃ k, o = k + 1 := ⟨o - 1, by omega⟩; simp [autoL]
  | case2 c h => intro o ho; obtain ⟨o, rfl⟩ : ∃ k, o = k + 1 := ⟨o - 1, by omega⟩; simp [autoL, stepA, h]
  | case3 c h =>
    intro o ho; obtain ⟨o, rfl⟩ : ∃ k, o = k + 1 := ⟨o - 1, by omega⟩
    simp only [autoL, stepA, h, if_true, if_false]
    by_cases h1 : c.toNat = 92
    · simp [h1, autoL]
    · by_cases h2 : c.toNat = 10
      · simp [h2]
      · simp [h1, h2, autoL]
  | case4 c d r h => intro o ho; obtain ⟨o, rfl⟩ : ∃ k, o = k + 1 := ⟨o - 1, by omega⟩; simp [autoL, stepA, h]
  | case5 c d r h1 h2 ih =>
    intro o ho; obtain ⟨o, rfl⟩ : ∃ k, o = k + 1 := ⟨o - 1, by omega⟩
    have hi := ih (o + 1) (by omega)
    have e1 : stepA (o + 1) 1 c.toNat = some (o + 1, 2) := by simp [stepA, h2]
    have e2 : stepA (o + 1) 2 d.toNat = some (o + 1, 1) := by simp [stepA]
    rw [autoL_cons, e1]; simp only; rw [autoL_cons, e2]; simp only
    rw [hi]
    cases quoL r with
    | none => simp
    | some n =>
      simp only [Option.map_some, List.drop_succ_cons]
      cases autoL (List.drop n r) (o + 1) 0 <;> simp <;> omega
  | case6 c d r h1 h2 h3 => intro o ho; obtain ⟨o, rfl⟩ : ∃ k, o = k + 1 := ⟨o - 1, by omega⟩; simp [autoL, stepA, h3]
  | case7 c d r h1 h2 h3 ih =>
    intro o ho; obtain ⟨o, rfl⟩ : ∃ k, o = k + 1 := ⟨o - 1, by omega⟩
    have hi := ih (o + 1) (by omega)
    rw [autoL]
    simp only [stepA, h1, h2, h3, if_true, if_false]
    rw [hi]
    cases quoL (d :: r) with
    | none => simp
    | some n =>
      simp only [Option.map_some, List.drop_succ_cons]
      cases autoL (List.drop n (d :: r)) (o + 1) 0 <;> simp <;> omega
/-- in a comment the automaton goes to the line's end -/
theorem autoL_over (l : List UInt8) : ∀ o, 0 < o → autoL l o 4 = (autoL (l.drop (overL l)) o 0).map (· + overL l) := by
  induction l with
  | nil => intro o ho; obtain ⟨o, rfl⟩ : ∃ k, o = k + 1 := ⟨o - 1, by omega⟩; simp [autoL, overL]
  | cons c r ih =>
    intro o ho; obtain ⟨o, rfl⟩ : ∃ k, o = k + 1 := ⟨o - 1, by omega⟩
    by_cases h : c.toNat = 10
    · have e0 : stepA (o + 1) 4 c.toNat = some (o + 1, 0) := by simp [stepA, h]
      have e1 : stepA (o + 1) 0 c.toNat = some (o + 1, 0) := by simp [stepA, h]
      have e2 : overL (c :: r) = 0 := by simp [overL, h]
      rw [e2, autoL_cons, e0, List.drop_zero, autoL_cons, e1]; simp only; cases autoL r (o + 1) 0 <;> simp
    · simp only [autoL, stepA, h, overL, if_false, List.drop_succ_cons]
      simp only [reduceIte, Nat.reduceEqDiff]
      rw [ih (o + 1) (by omega)]
      cases autoL (List.drop (overL r) r) (o + 1) 0 <;> simp <;> omega
/-- behind a lone slash the automaton is as ahead of it -/
theorem autoL_three (l : List UInt8) (o : Nat) (h : (l.head?.map (·.toNat)) ≠ some 47) : autoL l o 3 = autoL l o 0 := by
  cases l with
  | nil => cases o <;> simp [autoL]
  | cons c r =>
    cases o with
    | zero => simp [autoL]
    | succ o => simp at h; simp [autoL, stepA, h]

/-- one step of an action: a plain byte -/
theorem autoL_plain (c : UInt8) (r : List UInt8) (o : Nat) (h1 : c.toNat ≠ 123) (h2 : c.toNat ≠ 125) (h3 : c.toNat ≠ 34) (h4 : c.toNat ≠ 47) :
    autoL (c :: r) (o + 1) 0 = (autoL r (o + 1) 0).map (· + 1) := by simp [autoL, stepA, h1, h2, h3, h4]
theorem autoL_open (c : UInt8) (r : List UInt8) (o : Nat) (h1 : c.toNat = 123) : autoL (c :: r) (o + 1) 0 = (autoL r (o + 2) 0).map (· + 1) := by simp [autoL, stepA, h1]
theorem autoL_close (c : UInt8) (r : List UInt8) (o : Nat) (h1 : c.toNat = 125) : autoL (c :: r) (o + 1) 0 = (autoL r o 0).map (· + 1) := by simp [autoL, stepA, h1]
theorem autoL_str (c : UInt8) (r : List UInt8) (o : Nat) (h1 : c.toNat = 34) :
    autoL (c :: r) (o + 1) 0 = match quoL r with | none => none | some n => (autoL (r.drop n) (o + 1) 0).map (· + (n + 1)) := by
  have := autoL_quo r (o + 1) (by omega)
  have e1 : stepA (o + 1) 0 c.toNat = some (o + 1, 1) := by simp [stepA, h1]
  rw [autoL_cons, e1]; simp only
  rw [this]
  cases quoL r with
  | none => simp
  | some n =>
    simp only
    cases autoL (List.drop n r) (o + 1) 0 <;> simp <;> omega
theorem autoL_slash (c : UInt8) (r : List UInt8) (o : Nat) (h1 : c.toNat = 47) (h2 : comL (c :: r) = false) : autoL (c :: r) (o + 1) 0 = (autoL r (o + 1) 0).map (· + 1) := by
  have : (r.head?.map (·.toNat)) ≠ some 47 := by
    cases r with
    | nil => simp
    | cons d r => simp [comL, h1] at h2; simpa using h2
  rw [← autoL_three r (o + 1) this]
  simp [autoL, stepA, h1]
theorem autoL_com (c : UInt8) (r : List UInt8) (o : Nat) (h2 : comL (c :: r) = true) :
    autoL (c :: r) (o + 1) 0 = (autoL ((c :: r).drop (overL (c :: r))) (o + 1) 0).map (· + overL (c :: r)) := by
  cases r with
  | nil => simp [comL] at h2
  | cons d r =>
    simp only [comL, Bool.and_eq_true, decide_eq_true_eq] at h2
    have e1 : overL (c :: d :: r) = overL r + 2 := by simp [overL, h2.1, h2.2]
    rw [e1]
    simp only [List.drop_succ_cons]
    have e2 : stepA (o + 1) 0 c.toNat = some (o + 1, 3) := by simp [stepA, h2.1]
    have e3 : stepA (o + 1) 3 d.toNat = some (o + 1, 4) := by simp [stepA, h2.2]
    rw [autoL_cons, e2]; simp only; rw [autoL_cons, e3]; simp only
    rw [autoL_over r (o + 1) (by omega)]
    cases autoL (List.drop (overL r) r) (o + 1) 0 <;> simp <;> omega
end Go.Proofs.YtghebacphjglbaaGreat.Lexy
/- The lexer's tokens, written one behind the other, are told as they were; an action within another one. Plain lists; no program in sight. -/
namespace Go.Proofs.YtghebacphjglbaaGreat.Lexy

/-- a token's text in a source -/
def render (k : Nat) (t : List UInt8) : List UInt8 := if k = 1 then 37 :: t else if k = 9 then 123 :: (t ++ [125]) else t
/-- the tokens' texts, a blank behind each -/
def renderAll (l : List Tok) : List UInt8 := l.flatMap fun t => render t.kind t.text ++ [32]

theorem runL_all (l : List UInt8) : ∀ c ∈ l.take (runL l), ldN c.toNat = true := by
  induction l with
  | nil => simp
  | cons c r ih =>
    by_cases h : ldN c.toNat = true
    · simp only [runL, h, if_true, List.take_succ_cons, List.mem_cons]
      rintro d (rfl | hd)
      · exact h
      · exact ih d hd
    · simp [runL, h]
theorem runL_len (p : List UInt8) (x : List UInt8) (hp : ∀ c ∈ p, ldN c.toNat = true) (hx : ∀ c, x.head? = some c → ldN c.toNat = false) : runL (p ++ x) = p.length := by
  induction p with
  | nil =>
    cases x with
    | nil => simp [runL]
    | cons c x => simp [runL, hx c (by simp)]
  | cons c r ih =>
    simp only [List.cons_append, runL, hp c (by simp), if_true, List.length_cons]
    rw [ih fun d hd => hp d (by simp [hd])]
theorem take_runL_len (l : List UInt8) : (l.take (runL l)).length = runL l := by have := runL_le l; simp; omega

theorem autoL_app (l : List UInt8) : ∀ o m n x, autoL l o m = some n → autoL (l.take n ++ x) o m = some n := by
  induction l with
  | nil =>
    intro o m n x h
    cases o with
    | zero => simp [autoL] at h ⊢; exact h
    | succ o => simp [autoL] at h
  | cons c r ih =>
    intro o m n x h
    cases o with
    | zero => simp [autoL] at h ⊢; exact h
    | succ o =>
      rw [autoL_cons] at h
      cases hs : stepA (o + 1) m c.toNat with
      | none => simp [hs] at h
      | some p =>
        simp only [hs] at h
        cases ha : autoL r p.1 p.2 with
        | none => simp [ha] at h
        | some k =>
          simp only [ha, Option.map_some, Option.some.injEq] at h
          subst h
          simp only [List.take_succ_cons, List.cons_append]
          rw [autoL_cons, hs]
          simp only
          rw [ih _ _ _ x ha]; rfl

/-- the last byte that an action takes is its closing brace -/
theorem autoL_last (l : List UInt8) : ∀ o m n, autoL l (o + 1) m = some n → l.take n = l.take (n - 1) ++ [125] := by
  induction l with
  | nil => intro o m n h; simp [autoL] at h
  | cons c r ih =>
    intro o m n h
    rw [autoL_cons] at h
    cases hs : stepA (o + 1) m c.toNat with
    | none => simp [hs] at h
    | some p =>
      obtain ⟨o', m'⟩ := p
      simp only [hs] at h
      cases ha : autoL r o' m' with
      | none => simp [ha] at h
      | some k =>
        simp only [ha, Option.map_some, Option.some.injEq] at h
        subst h
        cases o' with
        | zero =>
          cases r <;> simp [autoL] at ha <;> subst ha
          all_goals
            have : c.toNat = 125 := by
              unfold stepA at hs
              (repeat' split at hs) <;> simp at hs <;> omega
            have : c = 125 := UInt8.toNat_inj.1 (by simpa using this)
            simp [this]
        | succ o' =>
          have h1 := (autoL_le r (o' + 1) m' k ha).2 (by omega)
          have := ih o' m' k ha
          obtain ⟨j, rfl⟩ : ∃ j, k = j + 1 := ⟨k - 1, by omega⟩
          simp only [List.take_succ_cons, Nat.add_sub_cancel, List.cons_append]
          rw [this]; simp

/-- what begins a token begins with no blank and no comment -/
theorem tokL_head (l : List UInt8) (k : Nat) (t : List UInt8) (n : Nat) (h : tokL l = .good k t n) :
    ∃ c r, l = c :: r ∧ wsN c.toNat = false ∧ c.toNat ≠ 47 := by
  cases l with
  | nil => simp [tokL] at h
  | cons c r =>
    refine ⟨c, r, rfl, ?_⟩
    unfold tokL at h
    by_cases h1 : letN c.toNat = true
    · simp only [letN, Bool.or_eq_true, Bool.and_eq_true, decide_eq_true_eq] at h1
      exact ⟨by simp [wsN]; omega, by omega⟩
    · simp only [h1, Bool.false_eq_true, if_false] at h
      by_cases h2 : c.toNat = 37
      · exact ⟨by simp [wsN, h2], by omega⟩
      · simp only [h2, if_false] at h
        by_cases h3 : c.toNat = 123
        · exact ⟨by simp [wsN, h3], by omega⟩
        · simp only [h3, if_false] at h
          by_cases h4 : signN c.toNat = true
          · simp only [signN, Bool.or_eq_true, decide_eq_true_eq] at h4
            exact ⟨by simp [wsN]; omega, by omega⟩
          · simp [h4] at h

theorem tokL_kind (l : List UInt8) (k : Nat) (t : List UInt8) (n : Nat) (h : tokL l = .good k t n) : k = 1 ∨ k = 2 ∨ k = 6 ∨ k = 9 := by
  cases l with
  | nil => simp [tokL] at h
  | cons c r =>
    simp only [tokL] at h
    split at h
    · split at h
      · cases h
      · cases h; simp
    · split at h
      · split at h
        · cases h; simp
        · split at h
          · cases h; simp
          · cases h
      · split at h
        · split at h
          · cases h
          · cases h; simp
        · split at h
          · cases h; simp
          · cases h

theorem words_head (t : List UInt8) (h : t ∈ wordsL) (x : List UInt8) : ((t ++ x).head?.map (·.toNat)) ≠ some 37 := by
  simp only [wordsL, List.mem_cons, List.not_mem_nil, or_false] at h
  rcases h with rfl | rfl | rfl | rfl | rfl | rfl | rfl <;> simp

/-- what a token takes is its text as it is written, and that, with a blank behind it, is the same token -/
theorem tokL_render (l : List UInt8) (k : Nat) (t : List UInt8) (n : Nat) (h : tokL l = .good k t n) :
    l.take n = render k t ∧ ∀ x, tokL (render k t ++ 32 :: x) = .good k t n := by
  cases l with
  | nil => simp [tokL] at h
  | cons c r =>
    have hb : ∀ (x : List UInt8) d, ((32 : UInt8) :: x).head? = some d → ldN d.toNat = false := by intro x d hd; simp at hd; subst hd; decide
    unfold tokL at h
    by_cases h1 : letN c.toNat = true
    · simp only [h1, if_true] at h
      split at h
      · cases h
      · rename_i h40
        cases h
        refine ⟨by simp [render], fun x => ?_⟩
        have he : render 2 (List.take (runL (c :: r)) (c :: r)) = List.take (runL (c :: r)) (c :: r) := by simp [render]
        rw [he]
        have hr := runL_len _ (32 :: x) (runL_all (c :: r)) (hb x)
        have hlen := take_runL_len (c :: r)
        obtain ⟨m, hm⟩ : ∃ m, runL (c :: r) = m + 1 := ⟨runL r, by simp [runL, ldN, h1]⟩
        rw [hlen] at hr
        rw [hm] at hr hlen h40 ⊢
        simp only [List.take_succ_cons, List.cons_append] at hr hlen ⊢
        simp only [tokL, h1, if_true, hr]
        rw [if_neg (by omega), List.take_succ_cons, List.take_append_of_le_length (by simp at hlen ⊢; omega), List.take_of_length_le (by simp at hlen ⊢; omega)]
    · simp only [h1, Bool.false_eq_true, if_false] at h
      by_cases h2 : c.toNat = 37
      · have hc : c = 37 := UInt8.toNat_inj.1 (by simpa using h2)
        subst hc
        simp only [h2, if_true] at h
        split at h
        · rename_i h3
          cases h
          cases r with
          | nil => simp at h3
          | cons d r =>
            simp at h3
            have hd : d = 37 := UInt8.toNat_inj.1 (by simpa using h3)
            subst hd
            exact ⟨by simp [render], fun x => by simp [render, tokL, letN]⟩
        · split at h
          · rename_i h4
            cases h
            refine ⟨by simp [render], fun x => ?_⟩
            have hr := runL_len _ (32 :: x) (runL_all r) (hb x)
            have hw := words_head _ h4 (32 :: x)
            have he : render 1 (List.take (runL r) r) = 37 :: List.take (runL r) r := by simp [render]
            rw [he]
            have hlen := take_runL_len r
            rw [hlen] at hr
            rw [List.cons_append]
            have k1 : letN 37 = false := by decide
            simp only [tokL, h2, k1, Bool.false_eq_true, if_false, if_true, hr]
            rw [if_neg hw, List.take_left' hlen, if_pos h4]
          · cases h
      · simp only [h2, if_false] at h
        by_cases h3 : c.toNat = 123
        · have hc : c = 123 := UInt8.toNat_inj.1 (by simpa using h3)
          subst hc
          simp only [h3, if_true] at h
          split at h
          · cases h
          · rename_i n' ha
            cases h
            have hlast := autoL_last r 0 0 n' ha
            have hpos := (autoL_le r 1 0 n' ha).2 (by omega)
            have he : render 9 (List.take (n' - 1) r) = 123 :: List.take n' r := by simp [render, hlast]
            refine ⟨by rw [he]; simp, fun x => ?_⟩
            rw [he]
            rw [List.cons_append]
            have k1 : letN 123 = false := by decide
            simp only [tokL, h3, k1, Bool.false_eq_true, if_false, Nat.reduceEqDiff, if_true]
            rw [autoL_app r 1 0 n' (32 :: x) ha]
            simp only
            have hlen := (autoL_le r 1 0 n' ha).1
            rw [List.take_append_of_le_length (by simp; omega), List.take_take, Nat.min_eq_left (by omega)]
        · simp only [h3, if_false] at h
          split at h
          · rename_i h4
            cases h
            exact ⟨by simp [render], fun x => by simp [tokL, render, h1, h2, h3, h4]⟩
          · cases h

/-- a row of tokens: they rise, and each stands at its place -/
def chain (s : List UInt8) : Nat → List Tok → Prop
  | _, [] => True
  | b, t :: l => b ≤ t.at_ ∧ t.at_ + (render t.kind t.text).length ≤ s.length ∧ (s.drop t.at_).take (render t.kind t.text).length = render t.kind t.text ∧ chain s (t.at_ + (render t.kind t.text).length) l

theorem chain_mono (s : List UInt8) (l : List Tok) (b b' : Nat) (hb : b' ≤ b) (h : chain s b l) : chain s b' l := by
  cases l with
  | nil => trivial
  | cons t l => exact ⟨Nat.le_trans hb h.1, h.2⟩

/-- a token that stays one with a blank behind it -/
def Tok.fine (t : Tok) : Prop :=
  (t.kind = 1 ∨ t.kind = 2 ∨ t.kind = 6 ∨ t.kind = 9) ∧ ∀ x, tokL (render t.kind t.text ++ 32 :: x) = .good t.kind t.text (render t.kind t.text).length

/-- the tokens of a source, as a row and its end; or a fault at a place that is there -/
theorem lexA_shape (s : List UInt8) : ∀ (m : Nat) (a : Nat), s.length - a ≤ m → a ≤ s.length →
    match lexA (s.drop a) 0 a with
    | .bad e p => (e = 100 ∨ e = 101) ∧ a ≤ p ∧ p < s.length
    | .good l => ∃ ts, l = ts ++ [⟨7, [], s.length⟩] ∧ chain s a ts ∧ ∀ t ∈ ts, t.fine := by
  intro m
  induction m with
  | zero =>
    intro a h1 h2
    have : a = s.length := by omega
    subst this
    simp [lexA, chain]
  | succ m ih =>
    intro a h1 h2
    by_cases he : a = s.length
    · subst he; simp [lexA, chain]
    have hlt : a < s.length := by omega
    have hne : s.drop a ≠ [] := by simp; omega
    by_cases hw : wsN ((s.drop a).headD 0).toNat = true
    · rw [lexA_ws _ _ hne hw, List.drop_drop]
      have := ih (a + 1) (by omega) (by omega)
      revert this
      cases lexA (List.drop (a + 1) s) 0 (a + 1) with
      | bad e p => intro h; exact ⟨h.1, by omega, h.2.2⟩
      | good l => rintro ⟨ts, h, hc, hf⟩; exact ⟨ts, h, chain_mono _ _ _ _ (by omega) hc, hf⟩
    · have hw' : wsN ((s.drop a).headD 0).toNat = false := by simpa using hw
      by_cases hc : comL (s.drop a) = true
      · rw [lexA_com _ _ hw' hc, List.drop_drop]
        have hp := overL_pos _ hc
        have hl := overL_le (s.drop a)
        simp only [List.length_drop] at hl
        have := ih (a + overL (s.drop a)) (by omega) (by omega)
        revert this
        cases lexA (List.drop (a + overL (s.drop a)) s) 0 (a + overL (s.drop a)) with
        | bad e p => intro h; exact ⟨h.1, by omega, h.2.2⟩
        | good l => rintro ⟨ts, h, hc, hf⟩; exact ⟨ts, h, chain_mono _ _ _ _ (by omega) hc, hf⟩
      · have hc' : comL (s.drop a) = false := by simpa using hc
        rw [lexA_tok _ _ hne hw' hc']
        cases ht : tokL (s.drop a) with
        | bad e =>
          refine ⟨?_, Nat.le_refl _, hlt⟩
          revert ht
          cases s.drop a with
          | nil => simp [tokL]; omega
          | cons c r =>
            simp only [tokL]
            intro ht
            (repeat' split at ht) <;> first | (cases ht; simp; done) | cases ht
        | good k t n =>
          simp only
          have hn := tokL_le _ _ _ _ ht
          have hr := tokL_render _ _ _ _ ht
          have hk := tokL_kind _ _ _ _ ht
          simp only [List.length_drop] at hn
          have hlen : (render k t).length = n := by rw [← hr.1]; simp; omega
          rw [List.drop_drop]
          have := ih (a + n) (by omega) (by omega)
          revert this
          cases lexA (List.drop (a + n) s) 0 (a + n) with
          | bad e p => intro h; exact ⟨h.1, by omega, h.2.2⟩
          | good l =>
            rintro ⟨ts, h, hc, hf⟩
            refine ⟨⟨k, t, a⟩ :: ts, by simp [h], ⟨Nat.le_refl _, by simp only [hlen]; omega, by simp only [hlen]; exact hr.1, by simp only [hlen]; exact hc⟩, ?_⟩
            intro x hx
            rcases List.mem_cons.1 hx with rfl | hx
            · exact ⟨hk, fun x => by simp only [hlen]; exact hr.2 x⟩
            · exact hf x hx

/-- the tokens without their places -/
def bare (l : List Tok) : List (Nat × List UInt8) := l.map fun t => (t.kind, t.text)

theorem lexA_back (ts : List Tok) : ∀ b, (∀ t ∈ ts, t.fine) → ∃ m, lexA (renderAll ts) 0 b = .good m ∧ bare m = bare ts ++ [(7, [])] := by
  induction ts with
  | nil => intro b _; exact ⟨_, rfl, rfl⟩
  | cons t ts ih =>
    intro b hf
    have hfine := hf t (List.mem_cons_self ..)
    have he : renderAll (t :: ts) = render t.kind t.text ++ 32 :: renderAll ts := by simp [renderAll]
    rw [he]
    have htok := hfine.2 (renderAll ts)
    obtain ⟨c, r, hcr, hw, h47⟩ := tokL_head _ _ _ _ htok
    have hne : render t.kind t.text ++ 32 :: renderAll ts ≠ [] := by simp
    have hcom : comL (render t.kind t.text ++ 32 :: renderAll ts) = false := by
      rw [hcr]; cases r <;> simp [comL, h47]
    rw [lexA_tok _ _ hne (by rw [hcr]; exact hw) hcom, htok]
    simp only
    rw [List.drop_left]
    obtain ⟨m, hm, hb⟩ := ih (b + (render t.kind t.text).length + 1) fun x hx => hf x (List.mem_cons_of_mem _ hx)
    rw [lexA_ws _ _ (by simp) (by simp [wsN])]
    simp only [List.drop_succ_cons, List.drop_zero]
    rw [hm]
    refine ⟨_, rfl, ?_⟩
    simp only [bare, List.map_cons, List.cons_append] at hb ⊢
    rw [hb]

/-- THE PLAIN LAW OF LexBack -/
theorem toks_back (s : List UInt8) (l : List Tok) (h : toks s = .good l) :
    ∃ ts, l = ts ++ [⟨7, [], s.length⟩] ∧ chain s 0 ts ∧ ((renderAll ts).length ≤ 65536 → ∃ m, toks (renderAll ts) = .good m ∧ bare m = bare l) := by
  unfold toks at h
  split at h
  · cases h
  · have := lexA_shape s s.length 0 (by omega) (by omega)
    simp only [List.drop_zero, h] at this
    obtain ⟨ts, h1, h2, h3⟩ := this
    refine ⟨ts, h1, h2, fun hlen => ?_⟩
    obtain ⟨m, hm, hb⟩ := lexA_back ts 0 h3
    refine ⟨m, ?_, by rw [hb, h1]; simp [bare]⟩
    unfold toks
    rw [if_neg (by omega)]; exact hm
theorem toks_bad (s : List UInt8) (e p : Nat) (h : toks s = .bad e p) : e ≠ 0 ∧ e < 200 ∧ (p < s.length ∨ 65536 < s.length) ∧ p ≤ s.length := by
  unfold toks at h
  split at h
  · cases h; omega
  · have := lexA_shape s s.length 0 (by omega) (by omega)
    simp only [List.drop_zero, h] at this
    omega
end Go.Proofs.YtghebacphjglbaaGreat.Lexy
/- What is an action alone is one within another, and behind other tokens. Plain lists; no program in sight. -/
namespace Go.Proofs.YtghebacphjglbaaGreat.Lexy

/-- where the automaton stands behind some bytes, a brace being open all the while -/
def runA : List UInt8 → Nat → Nat → Option (Nat × Nat)
  | [], o, m => some (o, m)
  | c :: r, o, m =>
    match stepA o m c.toNat with
    | none => none
    | some p => if p.1 = 0 then none else runA r p.1 p.2

/-- no string, no comment -/
def plainM (m : Nat) : Prop := m ≠ 1 ∧ m ≠ 2 ∧ m ≠ 4
/-- an action's text: it leaves one brace open, and no string, no comment -/
def Inner (s : List UInt8) : Prop := ∃ m, plainM m ∧ runA s 1 0 = some (1, m)

/-- what 'one' asks -/
def oneL (s : List UInt8) : Prop := toks (123 :: (s ++ [125])) = .good [⟨9, s, 0⟩, ⟨7, [], s.length + 2⟩]

end Go.Proofs.YtghebacphjglbaaGreat.Lexy
/- The lexer's words and signs, as the library's search finds them. No program in sight. -/
namespace Go.Proofs.YtghebacphjglbaaGreat.Lexy
open Go.Lib

theorem index_nonneg (b : UInt8) (l sub : List UInt8) : 0 ≤ index (b :: l) sub ↔ (sub.isPrefixOf (b :: l) = true ∨ 0 ≤ index l sub) := by
  have hg := index_ge l sub
  rw [index]
  by_cases h : sub.isPrefixOf (b :: l) = true
  · simp [h]
  · by_cases h2 : index l sub = -1
    · simp [h, h2]
    · have : (index l sub == -1) = false := beq_eq_false_iff_ne.2 h2
      simp [h, this]; omega
theorem pfx (t : List UInt8) : ∀ u v : List UInt8, (∀ c ∈ t, c ≠ 32) → (∀ c ∈ u, c ≠ 32) → ((t ++ [32]).isPrefixOf (u ++ 32 :: v) = true ↔ t = u) := by
  induction t with
  | nil =>
    intro u v _ hu
    cases u with
    | nil => simp [List.isPrefixOf]
    | cons d u =>
      have := hu d (by simp)
      simp [List.isPrefixOf]; exact fun h => this h.symm
  | cons c t ih =>
    intro u v ht hu
    cases u with
    | nil =>
      have := ht c (by simp)
      simp [List.isPrefixOf]; intro h; exact absurd h this
    | cons d u =>
      simp only [List.cons_append, List.isPrefixOf, Bool.and_eq_true, beq_iff_eq, List.cons.injEq]
      rw [ih u v (fun x hx => ht x (by simp [hx])) (fun x hx => hu x (by simp [hx]))]

/-- the text that holds the words -/
def wordsText : List UInt8 := [32, 116, 111, 107, 101, 110, 32, 116, 121, 112, 101, 32, 108, 101, 102, 116, 32, 114, 105, 103, 104, 116, 32, 110, 111, 110, 97, 115, 115, 111, 99, 32, 115, 116, 97, 114, 116, 32, 112, 114, 101, 99, 32]
theorem skip (b : UInt8) (l t : List UInt8) (h : b ≠ 32) : 0 ≤ index (b :: l) (32 :: (t ++ [32])) ↔ 0 ≤ index l (32 :: (t ++ [32])) := by
  rw [index_nonneg]
  have : (32 :: (t ++ [32])).isPrefixOf (b :: l) = false := by simp [List.isPrefixOf]; intro e; exact absurd e.symm h
  rw [this]; simp
theorem hit (l t : List UInt8) : 0 ≤ index (32 :: l) (32 :: (t ++ [32])) ↔ ((t ++ [32]).isPrefixOf l = true ∨ 0 ≤ index l (32 :: (t ++ [32]))) := by
  rw [index_nonneg]; simp [List.isPrefixOf]
theorem skips (t : List UInt8) : ∀ u x : List UInt8, (∀ c ∈ u, c ≠ 32) → (0 ≤ index (u ++ x) (32 :: (t ++ [32])) ↔ 0 ≤ index x (32 :: (t ++ [32]))) := by
  intro u
  induction u with
  | nil => intro x _; simp
  | cons c u ih => intro x h; rw [List.cons_append, skip _ _ _ (h c (by simp)), ih x fun d hd => h d (by simp [hd])]
theorem word1 (t u v : List UInt8) (ht : ∀ c ∈ t, c ≠ 32) (hu : ∀ c ∈ u, c ≠ 32) : 0 ≤ index (32 :: (u ++ 32 :: v)) (32 :: (t ++ [32])) ↔ (t = u ∨ 0 ≤ index (32 :: v) (32 :: (t ++ [32]))) := by
  rw [hit, pfx t u v ht hu, skips t u _ hu]
theorem wordsText_eq : wordsText = 32 :: ([116, 111, 107, 101, 110] ++ 32 :: ([116, 121, 112, 101] ++ 32 :: ([108, 101, 102, 116] ++ 32 :: ([114, 105, 103, 104, 116] ++ 32 :: ([110, 111, 110, 97, 115, 115, 111, 99] ++ 32 :: ([115, 116, 97, 114, 116] ++ 32 :: ([112, 114, 101, 99] ++ 32 :: []))))))) := rfl
theorem contains_words (t : List UInt8) (ht : ∀ c ∈ t, c ≠ 32) : contains wordsText (32 :: (t ++ [32])) = decide (t ∈ wordsL) := by
  unfold contains
  congr 1
  apply propext
  rw [wordsText_eq, word1 t _ _ ht (by decide), word1 t _ _ ht (by decide), word1 t _ _ ht (by decide), word1 t _ _ ht (by decide), word1 t _ _ ht (by decide), word1 t _ _ ht (by decide), word1 t _ _ ht (by decide)]
  have e2 : ¬ (0 : Int) ≤ index [32] (32 :: (t ++ [32])) := by
    rw [hit]
    have e1 : (t ++ [32]).isPrefixOf ([] : List UInt8) = false := by cases t <;> rfl
    simp [e1, index]
  simp only [wordsL, List.mem_cons, List.not_mem_nil, or_false, e2]

theorem sign_index (n : Nat) (h : n < 256) : (0 ≤ indexByte [58, 59, 124, 40, 41, 44, 60, 62] n.toUInt8) ↔ signN n = true := by
  have key : ∀ n : Fin 256, decide (0 ≤ indexByte [58, 59, 124, 40, 41, 44, 60, 62] n.val.toUInt8) = signN n.val := by decide +kernel
  have := key ⟨n, h⟩
  simp only at this
  rw [← this]; simp
end Go.Proofs.YtghebacphjglbaaGreat.Lexy
/- What stands behind a source's text makes no difference to its tokens; what is ahead turns their places. No program in sight. -/
namespace Go.Proofs.YtghebacphjglbaaGreat.Lexy

theorem ws_ld {c : UInt8} (h : wsN c.toNat = true) : ldN c.toNat = false ∧ c.toNat ≠ 37 ∧ c.toNat ≠ 47 := by
  simp only [wsN, Bool.or_eq_true, decide_eq_true_eq] at h
  refine ⟨?_, by omega, by omega⟩
  simp only [ldN, letN, digN, Bool.or_eq_false_iff, Bool.and_eq_false_iff, decide_eq_false_iff_not]
  omega
/-- tokens so far on -/
def sh (d : Nat) (t : Tok) : Tok := { t with at_ := t.at_ + d }
/-- tokens ahead of a result -/
def ahead (ts : List Tok) (r : Res) : Res := ts.foldr Res.cons r
theorem ahead_good (ts l : List Tok) : ahead ts (.good l) = .good (ts ++ l) := by
  induction ts with
  | nil => rfl
  | cons t ts ih => show Res.cons t (ahead ts (.good l)) = _; rw [ih]; rfl
end Go.Proofs.YtghebacphjglbaaGreat.Lexy
