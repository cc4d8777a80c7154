/- What the grammar's lexer answers, in plain words: lists of bytes, no program in sight. -/
namespace Go.Proofs.Ytelpkldlkpoioaa.Lexy

/-- a letter -/
def letN (n : Nat) : Bool := (decide (97 ≤ n) && decide (n ≤ 122)) || (decide (65 ≤ n) && decide (n ≤ 90)) || decide (n = 95)
/-- a digit -/
def digN (n : Nat) : Bool := decide (48 ≤ n) && decide (n ≤ 57)
/-- a letter or a digit -/
def ldN (n : Nat) : Bool := letN n || digN n
/-- a blank -/
def wsN (n : Nat) : Bool := decide (n = 32) || decide (n = 9) || decide (n = 10) || decide (n = 13)
/-- one of the signs -/
def signN (n : Nat) : Bool := decide (n = 58) || decide (n = 59) || decide (n = 124) || decide (n = 40) || decide (n = 41) || decide (n = 44) || decide (n = 60) || decide (n = 62)

/-- how many letters and digits stand ahead -/
def runL : List UInt8 → Nat
  | [] => 0
  | c :: r => if ldN c.toNat then runL r + 1 else 0
/-- how many bytes stand ahead of the line's end -/
def overL : List UInt8 → Nat
  | [] => 0
  | c :: r => if c.toNat = 10 then 0 else overL r + 1
/-- does a comment begin? -/
def comL : List UInt8 → Bool
  | c :: d :: _ => decide (c.toNat = 47) && decide (d.toNat = 47)
  | _ => false
/-- behind an opening quote: how many bytes up to and with the closing one -/
def quoL : List UInt8 → Option Nat
  | [] => none
  | [c] => if c.toNat = 34 then some 1 else none
  | c :: d :: r =>
    if c.toNat = 34 then some 1
    else if c.toNat = 92 then (quoL r).map (· + 2)
    else if c.toNat = 10 then none
    else (quoL (d :: r)).map (· + 1)
/-- one byte of an action: how many braces are open, and the mode (0: plain, 1: in a string, 2: behind its backslash, 3: behind a slash, 4: in a comment) -/
def stepA (o m c : Nat) : Option (Nat × Nat) :=
  if m = 1 then (if c = 34 then some (o, 0) else if c = 92 then some (o, 2) else if c = 10 then none else some (o, 1))
  else if m = 2 then some (o, 1)
  else if m = 4 then (if c = 10 then some (o, 0) else some (o, 4))
  else if c = 123 then some (o + 1, 0)
  else if c = 125 then some (o - 1, 0)
  else if c = 34 then some (o, 1)
  else if c = 47 then (if m = 3 then some (o, 4) else some (o, 3))
  else some (o, 0)
/-- how many bytes up to where no brace is open -/
def autoL : List UInt8 → Nat → Nat → Option Nat
  | _, 0, _ => some 0
  | [], _ + 1, _ => none
  | c :: r, o + 1, m =>
    match stepA (o + 1) m c.toNat with
    | none => none
    | some (o', m') => (autoL r o' m').map (· + 1)

/-- the words -/
def wordsL : List (List UInt8) :=
  [[116, 111, 107, 101, 110], [116, 121, 112, 101], [108, 101, 102, 116], [114, 105, 103, 104, 116], [110, 111, 110, 97, 115, 115, 111, 99], [115, 116, 97, 114, 116], [112, 114, 101, 99]]

/-- a token: its kind, its text, its place -/
structure Tok where
  kind : Nat
  text : List UInt8
  at_ : Nat
  deriving DecidableEq, Repr

/-- what a token's beginning leads to: an error, or its kind, its text, and how many bytes it takes -/
inductive One where
  | bad (e : Nat)
  | good (kind : Nat) (text : List UInt8) (n : Nat)
  deriving DecidableEq, Repr

/-- the token that begins here -/
def tokL : List UInt8 → One
  | [] => .bad 100
  | c :: r =>
    if letN c.toNat then (if 40 < runL (c :: r) then .bad 101 else .good 2 ((c :: r).take (runL (c :: r))) (runL (c :: r)))
    else if c.toNat = 37 then
      (if (r.head?.map (·.toNat)) = some 37 then .good 6 [37, 37] 2
       else if r.take (runL r) ∈ wordsL then .good 1 (r.take (runL r)) (runL r + 1) else .bad 101)
    else if c.toNat = 123 then
      match autoL r 1 0 with
      | none => .bad 101
      | some n => .good 9 (r.take (n - 1)) (n + 1)
    else if signN c.toNat then .good 6 [c] 1
    else .bad 100

/-- what a source leads to: a fault and its place, or tokens -/
inductive Res where
  | bad (e at_ : Nat)
  | good (l : List Tok)
  deriving DecidableEq, Repr

def Res.cons (t : Tok) : Res → Res
  | .bad e a => .bad e a
  | .good l => .good (t :: l)

/-- the tokens of what is left, so many bytes of it gone over already, from a place on -/
def lexA : List UInt8 → Nat → Nat → Res
  | [], _, a => .good [⟨7, [], a⟩]
  | _ :: r, k + 1, a => lexA r k (a + 1)
  | c :: r, 0, a =>
    if wsN c.toNat then lexA r 0 (a + 1)
    else if comL (c :: r) then lexA r (overL (c :: r) - 1) (a + 1)
    else match tokL (c :: r) with
      | .bad e => .bad e a
      | .good k t n => (lexA r (n - 1) (a + 1)).cons ⟨k, t, a⟩

/-- the tokens of a source -/
def toks (s : List UInt8) : Res := if 65536 < s.length then .bad 3 0 else lexA s 0 0

theorem runL_le (l : List UInt8) : runL l ≤ l.length := by
  induction l with
  | nil => simp [runL]
  | cons c r ih => simp only [runL]; split <;> simp <;> omega
theorem overL_le (l : List UInt8) : overL l ≤ l.length := by
  induction l with
  | nil => simp [overL]
  | cons c r ih => simp only [overL]; split <;> simp <;> omega
theorem quoL_le (l : List UInt8) : ∀ n, quoL l = some n → 1 ≤ n ∧ n ≤ l.length := by
  fun_induction quoL l with
  | case1 => simp
  | case2 c => simp_all
  | case3 c h => simp_all
  | case4 c d r h => intro n hn; simp at hn; subst hn; simp
  | case5 c d r h1 h2 ih =>
    intro n hn
    cases hq : quoL r with
    | none => simp [hq] at hn
    | some m => simp [hq] at hn; subst hn; have := ih m hq; simp; omega
  | case6 c d r h1 h2 h3 => simp
  | case7 c d r h1 h2 h3 ih =>
    intro n hn
    cases hq : quoL (d :: r) with
    | none => simp [hq] at hn
    | some m => simp [hq] at hn; subst hn; have := ih m hq; simp at this ⊢; omega
theorem autoL_le (l : List UInt8) : ∀ o m n, autoL l o m = some n → n ≤ l.length ∧ (0 < o → 0 < n) := by
  induction l with
  | nil =>
    intro o m n h
    cases o with
    | zero => simp [autoL] at h; subst h; simp
    | succ o => simp [autoL] at h
  | cons c r ih =>
    intro o m n h
    cases o with
    | zero => simp [autoL] at h; subst h; simp
    | succ o =>
      simp only [autoL] at h
      cases hs : stepA (o + 1) m c.toNat with
      | none => simp [hs] at h
      | some p =>
        obtain ⟨o', m'⟩ := p
        simp only [hs] at h
        cases ha : autoL r o' m' with
        | none => simp [ha] at h
        | some k => simp [ha] at h; subst h; have := (ih o' m' k ha).1; simp; omega
theorem tokL_le (l : List UInt8) : ∀ k t n, tokL l = .good k t n → 1 ≤ n ∧ n ≤ l.length := by
  intro k t n h
  cases l with
  | nil => simp [tokL] at h
  | cons c r =>
    simp only [tokL] at h
    have hr := runL_le (c :: r)
    have hr' := runL_le r
    split at h
    · rename_i hl
      split at h
      · cases h
      · cases h
        simp [runL, ldN, hl] at hr ⊢; omega
    · split at h
      · split at h
        · rename_i hh
          cases h
          cases r with
          | nil => simp at hh
          | cons d r => simp
        · split at h
          · cases h; simp; omega
          · cases h
      · split at h
        · split at h
          · cases h
          · rename_i n' ha
            cases h
            have := (autoL_le r 1 0 n' ha).1
            simp; omega
        · split at h
          · cases h; simp
          · cases h

theorem lexA_skip (l : List UInt8) : ∀ k a, k ≤ l.length → lexA l k a = lexA (l.drop k) 0 (a + k) := by
  induction l with
  | nil => intro k a h; simp at h; subst h; simp
  | cons c r ih =>
    intro k a h
    cases k with
    | zero => simp
    | succ k =>
      simp only [List.length_cons] at h
      simp only [lexA, List.drop_succ_cons]
      rw [ih k (a + 1) (by omega)]
      congr 1; omega

/-- one step of the tokens: a token -/
theorem lexA_tok (l : List UInt8) (a : Nat) (hne : l ≠ []) (h1 : wsN (l.headD 0).toNat = false) (h2 : comL l = false) :
    lexA l 0 a = match tokL l with
      | .bad e => .bad e a
      | .good k t n => (lexA (l.drop n) 0 (a + n)).cons ⟨k, t, a⟩ := by
  cases l with
  | nil => exact absurd rfl hne
  | cons c r =>
    simp only [List.headD_cons] at h1
    simp only [lexA, h1, h2, Bool.false_eq_true, if_false]
    cases ht : tokL (c :: r) with
    | bad e => rfl
    | good k t n =>
      have hn := tokL_le _ _ _ _ ht
      simp only
      rw [lexA_skip r (n - 1) (a + 1) (by simp at hn; omega)]
      obtain ⟨m, rfl⟩ : ∃ m, n = m + 1 := ⟨n - 1, by omega⟩
      simp only [List.drop_succ_cons, Nat.add_sub_cancel]
      congr 2; omega
theorem lexA_ws (l : List UInt8) (a : Nat) (hne : l ≠ []) (h1 : wsN (l.headD 0).toNat = true) : lexA l 0 a = lexA (l.drop 1) 0 (a + 1) := by
  cases l with
  | nil => exact absurd rfl hne
  | cons c r => simp only [List.headD_cons] at h1; simp [lexA, h1]
theorem overL_pos (l : List UInt8) (h : comL l = true) : 1 ≤ overL l := by
  match l, h with
  | c :: d :: r, h =>
    simp only [comL, Bool.and_eq_true, decide_eq_true_eq] at h
    have : c.toNat ≠ 10 := by omega
    simp [overL, this]
theorem lexA_com (l : List UInt8) (a : Nat) (h1 : wsN (l.headD 0).toNat = false) (h2 : comL l = true) : lexA l 0 a = lexA (l.drop (overL l)) 0 (a + overL l) := by
  cases l with
  | nil => simp [comL] at h2
  | cons c r =>
    have hp := overL_pos _ h2
    have hl := overL_le (c :: r)
    simp only [List.headD_cons] at h1
    simp only [lexA, h1, h2, Bool.false_eq_true, if_false, if_true]
    rw [lexA_skip r _ _ (by simp at hl; omega)]
    obtain ⟨m, hm⟩ : ∃ m, overL (c :: r) = m + 1 := ⟨overL (c :: r) - 1, by omega⟩
    rw [hm]
    simp only [List.drop_succ_cons, Nat.add_sub_cancel]
    congr 1; omega

theorem autoL_cons (c : UInt8) (r : List UInt8) (o m : Nat) : autoL (c :: r) (o + 1) m = match stepA (o + 1) m c.toNat with | none => none | some p => (autoL r p.1 p.2).map (· + 1) := by
  simp only [autoL]; cases stepA (o + 1) m c.toNat <;> rfl
/-- in a string the automaton goes where 'quoL' says -/
theorem autoL_quo (l : List UInt8) : ∀ o, 0 < o → autoL l o 1 = match quoL l with | none => none | some n => (autoL (l.drop n) o 0).map (· + n) := by
  fun_induction quoL l with
  | case1 => intro o ho; obtain ⟨o, rfl⟩ : ∃ k, o = k + 1 := ⟨o - 1, by omega⟩; simp [autoL]
  | case2 c h => intro o ho; obtain ⟨o, rfl⟩ : ∃ k, o = k + 1 := ⟨o - 1, by omega⟩; simp [autoL, stepA, h]
  | case3 c h =>
    intro o ho; obtain ⟨o, rfl⟩ : ∃ k, o = k + 1 := ⟨o - 1, by omega⟩
    simp only [autoL, stepA, h, if_true, if_false]
    by_cases h1 : c.toNat = 92
    · simp [h1, autoL]
    · by_cases h2 : c.toNat = 10
      · simp [h2]
      · simp [h1, h2, autoL]
  | case4 c d r h => intro o ho; obtain ⟨o, rfl⟩ : ∃ k, o = k + 1 := ⟨o - 1, by omega⟩; simp [autoL, stepA, h]
  | case5 c d r h1 h2 ih =>
    intro o ho; obtain ⟨o, rfl⟩ : ∃ k, o = k + 1 := ⟨o - 1, by omega⟩
    have hi := ih (o + 1) (by omega)
    have e1 : stepA (o + 1) 1 c.toNat = some (o + 1, 2) := by simp [stepA, h2]
    have e2 : stepA (o + 1) 2 d.toNat = some (o + 1, 1) := by simp [stepA]
    rw [autoL_cons, e1]; simp only; rw [autoL_cons, e2]; simp only
    rw [hi]
    cases quoL r with
    | none => simp
    | some n =>
      simp only [Option.map_some, List.drop_succ_cons]
      cases autoL (List.drop n r) (o + 1) 0 <;> simp <;> omega
  | case6 c d r h1 h2 h3 => intro o ho; obtain ⟨o, rfl⟩ : ∃ k, o = k + 1 := ⟨o - 1, by omega⟩; simp [autoL, stepA, h3]
  | case7 c d r h1 h2 h3 ih =>
    intro o ho; obtain ⟨o, rfl⟩ : ∃ k, o = k + 1 := ⟨o - 1, by omega⟩
    have hi := ih (o + 1) (by omega)
    rw [autoL]
    simp only [stepA, h1, h2, h3, if_true, if_false]
    rw [hi]
    cases quoL (d :: r) with
    | none => simp
    | some n =>
      simp only [Option.map_some, List.drop_succ_cons]
      cases autoL (List.drop n (d :: r)) (o + 1) 0 <;> simp <;> omega
/-- in a comment the automaton goes to the line's end -/
theorem autoL_over (l : List UInt8) : ∀ o, 0 < o → autoL l o 4 = (autoL (l.drop (overL l)) o 0).map (· + overL l) := by
  induction l with
  | nil => intro o ho; obtain ⟨o, rfl⟩ : ∃ k, o = k + 1 := ⟨o - 1, by omega⟩; simp [autoL, overL]
  | cons c r ih =>
    intro o ho; obtain ⟨o, rfl⟩ : ∃ k, o = k + 1 := ⟨o - 1, by omega⟩
    by_cases h : c.toNat = 10
    · have e0 : stepA (o + 1) 4 c.toNat = some (o + 1, 0) := by simp [stepA, h]
      have e1 : stepA (o + 1) 0 c.toNat = some (o + 1, 0) := by simp [stepA, h]
      have e2 : overL (c :: r) = 0 := by simp [overL, h]
      rw [e2, autoL_cons, e0, List.drop_zero, autoL_cons, e1]; simp only; cases autoL r (o + 1) 0 <;> simp
    · simp only [autoL, stepA, h, overL, if_false, List.drop_succ_cons]
      simp only [reduceIte, Nat.reduceEqDiff]
      rw [ih (o + 1) (by omega)]
      cases autoL (List.drop (overL r) r) (o + 1) 0 <;> simp <;> omega
/-- behind a lone slash the automaton is as ahead of it -/
theorem autoL_three (l : List UInt8) (o : Nat) (h : (l.head?.map (·.toNat)) ≠ some 47) : autoL l o 3 = autoL l o 0 := by
  cases l with
  | nil => cases o <;> simp [autoL]
  | cons c r =>
    cases o with
    | zero => simp [autoL]
    | succ o => simp at h; simp [autoL, stepA, h]

/-- one step of an action: a plain byte -/
theorem autoL_plain (c : UInt8) (r : List UInt8) (o : Nat) (h1 : c.toNat ≠ 123) (h2 : c.toNat ≠ 125) (h3 : c.toNat ≠ 34) (h4 : c.toNat ≠ 47) :
    autoL (c :: r) (o + 1) 0 = (autoL r (o + 1) 0).map (· + 1) := by simp [autoL, stepA, h1, h2, h3, h4]
theorem autoL_open (c : UInt8) (r : List UInt8) (o : Nat) (h1 : c.toNat = 123) : autoL (c :: r) (o + 1) 0 = (autoL r (o + 2) 0).map (· + 1) := by simp [autoL, stepA, h1]
theorem autoL_close (c : UInt8) (r : List UInt8) (o : Nat) (h1 : c.toNat = 125) : autoL (c :: r) (o + 1) 0 = (autoL r o 0).map (· + 1) := by simp [autoL, stepA, h1]
theorem autoL_str (c : UInt8) (r : List UInt8) (o : Nat) (h1 : c.toNat = 34) :
    autoL (c :: r) (o + 1) 0 = match quoL r with | none => none | some n => (autoL (r.drop n) (o + 1) 0).map (· + (n + 1)) := by
  have := autoL_quo r (o + 1) (by omega)
  have e1 : stepA (o + 1) 0 c.toNat = some (o + 1, 1) := by simp [stepA, h1]
  rw [autoL_cons, e1]; simp only
  rw [this]
  cases quoL r with
  | none => simp
  | some n =>
    simp only
    cases autoL (List.drop n r) (o + 1) 0 <;> simp <;> omega
theorem autoL_slash (c : UInt8) (r : List UInt8) (o : Nat) (h1 : c.toNat = 47) (h2 : comL (c :: r) = false) : autoL (c :: r) (o + 1) 0 = (autoL r (o + 1) 0).map (· + 1) := by
  have : (r.head?.map (·.toNat)) ≠ some 47 := by
    cases r with
    | nil => simp
    | cons d r => simp [comL, h1] at h2; simpa using h2
  rw [← autoL_three r (o + 1) this]
  simp [autoL, stepA, h1]
theorem autoL_com (c : UInt8) (r : List UInt8) (o : Nat) (h2 : comL (c :: r) = true) :
    autoL (c :: r) (o + 1) 0 = (autoL ((c :: r).drop (overL (c :: r))) (o + 1) 0).map (· + overL (c :: r)) := by
  cases r with
  | nil => simp [comL] at h2
  | cons d r =>
    simp only [comL, Bool.and_eq_true, decide_eq_true_eq] at h2
    have e1 : overL (c :: d :: r) = overL r + 2 := by simp [overL, h2.1, h2.2]
    rw [e1]
    simp only [List.drop_succ_cons]
    have e2 : stepA (o + 1) 0 c.toNat = some (o + 1, 3) := by simp [stepA, h2.1]
    have e3 : stepA (o + 1) 3 d.toNat = some (o + 1, 4) := by simp [stepA, h2.2]
    rw [autoL_cons, e2]; simp only; rw [autoL_cons, e3]; simp only
    rw [autoL_over r (o + 1) (by omega)]
    cases autoL (List.drop (overL r) r) (o + 1) 0 <;> simp <;> omega
end Go.Proofs.Ytelpkldlkpoioaa.Lexy
