/- Of texts quoted: what the scanner answers. -/
import Derived.Test.YtopbhopblpfjpaaGreatDoorScanPlain1
namespace Go.Proofs.YtopbhopblpfjpaaGreatDoor.Scany
open Go.Proofs.YtopbhopblpfjpaaGreatDoor.Lexy

/-- the letter of what a pair says -/
def sayN (c : Nat) : Option Nat := if c = 10 then some 110 else if c = 9 then some 116 else if c = 13 then some 114 else if c = 92 then some 92 else if c = 34 then some 34 else none
/-- a digit in base 16 -/
def digH (n : Nat) : UInt8 := ([48, 49, 50, 51, 52, 53, 54, 55, 56, 57, 97, 98, 99, 100, 101, 102] : List UInt8).getD n 0
/-- a byte, quoted -/
def quoB (c : UInt8) : List UInt8 :=
  match sayN c.toNat with
  | some x => [92, UInt8.ofNat x]
  | none => if c.toNat < 32 ∨ 126 < c.toNat then [92, 120, digH (c.toNat / 16), digH (c.toNat % 16)] else [c]
/-- a text, quoted -/
def quoS (l : List UInt8) : List UInt8 := 34 :: (l.flatMap quoB ++ [34])
theorem quoB_le (c : UInt8) : (quoB c).length ≤ 4 := by
  unfold quoB
  split
  · simp
  · split <;> simp
theorem quoS_le (l : List UInt8) : (quoS l).length ≤ 4 * l.length + 2 := by
  have : ∀ l : List UInt8, (l.flatMap quoB).length ≤ 4 * l.length := by
    intro l
    induction l with
    | nil => simp
    | cons c r ih =>
      simp only [List.flatMap_cons, List.length_append, List.length_cons]
      have := quoB_le c
      omega
  have := this l
  simp only [quoS, List.length_cons, List.length_append, List.length_nil]; omega

theorem digH_hex : ∀ i : Fin 16, hexN (digH i.val).toNat = i.val := by decide
theorem u8_eq {c : UInt8} {n : Nat} (h : c.toNat = n) : c = UInt8.ofNat n := by rw [← h]; simp
theorem quo_cases (c : UInt8) : (∃ q, quoB c = 92 :: q ∧ ∀ r, pairL (q ++ r) = some (c, q.length)) ∨ (quoB c = [c] ∧ 32 ≤ c.toNat ∧ c.toNat ≤ 126 ∧ c.toNat ≠ 34 ∧ c.toNat ≠ 92) := by
  by_cases h10 : c.toNat = 10
  · have := u8_eq h10; subst this
    exact .inl ⟨[110], by decide, fun r => by simp [pairL]⟩
  by_cases h9 : c.toNat = 9
  · have := u8_eq h9; subst this
    exact .inl ⟨[116], by decide, fun r => by simp [pairL]⟩
  by_cases h13 : c.toNat = 13
  · have := u8_eq h13; subst this
    exact .inl ⟨[114], by decide, fun r => by simp [pairL]⟩
  by_cases h92 : c.toNat = 92
  · have := u8_eq h92; subst this
    exact .inl ⟨[92], by decide, fun r => by simp [pairL]⟩
  by_cases h34 : c.toNat = 34
  · have := u8_eq h34; subst this
    exact .inl ⟨[34], by decide, fun r => by simp [pairL]⟩
  have hn : sayN c.toNat = none := by simp [sayN, h10, h9, h13, h92, h34]
  by_cases ho : c.toNat < 32 ∨ 126 < c.toNat
  · refine .inl ⟨[120, digH (c.toNat / 16), digH (c.toNat % 16)], by simp [quoB, hn, ho], fun r => ?_⟩
    have hl := UInt8.toNat_lt c
    have e1 := digH_hex ⟨c.toNat / 16, by omega⟩
    have e2 := digH_hex ⟨c.toNat % 16, by omega⟩
    simp only at e1 e2
    have e3 : UInt8.ofNat (16 * (c.toNat / 16) + c.toNat % 16) = c := by rw [Nat.div_add_mod]; simp
    have l1 : c.toNat / 16 < 16 := by omega
    have l2 : c.toNat % 16 < 16 := by omega
    simp [pairL, e1, e2, l1, l2, e3]
  · exact .inr ⟨by simp [quoB, hn, ho], by omega, by omega, h34, h92⟩
theorem strL_quo (a r : List UInt8) : strL (a.flatMap quoB ++ 34 :: r) 0 = some (a, (a.flatMap quoB).length + 1) := by
  induction a with
  | nil => simp [strL]
  | cons c a ih =>
    simp only [List.flatMap_cons, List.append_assoc]
    rcases quo_cases c with ⟨q, hq, hp⟩ | ⟨hq, h1, h2, h3, h4⟩
    · rw [hq]
      simp only [List.cons_append]
      rw [strL, if_neg (by decide), if_neg (by decide), if_pos (by decide), hp]
      simp only
      rw [strL_skip _ _ (by simp), List.drop_left, ih]
      simp; omega
    · rw [hq]
      simp only [List.cons_append, List.nil_append]
      rw [strL, if_neg h3, if_neg (by omega), if_neg h4, ih]
      simp
theorem tokS_quo (a r : List UInt8) : tokS (quoS a ++ r) = .good 5 a (quoS a).length := by
  have e : quoS a ++ r = 34 :: (a.flatMap quoB ++ 34 :: r) := by simp [quoS]
  rw [e, tokS]
  have h1 : letN (34 : UInt8).toNat = false := by decide
  have h2 : digN (34 : UInt8).toNat = false := by decide
  simp only [h1, h2]
  rw [strL_quo]
  simp [quoS]
theorem scanA_quo (a r : List UInt8) (p : Nat) (last : Option Tok) : scanA (quoS a ++ r) 0 p last = (scanA r 0 (p + (quoS a).length) (some ⟨5, a, p⟩)).cons ⟨5, a, p⟩ := by
  have e : quoS a ++ r = 34 :: (a.flatMap quoB ++ 34 :: r) := by simp [quoS]
  have h := scanA_tok 34 (a.flatMap quoB ++ 34 :: r) p last (by decide) (by decide) (by
    cases hx : a.flatMap quoB ++ 34 :: r with
    | nil => rfl
    | cons x y => simp [comL])
  rw [← e, tokS_quo] at h
  rw [h]
  simp only
  rw [List.drop_left]
theorem toks_says (a b : List UInt8) (ha : a.length ≤ 7500) (hb : b.length ≤ 7500) : ∃ p q, toksS (quoS a ++ [32] ++ quoS b) = .good [⟨5, a, 0⟩, ⟨5, b, p⟩, ⟨6, [59], q⟩, ⟨7, [], q⟩] := by
  have l1 := quoS_le a
  have l2 := quoS_le b
  refine ⟨0 + (quoS a).length + 1, 0 + (quoS a).length + 1 + (quoS b).length, ?_⟩
  unfold toksS
  rw [if_neg (by simp; omega), List.append_assoc, scanA_quo]
  simp only [List.cons_append, List.nil_append]
  rw [scanA_ws _ _ _ _ (.inl (by decide))]
  have := scanA_quo b [] (0 + (quoS a).length + 1) (some ⟨5, a, 0⟩)
  rw [List.append_nil] at this
  rw [this]
  simp [scanA, endsS, Res.cons]
end Go.Proofs.YtopbhopblpfjpaaGreatDoor.Scany
