/- Floats' bits: which are NaNs, which order they have, sums and products either way. No program in sight. -/
import GoSem.Core.Float
namespace Go.Proofs.YtkgginkdhggpgaaGreatDoor.Flo
open Ieee

abbrev D : Format := Ieee.double
theorem binade_eq : D.binade = 4503599627370496 := by decide
theorem inf_eq : D.infRung = 9218868437227405312 := by decide
theorem sign_eq : D.signWeight = 9223372036854775808 := by decide
/-- the rung, the sign -/
def rg (x : Nat) : Nat := x % 9223372036854775808
def sg (x : Nat) : Bool := x / 9223372036854775808 % 2 == 1
def isN (x : Nat) : Bool := decide (9218868437227405312 < rg x)
theorem read_eq (x : Nat) : D.read x = if rg x < 4503599627370496 then .number (sg x) (rg x) D.leastPlace else if rg x < 9218868437227405312 then .number (sg x) (4503599627370496 + rg x % 4503599627370496) (D.leastPlace + (rg x / 4503599627370496 - 1 : Nat)) else if rg x = 9218868437227405312 then .infinity (sg x) else .nan (sg x) (rg x - 9218868437227405312) := by
  unfold Format.read rg sg
  rw [binade_eq, inf_eq, sign_eq]
theorem isN_read (x : Nat) : (D.read x).isNaN = isN x := by
  rw [read_eq]; unfold isN
  split
  · simp [Datum.isNaN]; omega
  · split
    · simp [Datum.isNaN]; omega
    · split
      · simp [Datum.isNaN]; omega
      · simp [Datum.isNaN]; omega
/-- a magnitude in units of the least place -/
def val (r : Nat) : Nat := if r < 4503599627370496 then r else (4503599627370496 + r % 4503599627370496) * 2 ^ (r / 4503599627370496 - 1)
theorem val_lt {r s : Nat} (h : r < s) : val r < val s := by
  unfold val
  by_cases h1 : r < 4503599627370496
  · rw [if_pos h1]
    by_cases h2 : s < 4503599627370496
    · rw [if_pos h2]; exact h
    · rw [if_neg h2]
      have := Nat.one_le_two_pow (n := s / 4503599627370496 - 1)
      have h3 : 4503599627370496 * 1 ≤ (4503599627370496 + s % 4503599627370496) * 2 ^ (s / 4503599627370496 - 1) := Nat.mul_le_mul (by omega) this
      omega
  · rw [if_neg h1, if_neg (by omega)]
    by_cases h2 : r / 4503599627370496 = s / 4503599627370496
    · rw [h2]
      exact Nat.mul_lt_mul_of_pos_right (by omega) (Nat.two_pow_pos _)
    · have h3 : r / 4503599627370496 < s / 4503599627370496 := by omega
      obtain ⟨k, hk⟩ : ∃ k, s / 4503599627370496 - 1 = (r / 4503599627370496 - 1) + 1 + k := ⟨s / 4503599627370496 - 1 - (r / 4503599627370496 - 1) - 1, by omega⟩
      rw [hk, Nat.pow_add, Nat.pow_add]
      have hp := Nat.two_pow_pos (r / 4503599627370496 - 1)
      have hq := Nat.two_pow_pos k
      generalize 2 ^ (r / 4503599627370496 - 1) = p at *
      generalize 2 ^ k = q at *
      have e1 : (4503599627370496 + r % 4503599627370496) * p < 9007199254740992 * p := Nat.mul_lt_mul_of_pos_right (by omega) hp
      have e2 : 9007199254740992 * p ≤ (4503599627370496 + s % 4503599627370496) * (p * 2 ^ 1 * q) := by
        have : 4503599627370496 * (p * 2 ^ 1 * 1) ≤ (4503599627370496 + s % 4503599627370496) * (p * 2 ^ 1 * q) := Nat.mul_le_mul (by omega) (Nat.mul_le_mul_left _ hq)
        omega
      omega
theorem val_le {r s : Nat} : val r ≤ val s ↔ r ≤ s := by
  constructor
  · intro h; rcases Nat.lt_or_ge s r with h1 | h1
    · have := val_lt h1; omega
    · exact h1
  · intro h; rcases Nat.lt_or_eq_of_le h with h1 | h1
    · exact Nat.le_of_lt (val_lt h1)
    · rw [h1]; exact Nat.le_refl _
theorem val_inj {r s : Nat} : val r = val s ↔ r = s := ⟨fun h => Nat.le_antisymm (val_le.1 (by omega)) (val_le.1 (by omega)), fun h => by rw [h]⟩
/-- with a sign -/
def sgn (s : Bool) (n : Nat) : Int := if s then -(n : Int) else (n : Int)
theorem signed_eq (s : Bool) (m u : Nat) : signed s m u = sgn s (m * 2 ^ u) := by
  unfold signed sgn; rw [Nat.shiftLeft_eq]
theorem compare_scale {a b : Int} {k : Int} (hk : 0 < k) : compare (a * k) (b * k) = compare a b := by
  have h1 : a * k < b * k ↔ a < b := ⟨fun h => Int.lt_of_mul_lt_mul_right h (by omega), fun h => Int.mul_lt_mul_of_pos_right h hk⟩
  have h2 : b * k < a * k ↔ b < a := ⟨fun h => Int.lt_of_mul_lt_mul_right h (by omega), fun h => Int.mul_lt_mul_of_pos_right h hk⟩
  have key : ∀ x y : Int, compare x y = if x < y then .lt else if y < x then .gt else .eq := by
    intro x y
    show compareOfLessAndEq x y = _
    unfold compareOfLessAndEq
    by_cases h : x < y
    · rw [if_pos h, if_pos h]
    · rw [if_neg h, if_neg h]
      by_cases h' : x = y
      · rw [if_pos h', if_neg (by omega)]
      · rw [if_neg h', if_pos (by omega)]
  rw [key, key]
  simp only [h1, h2]
theorem sgn_mul (s : Bool) (n k : Nat) : sgn s (n * k) = sgn s n * (k : Int) := by
  unfold sgn; split <;> simp [Int.neg_mul]
/-- two numbers, by their values in one unit -/
theorem order_num (s t : Bool) (m n p q : Nat) (L : Int) : (Datum.number s m (L + p)).order (Datum.number t n (L + q)) = some (compare (sgn s (m * 2 ^ p)) (sgn t (n * 2 ^ q))) := by
  unfold Datum.order
  simp only [signed_eq]
  have e1 : (L + (p : Int) - min (L + p) (L + q)).toNat = p - min p q := by omega
  have e2 : (L + (q : Int) - min (L + p) (L + q)).toNat = q - min p q := by omega
  rw [e1, e2]
  have f1 : 2 ^ p = 2 ^ (p - min p q) * 2 ^ min p q := by rw [← Nat.pow_add]; congr 1; omega
  have f2 : 2 ^ q = 2 ^ (q - min p q) * 2 ^ min p q := by rw [← Nat.pow_add]; congr 1; omega
  rw [f1, f2, ← Nat.mul_assoc, ← Nat.mul_assoc, sgn_mul s (m * 2 ^ (p - min p q)) (2 ^ min p q), sgn_mul t (n * 2 ^ (q - min p q)) (2 ^ min p q), compare_scale]
  exact Int.natCast_pos.2 (Nat.two_pow_pos (min p q))
theorem read_num {x : Nat} (h : rg x < 9218868437227405312) : ∃ m p : Nat, D.read x = .number (sg x) m (D.leastPlace + (p : Int)) ∧ m * 2 ^ p = val (rg x) := by
  rw [read_eq]
  by_cases h1 : rg x < 4503599627370496
  · rw [if_pos h1]
    exact ⟨rg x, 0, by simp, by unfold val; rw [if_pos h1]; simp⟩
  · rw [if_neg h1, if_pos h]
    exact ⟨_, _, rfl, by unfold val; rw [if_neg h1]⟩
theorem read_inf {x : Nat} (h : rg x = 9218868437227405312) : D.read x = .infinity (sg x) := by
  rw [read_eq, if_neg (by omega), if_neg (by omega), if_pos h]
theorem compare_key (x y : Int) : compare x y = if x < y then .lt else if y < x then .gt else .eq := by
  show compareOfLessAndEq x y = _
  unfold compareOfLessAndEq
  by_cases h : x < y
  · rw [if_pos h, if_pos h]
  · rw [if_neg h, if_neg h]
    by_cases h' : x = y
    · rw [if_pos h', if_neg (by omega)]
    · rw [if_neg h', if_pos (by omega)]
theorem compare_mono {s t : Bool} {r q : Nat} : compare (sgn s (val r)) (sgn t (val q)) = compare (sgn s r) (sgn t q) := by
  have a1 := @val_le r q; have a2 := @val_le q r; have a3 := @val_le r 0; have a4 := @val_le q 0
  have v0 : val 0 = 0 := by decide
  rw [v0] at a3 a4
  rw [compare_key, compare_key]
  unfold sgn
  generalize val r = R at *
  generalize val q = Q at *
  cases s <;> cases t <;> simp only [Bool.false_eq_true, if_false, if_true] <;> (repeat' split) <;> first | rfl | omega
/-- the place of a float among all -/
def plc (x : Nat) : Int := sgn (sg x) (rg x)
/-- THE ORDER, by the bits -/
theorem order_eq (x y : Nat) : D.order x y = if isN x || isN y then none else some (compare (plc x) (plc y)) := by
  unfold Format.order
  by_cases hx : isN x = true
  · have := isN_read x
    rw [hx] at this
    rw [hx, Bool.true_or, if_pos rfl]
    cases hr : D.read x <;> rw [hr] at this <;> simp [Datum.isNaN] at this
    unfold Datum.order; rfl
  · have hx' : isN x = false := by simpa using hx
    by_cases hy : isN y = true
    · have := isN_read y
      rw [hy] at this
      rw [hx', hy, Bool.false_or, if_pos rfl]
      cases hr : D.read y <;> rw [hr] at this <;> simp [Datum.isNaN] at this
      cases D.read x <;> (unfold Datum.order; rfl)
    · have hy' : isN y = false := by simpa using hy
      rw [hx', hy', Bool.or_self, if_neg (by simp)]
      have h1 : rg x ≤ 9218868437227405312 := by unfold isN at hx'; simpa using hx'
      have h2 : rg y ≤ 9218868437227405312 := by unfold isN at hy'; simpa using hy'
      unfold plc
      rcases Nat.lt_or_eq_of_le h1 with g1 | g1 <;> rcases Nat.lt_or_eq_of_le h2 with g2 | g2
      · obtain ⟨m, p, e1, e2⟩ := read_num g1
        obtain ⟨n, q, e3, e4⟩ := read_num g2
        rw [e1, e3, order_num, e2, e4, compare_mono]
      · obtain ⟨m, p, e1, e2⟩ := read_num g1
        rw [e1, read_inf g2, compare_key]
        unfold Datum.order sgn
        cases sg x <;> cases sg y <;> simp only [Bool.false_eq_true, if_false, if_true, Option.some.injEq] <;> (repeat' split) <;> first | rfl | omega
      · obtain ⟨n, q, e3, e4⟩ := read_num g2
        rw [e3, read_inf g1, compare_key]
        unfold Datum.order sgn
        cases sg x <;> cases sg y <;> simp only [Bool.false_eq_true, if_false, if_true, Option.some.injEq] <;> (repeat' split) <;> first | rfl | omega
      · rw [read_inf g1, read_inf g2, compare_key, g1, g2]
        unfold Datum.order sgn
        cases sg x <;> cases sg y <;> rfl
theorem sum_comm (a b : Datum) : a.sum b = b.sum a := by
  cases a <;> cases b <;> unfold Datum.sum <;> try rfl
  · rename_i s m i t n j
    simp only [Option.some.injEq]
    rw [Int.min_comm j i, Int.add_comm (signed t n _), Bool.and_comm t s]
  · rename_i s t
    cases s <;> cases t <;> rfl
theorem product_comm (a b : Datum) : a.product b = b.product a := by
  cases a <;> cases b <;> unfold Datum.product <;> try rfl
  all_goals simp only [Bool.xor_comm, Nat.mul_comm, Int.add_comm]
theorem add_comm (x y : Nat) : D.add x y = D.add y x := by unfold Format.add; rw [sum_comm]
theorem mul_comm (x y : Nat) : D.mul x y = D.mul y x := by unfold Format.mul; rw [product_comm]
theorem sum_nan {a b : Datum} (h : a.isNaN = true ∨ b.isNaN = true) : a.sum b = none := by
  cases a <;> cases b <;> simp [Datum.isNaN] at h <;> rfl
theorem product_nan {a b : Datum} (h : a.isNaN = true ∨ b.isNaN = true) : a.product b = none := by
  cases a <;> cases b <;> simp [Datum.isNaN] at h <;> rfl
theorem add_nan {x y : Nat} (h : isN x = true ∨ isN y = true) : D.add x y = none := by
  unfold Format.add; rw [sum_nan (by rw [isN_read, isN_read]; exact h)]; rfl
theorem mul_nan {x y : Nat} (h : isN x = true ∨ isN y = true) : D.mul x y = none := by
  unfold Format.mul; rw [product_nan (by rw [isN_read, isN_read]; exact h)]; rfl
/-- words are small -/
theorem word_lt (n : Bool) {r : Nat} (h : r ≤ 9223372036854775807) : D.word n r < 18446744073709551616 := by
  unfold Format.word
  rw [sign_eq]
  split <;> omega
theorem write_lt (d : Datum) : D.write d < 18446744073709551616 := by
  cases d with
  | number neg mag place =>
    show D.nearest neg mag place < _
    unfold Format.nearest
    split
    · exact word_lt _ (by omega)
    · refine word_lt _ (Nat.le_trans (Nat.min_le_right _ _) ?_)
      rw [inf_eq]; omega
  | infinity neg => exact word_lt _ (by rw [inf_eq]; omega)
  | nan neg t =>
    refine word_lt _ ?_
    rw [inf_eq, binade_eq]
    have := Nat.mod_lt t (show 0 < 4503599627370496 by omega)
    omega
theorem res_lt {o : Option Datum} {r : Nat} (h : o.map D.write = some r) : r < 18446744073709551616 := by
  cases o with
  | none => cases h
  | some d => have : D.write d = r := by simpa using h
              rw [← this]; exact write_lt d
theorem isN_iff (x : Nat) : isN x = (decide (x / 4503599627370496 % 2048 = 2047) && decide (x % 4503599627370496 ≠ 0)) := by
  unfold isN rg
  rw [Bool.eq_iff_iff]
  simp
  omega
theorem plc_eq {x : Nat} (hx : x < 18446744073709551616) : plc x = if x / 9223372036854775808 = 1 then -((x % 9223372036854775808 : Nat) : Int) else ((x % 9223372036854775808 : Nat) : Int) := by
  have h : x / 9223372036854775808 = 0 ∨ x / 9223372036854775808 = 1 := by omega
  unfold plc sgn sg rg
  rcases h with h | h <;> rw [h] <;> rfl
theorem order_self (x : Nat) : (D.order x x != some .eq) = isN x := by
  rw [order_eq]
  cases h : isN x with
  | true => rfl
  | false =>
    rw [if_neg (by simp), compare_key, if_neg (by omega), if_neg (by omega)]
    rfl
end Go.Proofs.YtkgginkdhggpgaaGreatDoor.Flo
