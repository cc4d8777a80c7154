/- The laws NumLaws and NumEdges, walked. -/
import Derived.Test.YtkgginkdhggpgaaGreatDoorNumJ
namespace Go.Proofs.YtkgginkdhggpgaaGreatDoor.NumK
open Go.RowKit Go.Proofs.YtkgginkdhggpgaaGreatDoor.Flo Go.Proofs.YtkgginkdhggpgaaGreatDoor.NumA Go.Proofs.YtkgginkdhggpgaaGreatDoor.NumB Go.Proofs.YtkgginkdhggpgaaGreatDoor.NumC Go.Proofs.YtkgginkdhggpgaaGreatDoor.NumD Go.Proofs.YtkgginkdhggpgaaGreatDoor.NumE Go.Proofs.YtkgginkdhggpgaaGreatDoor.NumF Go.Proofs.YtkgginkdhggpgaaGreatDoor.NumH Go.Proofs.YtkgginkdhggpgaaGreatDoor.NumI Go.Proofs.YtkgginkdhggpgaaGreatDoor.NumJ

theorem wrap_cong {u v : Int} (h : (u - v) % 18446744073709551616 = 0) : wrap64 u = wrap64 v := by
  unfold wrap64; omega
theorem wrap_in {v : Int} (h : -9223372036854775808 ≤ v ∧ v ≤ 9223372036854775807) : wrap64 v = v := by
  unfold wrap64; omega
theorem wrap_mod (v : Int) : (wrap64 v - v) % 18446744073709551616 = 0 := by
  unfold wrap64; omega
/-- a quotient, times its divisor, and what was left -/
theorem whole {m n : Int} (hm : -9223372036854775808 ≤ m ∧ m ≤ 9223372036854775807) : wrap64 (wrap64 (wrap64 (m.tdiv n) * n) + m.tmod n) = m := by
  have h1 : m.tdiv n * n + m.tmod n = m := Int.tdiv_mul_add_tmod m n
  have h2 := wrap_mod (m.tdiv n)
  have h3 := wrap_mod (wrap64 (m.tdiv n) * n)
  have h4 : wrap64 (wrap64 (wrap64 (m.tdiv n) * n) + m.tmod n) = wrap64 m := by
    refine wrap_cong ?_
    generalize m.tdiv n = q at *
    generalize m.tmod n = r at *
    obtain ⟨k, hk⟩ := Int.dvd_of_emod_eq_zero h2
    obtain ⟨j, hj⟩ := Int.dvd_of_emod_eq_zero h3
    have e1 : wrap64 q = q + 18446744073709551616 * k := by omega
    have e2 : wrap64 (wrap64 q * n) = wrap64 q * n + 18446744073709551616 * j := by omega
    have e3 : wrap64 q * n = q * n + 18446744073709551616 * (k * n) := by rw [e1, Int.add_mul, Int.mul_assoc]
    rw [e2, e3]
    omega
  rw [h4, wrap_in hm]
theorem plain_none {x : Nat} (h : isN x = false) : plainR x = x ∧ ((x : Int) == 9221120237041090561) = false := by
  refine ⟨by unfold plainR; rw [h]; rfl, ?_⟩
  cases hb : ((x : Int) == 9221120237041090561) with
  | false => rfl
  | true =>
    have : x = 9221120237041090561 := by simp at hb; omega
    rw [this] at h
    exact absurd h (by decide +kernel)
theorem plain_nan {x : Nat} (h : isN x = true) : plainR x = 9221120237041090561 := by unfold plainR; rw [if_pos h]; rfl
theorem add_res (a b : Nat) : resR (D.add a b) = resR (D.add b a) := by rw [add_comm]
theorem mul_res (a b : Nat) : resR (D.mul a b) = resR (D.mul b a) := by rw [mul_comm]
/-! the walks (printed by num_k.py) -/
theorem list43 : ({ data := #[43] } : ByteArray).toList = [43] := by rw [ByteArray.toList_eq]
theorem list42 : ({ data := #[42] } : ByteArray).toList = [42] := by rw [ByteArray.toList_eq]
theorem list60 : ({ data := #[60] } : ByteArray).toList = [60] := by rw [ByteArray.toList_eq]
theorem list62 : ({ data := #[62] } : ByteArray).toList = [62] := by rw [ByteArray.toList_eq]
theorem list33 : ({ data := #[33, 61] } : ByteArray).toList = [33, 61] := by rw [ByteArray.toList_eq]
/-- what the operators tell of two floats and two whole numbers -/
structure Tells (a b : Nat) (m n : Int) (s p pa pb : Nat) (lt eq gt ne : Bool) (x y z v q : Int) : Prop where
  add : resR (D.add a b) = s
  mul : resR (D.mul a b) = p
  lt : (D.order a b == some .lt) = lt
  eq : (D.order a b == some .eq) = eq
  gt : (D.order a b == some .gt) = gt
  ne : (D.order a b != some .eq) = ne
  pa : plainR a = pa
  pb : plainR b = pb
  quo : intR [47] m n = (x, q)
  rem : intR [37] m n = (y, q)
  tim : wrap64 (x * n) = z
  sum : wrap64 (z + y) = v
set_option maxRecDepth 100000 in
set_option maxHeartbeats 4000000 in
theorem laws_nan_a_z {a b pb : Nat} {m v x y z : Int} {w : World} (hg : Gn w) (ht : Tells a b m 0 9221120237041090561 9221120237041090561 9221120237041090561 pb false false false true x y z v 201)  :
    Calls Tryz.prog 5 #[.int .u64 (a : Int), .int .u64 (b : Int), .int .i64 m, .int .i64 0] w fun e w' => e = .returned (.bool true) ∧ Below w.heap.size w w' := by
  have HW := Lib.hid (awake_any hg)
  have A1 := Lib.hid (fun w => float_at (op := { data := #[43] }) (a := a) (b := b) (x := 9221120237041090561) (y := 0) (by rw [list43, ← ht.add]; rfl) w)
  have A2 := Lib.hid (fun w => float_at (op := { data := #[43] }) (a := b) (b := a) (x := 9221120237041090561) (y := 0) (by rw [list43, ← ht.add, add_res]; rfl) w)
  have A3 := Lib.hid (fun w => float_at (op := { data := #[42] }) (a := a) (b := b) (x := 9221120237041090561) (y := 0) (by rw [list42, ← ht.mul]; rfl) w)
  have A4 := Lib.hid (fun w => float_at (op := { data := #[42] }) (a := b) (b := a) (x := 9221120237041090561) (y := 0) (by rw [list42, ← ht.mul, mul_res]; rfl) w)
  have B1 := Lib.hid (fun w => float_is_at (op := { data := #[60] }) (a := a) (b := b) (x := false) (y := 0) (by rw [list60, ← ht.lt]; rfl) w)
  have B2 := Lib.hid (fun w => float_is_at (op := { data := #[61, 61] }) (a := a) (b := b) (x := false) (y := 0) (by rw [list61, ← ht.eq]; rfl) w)
  have B3 := Lib.hid (fun w => float_is_at (op := { data := #[62] }) (a := a) (b := b) (x := false) (y := 0) (by rw [list62, ← ht.gt]; rfl) w)
  have B4 := Lib.hid (fun w => float_is_at (op := { data := #[33, 61] }) (a := a) (b := b) (x := true) (y := 0) (by rw [list33, ← ht.ne]; rfl) w)
  have C1 := Lib.hid (fun w => plain_any a w); have C2 := Lib.hid (fun w => plain_any b w)
  rw [ht.pa] at C1
  rw [ht.pb] at C2
  have D1 := Lib.hid (fun w => int_at (op := { data := #[47] }) (a := m) (b := 0) (x := x) (y := 201) (by rw [list47]; exact ht.quo) w)
  have D2 := Lib.hid (fun w => int_at (op := { data := #[37] }) (a := m) (b := 0) (x := y) (y := 201) (by rw [list37]; exact ht.rem) w)
  have D3 := Lib.hid (fun w => int_at (op := { data := #[42] }) (a := x) (b := 0) (x := z) (y := 0) (by rw [list42, ← ht.tim]; rfl) w)
  have D4 := Lib.hid (fun w => int_at (op := { data := #[43] }) (a := z) (b := y) (x := v) (y := 0) (by rw [list43, ← ht.sum]; rfl) w)
  clear hg ht
  go_enter Tryz.func5, Tryz.ntmps5
  go_wp2_with (first | (go_at_call 7; refine HW.out.mono ?_; rintro e w1 ⟨rfl, hb⟩) | (go_at_call 8; (first | (with_reducible refine (A1.out _).mono ?_) | (with_reducible refine (A2.out _).mono ?_) | (with_reducible refine (A3.out _).mono ?_) | (with_reducible refine (A4.out _).mono ?_)); rintro e w2 ⟨rfl, hbx⟩; replace hb := hb.trans (hbx.mono hb.size); clear hbx) | (go_at_call 10; (first | (with_reducible refine (B1.out _).mono ?_) | (with_reducible refine (B2.out _).mono ?_) | (with_reducible refine (B3.out _).mono ?_) | (with_reducible refine (B4.out _).mono ?_)); rintro e w3 ⟨rfl, rfl⟩) | (go_at_call 12; (first | (with_reducible refine (C1.out _).mono ?_) | (with_reducible refine (C2.out _).mono ?_)); rintro e w4 ⟨rfl, rfl⟩) | (go_at_call 15; (first | (with_reducible refine (D1.out _).mono ?_) | (with_reducible refine (D2.out _).mono ?_) | (with_reducible refine (D3.out _).mono ?_) | (with_reducible refine (D4.out _).mono ?_)); rintro e w5 ⟨rfl, hbx⟩; replace hb := hb.trans (hbx.mono hb.size); clear hbx))
  go_ret
  exact ⟨rfl, hb⟩
set_option maxRecDepth 100000 in
set_option maxHeartbeats 4000000 in
theorem laws_nan_a_n {a b pb : Nat} {m n x y z : Int} {w : World} (hg : Gn w) (ht : Tells a b m n 9221120237041090561 9221120237041090561 9221120237041090561 pb false false false true x y z m 0) (hn : (n == 0) = false) :
    Calls Tryz.prog 5 #[.int .u64 (a : Int), .int .u64 (b : Int), .int .i64 m, .int .i64 n] w fun e w' => e = .returned (.bool true) ∧ Below w.heap.size w w' := by
  have HW := Lib.hid (awake_any hg)
  have A1 := Lib.hid (fun w => float_at (op := { data := #[43] }) (a := a) (b := b) (x := 9221120237041090561) (y := 0) (by rw [list43, ← ht.add]; rfl) w)
  have A2 := Lib.hid (fun w => float_at (op := { data := #[43] }) (a := b) (b := a) (x := 9221120237041090561) (y := 0) (by rw [list43, ← ht.add, add_res]; rfl) w)
  have A3 := Lib.hid (fun w => float_at (op := { data := #[42] }) (a := a) (b := b) (x := 9221120237041090561) (y := 0) (by rw [list42, ← ht.mul]; rfl) w)
  have A4 := Lib.hid (fun w => float_at (op := { data := #[42] }) (a := b) (b := a) (x := 9221120237041090561) (y := 0) (by rw [list42, ← ht.mul, mul_res]; rfl) w)
  have B1 := Lib.hid (fun w => float_is_at (op := { data := #[60] }) (a := a) (b := b) (x := false) (y := 0) (by rw [list60, ← ht.lt]; rfl) w)
  have B2 := Lib.hid (fun w => float_is_at (op := { data := #[61, 61] }) (a := a) (b := b) (x := false) (y := 0) (by rw [list61, ← ht.eq]; rfl) w)
  have B3 := Lib.hid (fun w => float_is_at (op := { data := #[62] }) (a := a) (b := b) (x := false) (y := 0) (by rw [list62, ← ht.gt]; rfl) w)
  have B4 := Lib.hid (fun w => float_is_at (op := { data := #[33, 61] }) (a := a) (b := b) (x := true) (y := 0) (by rw [list33, ← ht.ne]; rfl) w)
  have C1 := Lib.hid (fun w => plain_any a w); have C2 := Lib.hid (fun w => plain_any b w)
  rw [ht.pa] at C1
  rw [ht.pb] at C2
  have D1 := Lib.hid (fun w => int_at (op := { data := #[47] }) (a := m) (b := n) (x := x) (y := 0) (by rw [list47]; exact ht.quo) w)
  have D2 := Lib.hid (fun w => int_at (op := { data := #[37] }) (a := m) (b := n) (x := y) (y := 0) (by rw [list37]; exact ht.rem) w)
  have D3 := Lib.hid (fun w => int_at (op := { data := #[42] }) (a := x) (b := n) (x := z) (y := 0) (by rw [list42, ← ht.tim]; rfl) w)
  have D4 := Lib.hid (fun w => int_at (op := { data := #[43] }) (a := z) (b := y) (x := m) (y := 0) (by rw [list43, ← ht.sum]; rfl) w)
  clear hg ht
  have hn3 : (n != 0) = true := by simp [bne, hn]
  go_enter Tryz.func5, Tryz.ntmps5
  go_wp2_with (first | (go_at_call 7; refine HW.out.mono ?_; rintro e w1 ⟨rfl, hb⟩) | (go_at_call 8; (first | (with_reducible refine (A1.out _).mono ?_) | (with_reducible refine (A2.out _).mono ?_) | (with_reducible refine (A3.out _).mono ?_) | (with_reducible refine (A4.out _).mono ?_)); rintro e w2 ⟨rfl, hbx⟩; replace hb := hb.trans (hbx.mono hb.size); clear hbx) | (go_at_call 10; (first | (with_reducible refine (B1.out _).mono ?_) | (with_reducible refine (B2.out _).mono ?_) | (with_reducible refine (B3.out _).mono ?_) | (with_reducible refine (B4.out _).mono ?_)); rintro e w3 ⟨rfl, rfl⟩) | (go_at_call 12; (first | (with_reducible refine (C1.out _).mono ?_) | (with_reducible refine (C2.out _).mono ?_)); rintro e w4 ⟨rfl, rfl⟩) | (go_at_call 15; (first | (with_reducible refine (D1.out _).mono ?_) | (with_reducible refine (D2.out _).mono ?_) | (with_reducible refine (D3.out _).mono ?_) | (with_reducible refine (D4.out _).mono ?_)); rintro e w5 ⟨rfl, hbx⟩; replace hb := hb.trans (hbx.mono hb.size); clear hbx))
  go_ret
  exact ⟨rfl, hb⟩
set_option maxRecDepth 100000 in
set_option maxHeartbeats 4000000 in
theorem laws_nan_b_z {a b pa : Nat} {m v x y z : Int} {w : World} (hg : Gn w) (ht : Tells a b m 0 9221120237041090561 9221120237041090561 pa 9221120237041090561 false false false true x y z v 201) (h1 : ((pa : Int) == 9221120237041090561) = false) :
    Calls Tryz.prog 5 #[.int .u64 (a : Int), .int .u64 (b : Int), .int .i64 m, .int .i64 0] w fun e w' => e = .returned (.bool true) ∧ Below w.heap.size w w' := by
  have HW := Lib.hid (awake_any hg)
  have A1 := Lib.hid (fun w => float_at (op := { data := #[43] }) (a := a) (b := b) (x := 9221120237041090561) (y := 0) (by rw [list43, ← ht.add]; rfl) w)
  have A2 := Lib.hid (fun w => float_at (op := { data := #[43] }) (a := b) (b := a) (x := 9221120237041090561) (y := 0) (by rw [list43, ← ht.add, add_res]; rfl) w)
  have A3 := Lib.hid (fun w => float_at (op := { data := #[42] }) (a := a) (b := b) (x := 9221120237041090561) (y := 0) (by rw [list42, ← ht.mul]; rfl) w)
  have A4 := Lib.hid (fun w => float_at (op := { data := #[42] }) (a := b) (b := a) (x := 9221120237041090561) (y := 0) (by rw [list42, ← ht.mul, mul_res]; rfl) w)
  have B1 := Lib.hid (fun w => float_is_at (op := { data := #[60] }) (a := a) (b := b) (x := false) (y := 0) (by rw [list60, ← ht.lt]; rfl) w)
  have B2 := Lib.hid (fun w => float_is_at (op := { data := #[61, 61] }) (a := a) (b := b) (x := false) (y := 0) (by rw [list61, ← ht.eq]; rfl) w)
  have B3 := Lib.hid (fun w => float_is_at (op := { data := #[62] }) (a := a) (b := b) (x := false) (y := 0) (by rw [list62, ← ht.gt]; rfl) w)
  have B4 := Lib.hid (fun w => float_is_at (op := { data := #[33, 61] }) (a := a) (b := b) (x := true) (y := 0) (by rw [list33, ← ht.ne]; rfl) w)
  have C1 := Lib.hid (fun w => plain_any a w); have C2 := Lib.hid (fun w => plain_any b w)
  rw [ht.pa] at C1
  rw [ht.pb] at C2
  have D1 := Lib.hid (fun w => int_at (op := { data := #[47] }) (a := m) (b := 0) (x := x) (y := 201) (by rw [list47]; exact ht.quo) w)
  have D2 := Lib.hid (fun w => int_at (op := { data := #[37] }) (a := m) (b := 0) (x := y) (y := 201) (by rw [list37]; exact ht.rem) w)
  have D3 := Lib.hid (fun w => int_at (op := { data := #[42] }) (a := x) (b := 0) (x := z) (y := 0) (by rw [list42, ← ht.tim]; rfl) w)
  have D4 := Lib.hid (fun w => int_at (op := { data := #[43] }) (a := z) (b := y) (x := v) (y := 0) (by rw [list43, ← ht.sum]; rfl) w)
  clear hg ht
  go_enter Tryz.func5, Tryz.ntmps5
  go_wp2_with (first | (go_at_call 7; refine HW.out.mono ?_; rintro e w1 ⟨rfl, hb⟩) | (go_at_call 8; (first | (with_reducible refine (A1.out _).mono ?_) | (with_reducible refine (A2.out _).mono ?_) | (with_reducible refine (A3.out _).mono ?_) | (with_reducible refine (A4.out _).mono ?_)); rintro e w2 ⟨rfl, hbx⟩; replace hb := hb.trans (hbx.mono hb.size); clear hbx) | (go_at_call 10; (first | (with_reducible refine (B1.out _).mono ?_) | (with_reducible refine (B2.out _).mono ?_) | (with_reducible refine (B3.out _).mono ?_) | (with_reducible refine (B4.out _).mono ?_)); rintro e w3 ⟨rfl, rfl⟩) | (go_at_call 12; (first | (with_reducible refine (C1.out _).mono ?_) | (with_reducible refine (C2.out _).mono ?_)); rintro e w4 ⟨rfl, rfl⟩) | (go_at_call 15; (first | (with_reducible refine (D1.out _).mono ?_) | (with_reducible refine (D2.out _).mono ?_) | (with_reducible refine (D3.out _).mono ?_) | (with_reducible refine (D4.out _).mono ?_)); rintro e w5 ⟨rfl, hbx⟩; replace hb := hb.trans (hbx.mono hb.size); clear hbx))
  go_ret
  exact ⟨rfl, hb⟩
set_option maxRecDepth 100000 in
set_option maxHeartbeats 4000000 in
theorem laws_nan_b_n {a b pa : Nat} {m n x y z : Int} {w : World} (hg : Gn w) (ht : Tells a b m n 9221120237041090561 9221120237041090561 pa 9221120237041090561 false false false true x y z m 0) (h1 : ((pa : Int) == 9221120237041090561) = false) (hn : (n == 0) = false) :
    Calls Tryz.prog 5 #[.int .u64 (a : Int), .int .u64 (b : Int), .int .i64 m, .int .i64 n] w fun e w' => e = .returned (.bool true) ∧ Below w.heap.size w w' := by
  have HW := Lib.hid (awake_any hg)
  have A1 := Lib.hid (fun w => float_at (op := { data := #[43] }) (a := a) (b := b) (x := 9221120237041090561) (y := 0) (by rw [list43, ← ht.add]; rfl) w)
  have A2 := Lib.hid (fun w => float_at (op := { data := #[43] }) (a := b) (b := a) (x := 9221120237041090561) (y := 0) (by rw [list43, ← ht.add, add_res]; rfl) w)
  have A3 := Lib.hid (fun w => float_at (op := { data := #[42] }) (a := a) (b := b) (x := 9221120237041090561) (y := 0) (by rw [list42, ← ht.mul]; rfl) w)
  have A4 := Lib.hid (fun w => float_at (op := { data := #[42] }) (a := b) (b := a) (x := 9221120237041090561) (y := 0) (by rw [list42, ← ht.mul, mul_res]; rfl) w)
  have B1 := Lib.hid (fun w => float_is_at (op := { data := #[60] }) (a := a) (b := b) (x := false) (y := 0) (by rw [list60, ← ht.lt]; rfl) w)
  have B2 := Lib.hid (fun w => float_is_at (op := { data := #[61, 61] }) (a := a) (b := b) (x := false) (y := 0) (by rw [list61, ← ht.eq]; rfl) w)
  have B3 := Lib.hid (fun w => float_is_at (op := { data := #[62] }) (a := a) (b := b) (x := false) (y := 0) (by rw [list62, ← ht.gt]; rfl) w)
  have B4 := Lib.hid (fun w => float_is_at (op := { data := #[33, 61] }) (a := a) (b := b) (x := true) (y := 0) (by rw [list33, ← ht.ne]; rfl) w)
  have C1 := Lib.hid (fun w => plain_any a w); have C2 := Lib.hid (fun w => plain_any b w)
  rw [ht.pa] at C1
  rw [ht.pb] at C2
  have D1 := Lib.hid (fun w => int_at (op := { data := #[47] }) (a := m) (b := n) (x := x) (y := 0) (by rw [list47]; exact ht.quo) w)
  have D2 := Lib.hid (fun w => int_at (op := { data := #[37] }) (a := m) (b := n) (x := y) (y := 0) (by rw [list37]; exact ht.rem) w)
  have D3 := Lib.hid (fun w => int_at (op := { data := #[42] }) (a := x) (b := n) (x := z) (y := 0) (by rw [list42, ← ht.tim]; rfl) w)
  have D4 := Lib.hid (fun w => int_at (op := { data := #[43] }) (a := z) (b := y) (x := m) (y := 0) (by rw [list43, ← ht.sum]; rfl) w)
  clear hg ht
  have hn3 : (n != 0) = true := by simp [bne, hn]
  go_enter Tryz.func5, Tryz.ntmps5
  go_wp2_with (first | (go_at_call 7; refine HW.out.mono ?_; rintro e w1 ⟨rfl, hb⟩) | (go_at_call 8; (first | (with_reducible refine (A1.out _).mono ?_) | (with_reducible refine (A2.out _).mono ?_) | (with_reducible refine (A3.out _).mono ?_) | (with_reducible refine (A4.out _).mono ?_)); rintro e w2 ⟨rfl, hbx⟩; replace hb := hb.trans (hbx.mono hb.size); clear hbx) | (go_at_call 10; (first | (with_reducible refine (B1.out _).mono ?_) | (with_reducible refine (B2.out _).mono ?_) | (with_reducible refine (B3.out _).mono ?_) | (with_reducible refine (B4.out _).mono ?_)); rintro e w3 ⟨rfl, rfl⟩) | (go_at_call 12; (first | (with_reducible refine (C1.out _).mono ?_) | (with_reducible refine (C2.out _).mono ?_)); rintro e w4 ⟨rfl, rfl⟩) | (go_at_call 15; (first | (with_reducible refine (D1.out _).mono ?_) | (with_reducible refine (D2.out _).mono ?_) | (with_reducible refine (D3.out _).mono ?_) | (with_reducible refine (D4.out _).mono ?_)); rintro e w5 ⟨rfl, hbx⟩; replace hb := hb.trans (hbx.mono hb.size); clear hbx))
  go_ret
  exact ⟨rfl, hb⟩
set_option maxRecDepth 100000 in
set_option maxHeartbeats 4000000 in
theorem laws_lt_z {a b s p pa pb : Nat} {m v x y z : Int} {w : World} (hg : Gn w) (ht : Tells a b m 0 s p pa pb true false false true x y z v 201) (h1 : ((pa : Int) == 9221120237041090561) = false) (h2 : ((pb : Int) == 9221120237041090561) = false) :
    Calls Tryz.prog 5 #[.int .u64 (a : Int), .int .u64 (b : Int), .int .i64 m, .int .i64 0] w fun e w' => e = .returned (.bool true) ∧ Below w.heap.size w w' := by
  have HW := Lib.hid (awake_any hg)
  have A1 := Lib.hid (fun w => float_at (op := { data := #[43] }) (a := a) (b := b) (x := s) (y := 0) (by rw [list43, ← ht.add]; rfl) w)
  have A2 := Lib.hid (fun w => float_at (op := { data := #[43] }) (a := b) (b := a) (x := s) (y := 0) (by rw [list43, ← ht.add, add_res]; rfl) w)
  have A3 := Lib.hid (fun w => float_at (op := { data := #[42] }) (a := a) (b := b) (x := p) (y := 0) (by rw [list42, ← ht.mul]; rfl) w)
  have A4 := Lib.hid (fun w => float_at (op := { data := #[42] }) (a := b) (b := a) (x := p) (y := 0) (by rw [list42, ← ht.mul, mul_res]; rfl) w)
  have B1 := Lib.hid (fun w => float_is_at (op := { data := #[60] }) (a := a) (b := b) (x := true) (y := 0) (by rw [list60, ← ht.lt]; rfl) w)
  have B2 := Lib.hid (fun w => float_is_at (op := { data := #[61, 61] }) (a := a) (b := b) (x := false) (y := 0) (by rw [list61, ← ht.eq]; rfl) w)
  have B3 := Lib.hid (fun w => float_is_at (op := { data := #[62] }) (a := a) (b := b) (x := false) (y := 0) (by rw [list62, ← ht.gt]; rfl) w)
  have B4 := Lib.hid (fun w => float_is_at (op := { data := #[33, 61] }) (a := a) (b := b) (x := true) (y := 0) (by rw [list33, ← ht.ne]; rfl) w)
  have C1 := Lib.hid (fun w => plain_any a w); have C2 := Lib.hid (fun w => plain_any b w)
  rw [ht.pa] at C1
  rw [ht.pb] at C2
  have D1 := Lib.hid (fun w => int_at (op := { data := #[47] }) (a := m) (b := 0) (x := x) (y := 201) (by rw [list47]; exact ht.quo) w)
  have D2 := Lib.hid (fun w => int_at (op := { data := #[37] }) (a := m) (b := 0) (x := y) (y := 201) (by rw [list37]; exact ht.rem) w)
  have D3 := Lib.hid (fun w => int_at (op := { data := #[42] }) (a := x) (b := 0) (x := z) (y := 0) (by rw [list42, ← ht.tim]; rfl) w)
  have D4 := Lib.hid (fun w => int_at (op := { data := #[43] }) (a := z) (b := y) (x := v) (y := 0) (by rw [list43, ← ht.sum]; rfl) w)
  clear hg ht
  go_enter Tryz.func5, Tryz.ntmps5
  go_wp2_with (first | (go_at_call 7; refine HW.out.mono ?_; rintro e w1 ⟨rfl, hb⟩) | (go_at_call 8; (first | (with_reducible refine (A1.out _).mono ?_) | (with_reducible refine (A2.out _).mono ?_) | (with_reducible refine (A3.out _).mono ?_) | (with_reducible refine (A4.out _).mono ?_)); rintro e w2 ⟨rfl, hbx⟩; replace hb := hb.trans (hbx.mono hb.size); clear hbx) | (go_at_call 10; (first | (with_reducible refine (B1.out _).mono ?_) | (with_reducible refine (B2.out _).mono ?_) | (with_reducible refine (B3.out _).mono ?_) | (with_reducible refine (B4.out _).mono ?_)); rintro e w3 ⟨rfl, rfl⟩) | (go_at_call 12; (first | (with_reducible refine (C1.out _).mono ?_) | (with_reducible refine (C2.out _).mono ?_)); rintro e w4 ⟨rfl, rfl⟩) | (go_at_call 15; (first | (with_reducible refine (D1.out _).mono ?_) | (with_reducible refine (D2.out _).mono ?_) | (with_reducible refine (D3.out _).mono ?_) | (with_reducible refine (D4.out _).mono ?_)); rintro e w5 ⟨rfl, hbx⟩; replace hb := hb.trans (hbx.mono hb.size); clear hbx))
  go_ret
  exact ⟨rfl, hb⟩
set_option maxRecDepth 100000 in
set_option maxHeartbeats 4000000 in
theorem laws_lt_n {a b s p pa pb : Nat} {m n x y z : Int} {w : World} (hg : Gn w) (ht : Tells a b m n s p pa pb true false false true x y z m 0) (h1 : ((pa : Int) == 9221120237041090561) = false) (h2 : ((pb : Int) == 9221120237041090561) = false) (hn : (n == 0) = false) :
    Calls Tryz.prog 5 #[.int .u64 (a : Int), .int .u64 (b : Int), .int .i64 m, .int .i64 n] w fun e w' => e = .returned (.bool true) ∧ Below w.heap.size w w' := by
  have HW := Lib.hid (awake_any hg)
  have A1 := Lib.hid (fun w => float_at (op := { data := #[43] }) (a := a) (b := b) (x := s) (y := 0) (by rw [list43, ← ht.add]; rfl) w)
  have A2 := Lib.hid (fun w => float_at (op := { data := #[43] }) (a := b) (b := a) (x := s) (y := 0) (by rw [list43, ← ht.add, add_res]; rfl) w)
  have A3 := Lib.hid (fun w => float_at (op := { data := #[42] }) (a := a) (b := b) (x := p) (y := 0) (by rw [list42, ← ht.mul]; rfl) w)
  have A4 := Lib.hid (fun w => float_at (op := { data := #[42] }) (a := b) (b := a) (x := p) (y := 0) (by rw [list42, ← ht.mul, mul_res]; rfl) w)
  have B1 := Lib.hid (fun w => float_is_at (op := { data := #[60] }) (a := a) (b := b) (x := true) (y := 0) (by rw [list60, ← ht.lt]; rfl) w)
  have B2 := Lib.hid (fun w => float_is_at (op := { data := #[61, 61] }) (a := a) (b := b) (x := false) (y := 0) (by rw [list61, ← ht.eq]; rfl) w)
  have B3 := Lib.hid (fun w => float_is_at (op := { data := #[62] }) (a := a) (b := b) (x := false) (y := 0) (by rw [list62, ← ht.gt]; rfl) w)
  have B4 := Lib.hid (fun w => float_is_at (op := { data := #[33, 61] }) (a := a) (b := b) (x := true) (y := 0) (by rw [list33, ← ht.ne]; rfl) w)
  have C1 := Lib.hid (fun w => plain_any a w); have C2 := Lib.hid (fun w => plain_any b w)
  rw [ht.pa] at C1
  rw [ht.pb] at C2
  have D1 := Lib.hid (fun w => int_at (op := { data := #[47] }) (a := m) (b := n) (x := x) (y := 0) (by rw [list47]; exact ht.quo) w)
  have D2 := Lib.hid (fun w => int_at (op := { data := #[37] }) (a := m) (b := n) (x := y) (y := 0) (by rw [list37]; exact ht.rem) w)
  have D3 := Lib.hid (fun w => int_at (op := { data := #[42] }) (a := x) (b := n) (x := z) (y := 0) (by rw [list42, ← ht.tim]; rfl) w)
  have D4 := Lib.hid (fun w => int_at (op := { data := #[43] }) (a := z) (b := y) (x := m) (y := 0) (by rw [list43, ← ht.sum]; rfl) w)
  clear hg ht
  have hn3 : (n != 0) = true := by simp [bne, hn]
  go_enter Tryz.func5, Tryz.ntmps5
  go_wp2_with (first | (go_at_call 7; refine HW.out.mono ?_; rintro e w1 ⟨rfl, hb⟩) | (go_at_call 8; (first | (with_reducible refine (A1.out _).mono ?_) | (with_reducible refine (A2.out _).mono ?_) | (with_reducible refine (A3.out _).mono ?_) | (with_reducible refine (A4.out _).mono ?_)); rintro e w2 ⟨rfl, hbx⟩; replace hb := hb.trans (hbx.mono hb.size); clear hbx) | (go_at_call 10; (first | (with_reducible refine (B1.out _).mono ?_) | (with_reducible refine (B2.out _).mono ?_) | (with_reducible refine (B3.out _).mono ?_) | (with_reducible refine (B4.out _).mono ?_)); rintro e w3 ⟨rfl, rfl⟩) | (go_at_call 12; (first | (with_reducible refine (C1.out _).mono ?_) | (with_reducible refine (C2.out _).mono ?_)); rintro e w4 ⟨rfl, rfl⟩) | (go_at_call 15; (first | (with_reducible refine (D1.out _).mono ?_) | (with_reducible refine (D2.out _).mono ?_) | (with_reducible refine (D3.out _).mono ?_) | (with_reducible refine (D4.out _).mono ?_)); rintro e w5 ⟨rfl, hbx⟩; replace hb := hb.trans (hbx.mono hb.size); clear hbx))
  go_ret
  exact ⟨rfl, hb⟩
set_option maxRecDepth 100000 in
set_option maxHeartbeats 4000000 in
theorem laws_eq_z {a b s p pa pb : Nat} {m v x y z : Int} {w : World} (hg : Gn w) (ht : Tells a b m 0 s p pa pb false true false false x y z v 201) (h1 : ((pa : Int) == 9221120237041090561) = false) (h2 : ((pb : Int) == 9221120237041090561) = false) :
    Calls Tryz.prog 5 #[.int .u64 (a : Int), .int .u64 (b : Int), .int .i64 m, .int .i64 0] w fun e w' => e = .returned (.bool true) ∧ Below w.heap.size w w' := by
  have HW := Lib.hid (awake_any hg)
  have A1 := Lib.hid (fun w => float_at (op := { data := #[43] }) (a := a) (b := b) (x := s) (y := 0) (by rw [list43, ← ht.add]; rfl) w)
  have A2 := Lib.hid (fun w => float_at (op := { data := #[43] }) (a := b) (b := a) (x := s) (y := 0) (by rw [list43, ← ht.add, add_res]; rfl) w)
  have A3 := Lib.hid (fun w => float_at (op := { data := #[42] }) (a := a) (b := b) (x := p) (y := 0) (by rw [list42, ← ht.mul]; rfl) w)
  have A4 := Lib.hid (fun w => float_at (op := { data := #[42] }) (a := b) (b := a) (x := p) (y := 0) (by rw [list42, ← ht.mul, mul_res]; rfl) w)
  have B1 := Lib.hid (fun w => float_is_at (op := { data := #[60] }) (a := a) (b := b) (x := false) (y := 0) (by rw [list60, ← ht.lt]; rfl) w)
  have B2 := Lib.hid (fun w => float_is_at (op := { data := #[61, 61] }) (a := a) (b := b) (x := true) (y := 0) (by rw [list61, ← ht.eq]; rfl) w)
  have B3 := Lib.hid (fun w => float_is_at (op := { data := #[62] }) (a := a) (b := b) (x := false) (y := 0) (by rw [list62, ← ht.gt]; rfl) w)
  have B4 := Lib.hid (fun w => float_is_at (op := { data := #[33, 61] }) (a := a) (b := b) (x := false) (y := 0) (by rw [list33, ← ht.ne]; rfl) w)
  have C1 := Lib.hid (fun w => plain_any a w); have C2 := Lib.hid (fun w => plain_any b w)
  rw [ht.pa] at C1
  rw [ht.pb] at C2
  have D1 := Lib.hid (fun w => int_at (op := { data := #[47] }) (a := m) (b := 0) (x := x) (y := 201) (by rw [list47]; exact ht.quo) w)
  have D2 := Lib.hid (fun w => int_at (op := { data := #[37] }) (a := m) (b := 0) (x := y) (y := 201) (by rw [list37]; exact ht.rem) w)
  have D3 := Lib.hid (fun w => int_at (op := { data := #[42] }) (a := x) (b := 0) (x := z) (y := 0) (by rw [list42, ← ht.tim]; rfl) w)
  have D4 := Lib.hid (fun w => int_at (op := { data := #[43] }) (a := z) (b := y) (x := v) (y := 0) (by rw [list43, ← ht.sum]; rfl) w)
  clear hg ht
  go_enter Tryz.func5, Tryz.ntmps5
  go_wp2_with (first | (go_at_call 7; refine HW.out.mono ?_; rintro e w1 ⟨rfl, hb⟩) | (go_at_call 8; (first | (with_reducible refine (A1.out _).mono ?_) | (with_reducible refine (A2.out _).mono ?_) | (with_reducible refine (A3.out _).mono ?_) | (with_reducible refine (A4.out _).mono ?_)); rintro e w2 ⟨rfl, hbx⟩; replace hb := hb.trans (hbx.mono hb.size); clear hbx) | (go_at_call 10; (first | (with_reducible refine (B1.out _).mono ?_) | (with_reducible refine (B2.out _).mono ?_) | (with_reducible refine (B3.out _).mono ?_) | (with_reducible refine (B4.out _).mono ?_)); rintro e w3 ⟨rfl, rfl⟩) | (go_at_call 12; (first | (with_reducible refine (C1.out _).mono ?_) | (with_reducible refine (C2.out _).mono ?_)); rintro e w4 ⟨rfl, rfl⟩) | (go_at_call 15; (first | (with_reducible refine (D1.out _).mono ?_) | (with_reducible refine (D2.out _).mono ?_) | (with_reducible refine (D3.out _).mono ?_) | (with_reducible refine (D4.out _).mono ?_)); rintro e w5 ⟨rfl, hbx⟩; replace hb := hb.trans (hbx.mono hb.size); clear hbx))
  go_ret
  exact ⟨rfl, hb⟩
set_option maxRecDepth 100000 in
set_option maxHeartbeats 4000000 in
theorem laws_eq_n {a b s p pa pb : Nat} {m n x y z : Int} {w : World} (hg : Gn w) (ht : Tells a b m n s p pa pb false true false false x y z m 0) (h1 : ((pa : Int) == 9221120237041090561) = false) (h2 : ((pb : Int) == 9221120237041090561) = false) (hn : (n == 0) = false) :
    Calls Tryz.prog 5 #[.int .u64 (a : Int), .int .u64 (b : Int), .int .i64 m, .int .i64 n] w fun e w' => e = .returned (.bool true) ∧ Below w.heap.size w w' := by
  have HW := Lib.hid (awake_any hg)
  have A1 := Lib.hid (fun w => float_at (op := { data := #[43] }) (a := a) (b := b) (x := s) (y := 0) (by rw [list43, ← ht.add]; rfl) w)
  have A2 := Lib.hid (fun w => float_at (op := { data := #[43] }) (a := b) (b := a) (x := s) (y := 0) (by rw [list43, ← ht.add, add_res]; rfl) w)
  have A3 := Lib.hid (fun w => float_at (op := { data := #[42] }) (a := a) (b := b) (x := p) (y := 0) (by rw [list42, ← ht.mul]; rfl) w)
  have A4 := Lib.hid (fun w => float_at (op := { data := #[42] }) (a := b) (b := a) (x := p) (y := 0) (by rw [list42, ← ht.mul, mul_res]; rfl) w)
  have B1 := Lib.hid (fun w => float_is_at (op := { data := #[60] }) (a := a) (b := b) (x := false) (y := 0) (by rw [list60, ← ht.lt]; rfl) w)
  have B2 := Lib.hid (fun w => float_is_at (op := { data := #[61, 61] }) (a := a) (b := b) (x := true) (y := 0) (by rw [list61, ← ht.eq]; rfl) w)
  have B3 := Lib.hid (fun w => float_is_at (op := { data := #[62] }) (a := a) (b := b) (x := false) (y := 0) (by rw [list62, ← ht.gt]; rfl) w)
  have B4 := Lib.hid (fun w => float_is_at (op := { data := #[33, 61] }) (a := a) (b := b) (x := false) (y := 0) (by rw [list33, ← ht.ne]; rfl) w)
  have C1 := Lib.hid (fun w => plain_any a w); have C2 := Lib.hid (fun w => plain_any b w)
  rw [ht.pa] at C1
  rw [ht.pb] at C2
  have D1 := Lib.hid (fun w => int_at (op := { data := #[47] }) (a := m) (b := n) (x := x) (y := 0) (by rw [list47]; exact ht.quo) w)
  have D2 := Lib.hid (fun w => int_at (op := { data := #[37] }) (a := m) (b := n) (x := y) (y := 0) (by rw [list37]; exact ht.rem) w)
  have D3 := Lib.hid (fun w => int_at (op := { data := #[42] }) (a := x) (b := n) (x := z) (y := 0) (by rw [list42, ← ht.tim]; rfl) w)
  have D4 := Lib.hid (fun w => int_at (op := { data := #[43] }) (a := z) (b := y) (x := m) (y := 0) (by rw [list43, ← ht.sum]; rfl) w)
  clear hg ht
  have hn3 : (n != 0) = true := by simp [bne, hn]
  go_enter Tryz.func5, Tryz.ntmps5
  go_wp2_with (first | (go_at_call 7; refine HW.out.mono ?_; rintro e w1 ⟨rfl, hb⟩) | (go_at_call 8; (first | (with_reducible refine (A1.out _).mono ?_) | (with_reducible refine (A2.out _).mono ?_) | (with_reducible refine (A3.out _).mono ?_) | (with_reducible refine (A4.out _).mono ?_)); rintro e w2 ⟨rfl, hbx⟩; replace hb := hb.trans (hbx.mono hb.size); clear hbx) | (go_at_call 10; (first | (with_reducible refine (B1.out _).mono ?_) | (with_reducible refine (B2.out _).mono ?_) | (with_reducible refine (B3.out _).mono ?_) | (with_reducible refine (B4.out _).mono ?_)); rintro e w3 ⟨rfl, rfl⟩) | (go_at_call 12; (first | (with_reducible refine (C1.out _).mono ?_) | (with_reducible refine (C2.out _).mono ?_)); rintro e w4 ⟨rfl, rfl⟩) | (go_at_call 15; (first | (with_reducible refine (D1.out _).mono ?_) | (with_reducible refine (D2.out _).mono ?_) | (with_reducible refine (D3.out _).mono ?_) | (with_reducible refine (D4.out _).mono ?_)); rintro e w5 ⟨rfl, hbx⟩; replace hb := hb.trans (hbx.mono hb.size); clear hbx))
  go_ret
  exact ⟨rfl, hb⟩
set_option maxRecDepth 100000 in
set_option maxHeartbeats 4000000 in
theorem laws_gt_z {a b s p pa pb : Nat} {m v x y z : Int} {w : World} (hg : Gn w) (ht : Tells a b m 0 s p pa pb false false true true x y z v 201) (h1 : ((pa : Int) == 9221120237041090561) = false) (h2 : ((pb : Int) == 9221120237041090561) = false) :
    Calls Tryz.prog 5 #[.int .u64 (a : Int), .int .u64 (b : Int), .int .i64 m, .int .i64 0] w fun e w' => e = .returned (.bool true) ∧ Below w.heap.size w w' := by
  have HW := Lib.hid (awake_any hg)
  have A1 := Lib.hid (fun w => float_at (op := { data := #[43] }) (a := a) (b := b) (x := s) (y := 0) (by rw [list43, ← ht.add]; rfl) w)
  have A2 := Lib.hid (fun w => float_at (op := { data := #[43] }) (a := b) (b := a) (x := s) (y := 0) (by rw [list43, ← ht.add, add_res]; rfl) w)
  have A3 := Lib.hid (fun w => float_at (op := { data := #[42] }) (a := a) (b := b) (x := p) (y := 0) (by rw [list42, ← ht.mul]; rfl) w)
  have A4 := Lib.hid (fun w => float_at (op := { data := #[42] }) (a := b) (b := a) (x := p) (y := 0) (by rw [list42, ← ht.mul, mul_res]; rfl) w)
  have B1 := Lib.hid (fun w => float_is_at (op := { data := #[60] }) (a := a) (b := b) (x := false) (y := 0) (by rw [list60, ← ht.lt]; rfl) w)
  have B2 := Lib.hid (fun w => float_is_at (op := { data := #[61, 61] }) (a := a) (b := b) (x := false) (y := 0) (by rw [list61, ← ht.eq]; rfl) w)
  have B3 := Lib.hid (fun w => float_is_at (op := { data := #[62] }) (a := a) (b := b) (x := true) (y := 0) (by rw [list62, ← ht.gt]; rfl) w)
  have B4 := Lib.hid (fun w => float_is_at (op := { data := #[33, 61] }) (a := a) (b := b) (x := true) (y := 0) (by rw [list33, ← ht.ne]; rfl) w)
  have C1 := Lib.hid (fun w => plain_any a w); have C2 := Lib.hid (fun w => plain_any b w)
  rw [ht.pa] at C1
  rw [ht.pb] at C2
  have D1 := Lib.hid (fun w => int_at (op := { data := #[47] }) (a := m) (b := 0) (x := x) (y := 201) (by rw [list47]; exact ht.quo) w)
  have D2 := Lib.hid (fun w => int_at (op := { data := #[37] }) (a := m) (b := 0) (x := y) (y := 201) (by rw [list37]; exact ht.rem) w)
  have D3 := Lib.hid (fun w => int_at (op := { data := #[42] }) (a := x) (b := 0) (x := z) (y := 0) (by rw [list42, ← ht.tim]; rfl) w)
  have D4 := Lib.hid (fun w => int_at (op := { data := #[43] }) (a := z) (b := y) (x := v) (y := 0) (by rw [list43, ← ht.sum]; rfl) w)
  clear hg ht
  go_enter Tryz.func5, Tryz.ntmps5
  go_wp2_with (first | (go_at_call 7; refine HW.out.mono ?_; rintro e w1 ⟨rfl, hb⟩) | (go_at_call 8; (first | (with_reducible refine (A1.out _).mono ?_) | (with_reducible refine (A2.out _).mono ?_) | (with_reducible refine (A3.out _).mono ?_) | (with_reducible refine (A4.out _).mono ?_)); rintro e w2 ⟨rfl, hbx⟩; replace hb := hb.trans (hbx.mono hb.size); clear hbx) | (go_at_call 10; (first | (with_reducible refine (B1.out _).mono ?_) | (with_reducible refine (B2.out _).mono ?_) | (with_reducible refine (B3.out _).mono ?_) | (with_reducible refine (B4.out _).mono ?_)); rintro e w3 ⟨rfl, rfl⟩) | (go_at_call 12; (first | (with_reducible refine (C1.out _).mono ?_) | (with_reducible refine (C2.out _).mono ?_)); rintro e w4 ⟨rfl, rfl⟩) | (go_at_call 15; (first | (with_reducible refine (D1.out _).mono ?_) | (with_reducible refine (D2.out _).mono ?_) | (with_reducible refine (D3.out _).mono ?_) | (with_reducible refine (D4.out _).mono ?_)); rintro e w5 ⟨rfl, hbx⟩; replace hb := hb.trans (hbx.mono hb.size); clear hbx))
  go_ret
  exact ⟨rfl, hb⟩
set_option maxRecDepth 100000 in
set_option maxHeartbeats 4000000 in
theorem laws_gt_n {a b s p pa pb : Nat} {m n x y z : Int} {w : World} (hg : Gn w) (ht : Tells a b m n s p pa pb false false true true x y z m 0) (h1 : ((pa : Int) == 9221120237041090561) = false) (h2 : ((pb : Int) == 9221120237041090561) = false) (hn : (n == 0) = false) :
    Calls Tryz.prog 5 #[.int .u64 (a : Int), .int .u64 (b : Int), .int .i64 m, .int .i64 n] w fun e w' => e = .returned (.bool true) ∧ Below w.heap.size w w' := by
  have HW := Lib.hid (awake_any hg)
  have A1 := Lib.hid (fun w => float_at (op := { data := #[43] }) (a := a) (b := b) (x := s) (y := 0) (by rw [list43, ← ht.add]; rfl) w)
  have A2 := Lib.hid (fun w => float_at (op := { data := #[43] }) (a := b) (b := a) (x := s) (y := 0) (by rw [list43, ← ht.add, add_res]; rfl) w)
  have A3 := Lib.hid (fun w => float_at (op := { data := #[42] }) (a := a) (b := b) (x := p) (y := 0) (by rw [list42, ← ht.mul]; rfl) w)
  have A4 := Lib.hid (fun w => float_at (op := { data := #[42] }) (a := b) (b := a) (x := p) (y := 0) (by rw [list42, ← ht.mul, mul_res]; rfl) w)
  have B1 := Lib.hid (fun w => float_is_at (op := { data := #[60] }) (a := a) (b := b) (x := false) (y := 0) (by rw [list60, ← ht.lt]; rfl) w)
  have B2 := Lib.hid (fun w => float_is_at (op := { data := #[61, 61] }) (a := a) (b := b) (x := false) (y := 0) (by rw [list61, ← ht.eq]; rfl) w)
  have B3 := Lib.hid (fun w => float_is_at (op := { data := #[62] }) (a := a) (b := b) (x := true) (y := 0) (by rw [list62, ← ht.gt]; rfl) w)
  have B4 := Lib.hid (fun w => float_is_at (op := { data := #[33, 61] }) (a := a) (b := b) (x := true) (y := 0) (by rw [list33, ← ht.ne]; rfl) w)
  have C1 := Lib.hid (fun w => plain_any a w); have C2 := Lib.hid (fun w => plain_any b w)
  rw [ht.pa] at C1
  rw [ht.pb] at C2
  have D1 := Lib.hid (fun w => int_at (op := { data := #[47] }) (a := m) (b := n) (x := x) (y := 0) (by rw [list47]; exact ht.quo) w)
  have D2 := Lib.hid (fun w => int_at (op := { data := #[37] }) (a := m) (b := n) (x := y) (y := 0) (by rw [list37]; exact ht.rem) w)
  have D3 := Lib.hid (fun w => int_at (op := { data := #[42] }) (a := x) (b := n) (x := z) (y := 0) (by rw [list42, ← ht.tim]; rfl) w)
  have D4 := Lib.hid (fun w => int_at (op := { data := #[43] }) (a := z) (b := y) (x := m) (y := 0) (by rw [list43, ← ht.sum]; rfl) w)
  clear hg ht
  have hn3 : (n != 0) = true := by simp [bne, hn]
  go_enter Tryz.func5, Tryz.ntmps5
  go_wp2_with (first | (go_at_call 7; refine HW.out.mono ?_; rintro e w1 ⟨rfl, hb⟩) | (go_at_call 8; (first | (with_reducible refine (A1.out _).mono ?_) | (with_reducible refine (A2.out _).mono ?_) | (with_reducible refine (A3.out _).mono ?_) | (with_reducible refine (A4.out _).mono ?_)); rintro e w2 ⟨rfl, hbx⟩; replace hb := hb.trans (hbx.mono hb.size); clear hbx) | (go_at_call 10; (first | (with_reducible refine (B1.out _).mono ?_) | (with_reducible refine (B2.out _).mono ?_) | (with_reducible refine (B3.out _).mono ?_) | (with_reducible refine (B4.out _).mono ?_)); rintro e w3 ⟨rfl, rfl⟩) | (go_at_call 12; (first | (with_reducible refine (C1.out _).mono ?_) | (with_reducible refine (C2.out _).mono ?_)); rintro e w4 ⟨rfl, rfl⟩) | (go_at_call 15; (first | (with_reducible refine (D1.out _).mono ?_) | (with_reducible refine (D2.out _).mono ?_) | (with_reducible refine (D3.out _).mono ?_) | (with_reducible refine (D4.out _).mono ?_)); rintro e w5 ⟨rfl, hbx⟩; replace hb := hb.trans (hbx.mono hb.size); clear hbx))
  go_ret
  exact ⟨rfl, hb⟩
theorem tell_ints_z {a b : Nat} {m : Int} {s p pa pb : Nat} {lt eq gt ne : Bool} (h1 : resR (D.add a b) = s) (h2 : resR (D.mul a b) = p) (h3 : (D.order a b == some .lt) = lt) (h4 : (D.order a b == some .eq) = eq) (h5 : (D.order a b == some .gt) = gt) (h6 : (D.order a b != some .eq) = ne) (h7 : plainR a = pa) (h8 : plainR b = pb) :
    Tells a b m 0 s p pa pb lt eq gt ne 0 0 (wrap64 (0 * 0)) (wrap64 (wrap64 (0 * 0) + 0)) 201 := ⟨h1, h2, h3, h4, h5, h6, h7, h8, rfl, rfl, rfl, rfl⟩
theorem tell_ints_n {a b : Nat} {m n : Int} {s p pa pb : Nat} {lt eq gt ne : Bool} (hm : -9223372036854775808 ≤ m ∧ m ≤ 9223372036854775807) (hn : n ≠ 0) (h1 : resR (D.add a b) = s) (h2 : resR (D.mul a b) = p) (h3 : (D.order a b == some .lt) = lt) (h4 : (D.order a b == some .eq) = eq) (h5 : (D.order a b == some .gt) = gt) (h6 : (D.order a b != some .eq) = ne) (h7 : plainR a = pa) (h8 : plainR b = pb) :
    Tells a b m n s p pa pb lt eq gt ne (wrap64 (m.tdiv n)) (m.tmod n) (wrap64 (wrap64 (m.tdiv n) * n)) m 0 := ⟨h1, h2, h3, h4, h5, h6, h7, h8, by simp [intR, hn], by simp [intR, hn], rfl, whole hm⟩
theorem laws_any {a b : Nat} {m n : Int} {w : World} (hm : -9223372036854775808 ≤ m ∧ m ≤ 9223372036854775807) (hg : Gn w) :
    Calls Tryz.prog 5 #[.int .u64 (a : Int), .int .u64 (b : Int), .int .i64 m, .int .i64 n] w fun e w' => e = .returned (.bool true) ∧ Below w.heap.size w w' := by
  cases ha : isN a with
  | true =>
    have ho : D.order a b = none := by rw [order_eq, ha]; rfl
    have h1 : resR (D.add a b) = 9221120237041090561 := by rw [add_nan (.inl ha)]; rfl
    have h2 : resR (D.mul a b) = 9221120237041090561 := by rw [mul_nan (.inl ha)]; rfl
    by_cases hn : n = 0
    · subst hn
      exact laws_nan_a_z hg (tell_ints_z h1 h2 (by rw [ho]; rfl) (by rw [ho]; rfl) (by rw [ho]; rfl) (by rw [ho]; rfl) (plain_nan ha) rfl)
    · exact laws_nan_a_n hg (tell_ints_n hm hn h1 h2 (by rw [ho]; rfl) (by rw [ho]; rfl) (by rw [ho]; rfl) (by rw [ho]; rfl) (plain_nan ha) rfl) (by simpa using hn)
  | false =>
    obtain ⟨ha1, ha2⟩ := plain_none ha
    cases hb : isN b with
    | true =>
      have ho : D.order a b = none := by rw [order_eq, ha, hb]; rfl
      have h1 : resR (D.add a b) = 9221120237041090561 := by rw [add_nan (.inr hb)]; rfl
      have h2 : resR (D.mul a b) = 9221120237041090561 := by rw [mul_nan (.inr hb)]; rfl
      by_cases hn : n = 0
      · subst hn
        exact laws_nan_b_z hg (tell_ints_z h1 h2 (by rw [ho]; rfl) (by rw [ho]; rfl) (by rw [ho]; rfl) (by rw [ho]; rfl) ha1 (plain_nan hb)) ha2
      · exact laws_nan_b_n hg (tell_ints_n hm hn h1 h2 (by rw [ho]; rfl) (by rw [ho]; rfl) (by rw [ho]; rfl) (by rw [ho]; rfl) ha1 (plain_nan hb)) ha2 (by simpa using hn)
    | false =>
      obtain ⟨hb1, hb2⟩ := plain_none hb
      obtain ⟨o, ho⟩ : ∃ o, D.order a b = some o := ⟨compare (plc a) (plc b), by rw [order_eq, ha, hb]; rfl⟩
      by_cases hn : n = 0
      · subst hn
        cases o with
        | lt => exact laws_lt_z hg (tell_ints_z rfl rfl (by rw [ho]; rfl) (by rw [ho]; rfl) (by rw [ho]; rfl) (by rw [ho]; rfl) ha1 hb1) ha2 hb2
        | eq => exact laws_eq_z hg (tell_ints_z rfl rfl (by rw [ho]; rfl) (by rw [ho]; rfl) (by rw [ho]; rfl) (by rw [ho]; rfl) ha1 hb1) ha2 hb2
        | gt => exact laws_gt_z hg (tell_ints_z rfl rfl (by rw [ho]; rfl) (by rw [ho]; rfl) (by rw [ho]; rfl) (by rw [ho]; rfl) ha1 hb1) ha2 hb2
      · have hn2 : (n == 0) = false := by simpa using hn
        cases o with
        | lt => exact laws_lt_n hg (tell_ints_n hm hn rfl rfl (by rw [ho]; rfl) (by rw [ho]; rfl) (by rw [ho]; rfl) (by rw [ho]; rfl) ha1 hb1) ha2 hb2 hn2
        | eq => exact laws_eq_n hg (tell_ints_n hm hn rfl rfl (by rw [ho]; rfl) (by rw [ho]; rfl) (by rw [ho]; rfl) (by rw [ho]; rfl) ha1 hb1) ha2 hb2 hn2
        | gt => exact laws_gt_n hg (tell_ints_n hm hn rfl rfl (by rw [ho]; rfl) (by rw [ho]; rfl) (by rw [ho]; rfl) (by rw [ho]; rfl) ha1 hb1) ha2 hb2 hn2
end Go.Proofs.YtkgginkdhggpgaaGreatDoor.NumK
