/- Floats, walked: which are NaNs, which order they have. -/
import Derived.Test.YtkgginkdhggpgaaGreatDoorNumC
import Derived.Laws.Bits64b
namespace Go.Proofs.YtkgginkdhggpgaaGreatDoor.NumD
open Go.RowKit Go.Proofs.YtkgginkdhggpgaaGreatDoor.Flo Go.Proofs.YtkgginkdhggpgaaGreatDoor.NumA Go.Proofs.YtkgginkdhggpgaaGreatDoor.NumC

def oneNaN : Nat := 9221120237041090561
def plainR (x : Nat) : Nat := if isN x then oneNaN else x
theorem u64_mul {x : Nat} {k : Nat} : IntKind.u64.wrap ((x : Int) * (k : Int)) = ((x * k % 18446744073709551616 : Nat) : Int) := by
  rw [IntKind.wrap_u64]; omega
theorem ref_nan {x : Nat} (hx : x < 18446744073709551616) (w : World) : Calls Tryz.prog 29 #[.int .u64 (x : Int)] w fun e w' => e = .returned (.bool (isN x)) ∧ w' = w := by
  have hb : bits BinOp.and IntKind.u64 ((x : Int) / 4503599627370496) 2047 = ((x / 4503599627370496 % 2048 : Nat) : Int) := by
    have h1 := bits_and_u64_nat (x / 4503599627370496) 2047 (by omega) (by omega)
    have h2 : x / 4503599627370496 &&& 2047 = x / 4503599627370496 % 2048 := Nat.and_two_pow_sub_one_eq_mod _ 11
    rw [h2] at h1
    exact h1
  rw [isN_iff]
  by_cases h1 : x / 4503599627370496 % 2048 = 2047
  · rw [h1] at hb
    have hm : (IntKind.u64.wrap ((x : Int) * 4096) != 0) = decide (x % 4503599627370496 ≠ 0) := by
      rw [IntKind.wrap_u64, Bool.eq_iff_iff]; simp; omega
    go_enter Tryz.func29, Tryz.ntmps29
    go_wp2
    go_ret
    exact ⟨by simp [h1], rfl⟩
  · have hb2 : (bits BinOp.and IntKind.u64 ((x : Int) / 4503599627370496) 2047 == 2047) = false := by rw [hb]; simp; omega
    clear hb
    go_enter Tryz.func29, Tryz.ntmps29
    go_wp2
    go_ret
    exact ⟨by simp [h1], rfl⟩
theorem from_bits (x : Nat) (w : World) : (callFunc 25 #[.int .u64 (x : Int)]).run Tryz.prog w = .ok (.value (.float .f64 x)) w := by kernel_rfl
theorem to_bits (x : Nat) (w : World) : (callFunc 24 #[.float .f64 x]).run Tryz.prog w = .ok (.value (.int .u64 (x : Int))) w := by kernel_rfl
set_option maxRecDepth 100000 in
theorem plain_any (x : Nat) (w : World) : Calls Tryz.prog 12 #[.int .u64 (x : Int)] w fun e w' => e = .returned (.int .u64 (plainR x : Nat)) ∧ w' = w := by
  have ho : (FloatKind.f64.format.order x x != some .eq) = isN x := order_self x
  have hfb := from_bits
  cases hn : isN x with
  | true =>
    rw [hn] at ho
    go_enter Tryz.func12, Tryz.ntmps12
    go_wp2
    go_ret
    exact ⟨by unfold plainR; rw [hn]; rfl, rfl⟩
  | false =>
    rw [hn] at ho
    go_enter Tryz.func12, Tryz.ntmps12
    go_wp2
    go_ret
    exact ⟨by unfold plainR; rw [hn]; rfl, rfl⟩
theorem ref_place (x : Nat) (hx : x < 18446744073709551616) (w : World) : Calls Tryz.prog 27 #[.int .u64 (x : Int)] w fun e w' => e = .returned (.int .i64 (plc x)) ∧ w' = w := by
  rw [plc_eq hx]
  have h2 : wrap64 (IntKind.u64.wrap ((x : Int) * 2) / 2) = ((x % 9223372036854775808 : Nat) : Int) := by
    rw [IntKind.wrap_u64]; unfold wrap64; omega
  have h3 : wrap64 (-((x % 9223372036854775808 : Nat) : Int)) = -((x % 9223372036854775808 : Nat) : Int) := by
    unfold wrap64; omega
  by_cases h1 : x / 9223372036854775808 = 1
  · have hb : ((x : Int) / 9223372036854775808 == 1) = true := by simp; omega
    go_enter Tryz.func27, Tryz.ntmps27
    go_wp2
    go_ret
    exact ⟨rfl, rfl⟩
  · have hb : ((x : Int) / 9223372036854775808 == 1) = false := by simp; omega
    go_enter Tryz.func27, Tryz.ntmps27
    go_wp2
    go_ret
    exact ⟨congrArg (fun n => Ending.returned (.int .i64 n)) (by omega), rfl⟩
end Go.Proofs.YtkgginkdhggpgaaGreatDoor.NumD
