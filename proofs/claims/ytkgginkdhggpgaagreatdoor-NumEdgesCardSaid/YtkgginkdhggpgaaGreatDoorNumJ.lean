/- The laws NumInts and NumFloats, walked. -/
import Derived.Test.YtkgginkdhggpgaaGreatDoorNumI
namespace Go.Proofs.YtkgginkdhggpgaaGreatDoor.NumJ
open Go.RowKit Go.Proofs.YtkgginkdhggpgaaGreatDoor.Flo Go.Proofs.YtkgginkdhggpgaaGreatDoor.NumA Go.Proofs.YtkgginkdhggpgaaGreatDoor.NumB Go.Proofs.YtkgginkdhggpgaaGreatDoor.NumC Go.Proofs.YtkgginkdhggpgaaGreatDoor.NumD Go.Proofs.YtkgginkdhggpgaaGreatDoor.NumE Go.Proofs.YtkgginkdhggpgaaGreatDoor.NumF Go.Proofs.YtkgginkdhggpgaaGreatDoor.NumH Go.Proofs.YtkgginkdhggpgaaGreatDoor.NumI

set_option maxRecDepth 100000 in
set_option maxHeartbeats 2000000 in
theorem ints_any {op : ByteArray} {a b : Int} {w : World} (hg : Gn w) :
    Calls Tryz.prog 6 #[.string op, .int .i64 a, .int .i64 b] w fun e w' => e = .returned (.bool true) ∧ Below w.heap.size w w' := by
  have HW := Lib.hid (awake_any hg)
  clear hg
  have HA := Lib.hid (fun w => int_any op a b w); have HB := Lib.hid (fun w => ref_int op a b w)
  have HC := Lib.hid (fun w => int_is op a b w); have HD := Lib.hid (fun w => ref_int_is op a b w)
  generalize intR op.toList a b = r at *
  generalize isR op.toList (decide (a < b)) (a == b) = q at *
  obtain ⟨r1, r2⟩ := r
  obtain ⟨q1, q2⟩ := q
  go_enter Tryz.func6, Tryz.ntmps6
  go_wp2_with (first | (go_at_call 7; refine HW.out.mono ?_; rintro e w1 ⟨rfl, hb1⟩) | (go_at_call 15; refine (HA.out _).mono ?_; rintro e w2 ⟨rfl, hb2⟩; have hb3 := hb1.trans (hb2.mono hb1.size)) | (go_at_call 16; refine (HB.out _).mono ?_; rintro e w3 ⟨rfl, rfl⟩) | (go_at_call 17; refine (HC.out _).mono ?_; rintro e w4 ⟨rfl, rfl⟩) | (go_at_call 18; refine (HD.out _).mono ?_; rintro e w5 ⟨rfl, rfl⟩))
  go_ret
  exact ⟨rfl, hb3⟩
set_option maxRecDepth 100000 in
set_option maxHeartbeats 2000000 in
theorem floats_any {op : ByteArray} {a b : Nat} {w : World} (ha : a < 18446744073709551616) (hb : b < 18446744073709551616) (hg : Gn w) :
    Calls Tryz.prog 3 #[.string op, .int .u64 (a : Int), .int .u64 (b : Int)] w fun e w' => e = .returned (.bool true) ∧ Below w.heap.size w w' := by
  have HW := Lib.hid (awake_any hg)
  clear hg
  have HA := Lib.hid (fun w => float_any op a b w); have HB := Lib.hid (fun w => ref_float op a b w)
  have HC := Lib.hid (fun w => float_is op a b w); have HD := Lib.hid (fun w => ref_float_is op a b ha hb w)
  have HE := Lib.hid (fun w => plain_any a w); have HF := Lib.hid (fun w => ref_plain ha w)
  generalize floatR op.toList a b = r at *
  generalize fisR op.toList a b = q at *
  generalize plainR a = p at *
  obtain ⟨r1, r2⟩ := r
  obtain ⟨q1, q2⟩ := q
  go_enter Tryz.func3, Tryz.ntmps3
  go_wp2_with (first | (go_at_call 7; refine HW.out.mono ?_; rintro e w1 ⟨rfl, hb1⟩) | (go_at_call 8; refine (HA.out _).mono ?_; rintro e w2 ⟨rfl, hb2⟩; have hb3 := hb1.trans (hb2.mono hb1.size)) | (go_at_call 9; refine (HB.out _).mono ?_; rintro e w3 ⟨rfl, hb4⟩; have hb5 := hb3.trans (hb4.mono hb3.size)) | (go_at_call 10; refine (HC.out _).mono ?_; rintro e w4 ⟨rfl, rfl⟩) | (go_at_call 11; refine (HD.out _).mono ?_; rintro e w5 ⟨rfl, hb6⟩; have hb7 := hb5.trans (hb6.mono hb5.size)) | (go_at_call 12; refine (HE.out _).mono ?_; rintro e w6 ⟨rfl, rfl⟩) | (go_at_call 13; refine (HF.out _).mono ?_; rintro e w7 ⟨rfl, rfl⟩))
  go_ret
  exact ⟨rfl, hb7⟩
set_option maxRecDepth 100000 in
set_option maxHeartbeats 2000000 in
/-- one pair -/
theorem pair_any {op : ByteArray} {a b : Nat} (ha : a < 18446744073709551616) (hb : b < 18446744073709551616) (w : World) :
    Calls Tryz.prog 14 #[.string op, .int .u64 (a : Int), .int .u64 (b : Int)] w fun e w' => e = .returned (.bool true) ∧ Below w.heap.size w w' := by
  have HA := Lib.hid (fun w => float_any op a b w); have HB := Lib.hid (fun w => ref_float op a b w)
  have HC := Lib.hid (fun w => float_is op a b w); have HD := Lib.hid (fun w => ref_float_is op a b ha hb w)
  generalize floatR op.toList a b = r at *
  generalize fisR op.toList a b = q at *
  obtain ⟨r1, r2⟩ := r
  obtain ⟨q1, q2⟩ := q
  go_enter Tryz.func14, Tryz.ntmps14
  go_wp2_with (first | (go_at_call 8; refine (HA.out _).mono ?_; rintro e w2 ⟨rfl, hb3⟩) | (go_at_call 9; refine (HB.out _).mono ?_; rintro e w3 ⟨rfl, hb4⟩; have hb5 := hb3.trans (hb4.mono hb3.size)) | (go_at_call 10; refine (HC.out _).mono ?_; rintro e w4 ⟨rfl, rfl⟩) | (go_at_call 11; refine (HD.out _).mono ?_; rintro e w5 ⟨rfl, hb6⟩; have hb7 := hb5.trans (hb6.mono hb5.size)))
  go_ret
  exact ⟨rfl, hb7⟩
end Go.Proofs.YtkgginkdhggpgaaGreatDoor.NumJ
