/- Floats' operators and comparisons, walked. (Printed by num_e.py.) -/
import Derived.Test.YtkgginkdhggpgaaGreatDoorNumD
namespace Go.Proofs.YtkgginkdhggpgaaGreatDoor.NumE
open Go.RowKit Go.Proofs.YtkgginkdhggpgaaGreatDoor.Flo Go.Proofs.YtkgginkdhggpgaaGreatDoor.NumA Go.Proofs.YtkgginkdhggpgaaGreatDoor.NumB Go.Proofs.YtkgginkdhggpgaaGreatDoor.NumC Go.Proofs.YtkgginkdhggpgaaGreatDoor.NumD Go.Proofs.YtkgginkdhggpgaaGreatDoor.Cut

/-- what a comparison of floats tells -/
def fisR (op : List UInt8) (x y : Nat) : Bool × Int :=
  if op = [61, 61] then (D.order x y == some .eq, 0) else if op = [33, 61] then (D.order x y != some .eq, 0) else if op = [60] then (D.order x y == some .lt, 0) else if op = [60, 61] then (D.order x y == some .lt || D.order x y == some .eq, 0) else if op = [62] then (D.order x y == some .gt, 0) else if op = [62, 61] then (D.order x y == some .gt || D.order x y == some .eq, 0) else (false, 2)
/-- .. the document's way -/
theorem fisR_eq (op : List UInt8) (x y : Nat) : fisR op x y = if (isR op (decide (plc x < plc y)) (plc x == plc y)).2 = 0 ∧ (isN x || isN y) = true then (decide (op = [33, 61]), 0) else isR op (decide (plc x < plc y)) (plc x == plc y) := by
  rw [isR_key]
  have ho := order_eq x y
  unfold fisR
  cases h : (isN x || isN y) with
  | true =>
    rw [h, if_pos rfl] at ho
    rw [ho]
    clear ho h
    by_cases h0 : op = [61, 61]
    · subst h0; rfl
    by_cases h1 : op = [33, 61]
    · subst h1; rfl
    by_cases h2 : op = [60]
    · subst h2; rfl
    by_cases h3 : op = [60, 61]
    · subst h3; rfl
    by_cases h4 : op = [62]
    · subst h4; rfl
    by_cases h5 : op = [62, 61]
    · subst h5; rfl
    simp [h0, h1, h2, h3, h4, h5]
  | false =>
    simp only [h, Bool.false_eq_true, if_false, compare_key] at ho
    rw [ho]
    simp only [Bool.false_eq_true, and_false, if_false]
    clear ho h
    generalize plc x = a
    generalize plc y = b
    have e1 : (some (if a < b then Ordering.lt else if b < a then .gt else .eq) == some .eq) = (a == b) := by
      rw [Bool.eq_iff_iff]; by_cases p : a < b
      · rw [if_pos p]; simp; omega
      · rw [if_neg p]; by_cases q : b < a
        · rw [if_pos q]; simp; omega
        · rw [if_neg q]; simp; omega
    have e2 : (some (if a < b then Ordering.lt else if b < a then .gt else .eq) == some .lt) = decide (a < b) := by
      rw [Bool.eq_iff_iff]; by_cases p : a < b
      · rw [if_pos p]; simp [p]
      · rw [if_neg p]; by_cases q : b < a
        · rw [if_pos q]; simp; omega
        · rw [if_neg q]; simp; omega
    have e3 : (some (if a < b then Ordering.lt else if b < a then .gt else .eq) == some .gt) = decide (b < a) := by
      rw [Bool.eq_iff_iff]; by_cases p : a < b
      · rw [if_pos p]; simp; omega
      · rw [if_neg p]; by_cases q : b < a
        · rw [if_pos q]; simp [q]
        · rw [if_neg q]; simp; omega
    have e4 : (some (if a < b then Ordering.lt else if b < a then .gt else .eq) != some .eq) = (a != b) := by unfold bne; rw [e1]
    have e5 : (decide (a < b) || (a == b)) = decide (a ≤ b) := by rw [Bool.eq_iff_iff]; simp; omega
    have e6 : (decide (b < a) || (a == b)) = decide (b ≤ a) := by rw [Bool.eq_iff_iff]; simp; omega
    rw [e1, e2, e3, e4, e5, e6]
theorem fmt_eq : FloatKind.f64.format = D := rfl
set_option maxRecDepth 100000 in
set_option maxHeartbeats 2000000 in
theorem is_float (op : ByteArray) (x y : Nat) (w : World) :
    Calls Tryz.prog 26 #[.string op, .float .f64 x, .float .f64 y] w fun e w' => e = .returned (.tuple #[.bool (fisR op.toList x y).1, .int .i64 (fisR op.toList x y).2]) ∧ w' = w := by
  unfold fisR
  rw [← fmt_eq]
  generalize hk : FloatKind.f64.format.order x y = o
  by_cases h0 : op.toList = [61, 61]
  · obtain rfl := op_eq h0
    rcases o with _ | _ | _ | _ <;> (
      go_enter Tryz.func26, Tryz.ntmps26
      go_wp2
      refine bodyPost_ret (by simp [results, Tryz.results26, go_sem]; rfl) rfl ?_
      exact ⟨by first | rfl | (rw [h0]; rfl), rfl⟩)
  have g0 := op_ne h0
  by_cases h1 : op.toList = [33, 61]
  · obtain rfl := op_eq h1
    clear g0
    rcases o with _ | _ | _ | _ <;> (
      go_enter Tryz.func26, Tryz.ntmps26
      go_wp2
      refine bodyPost_ret (by simp [results, Tryz.results26, go_sem]; rfl) rfl ?_
      exact ⟨by first | rfl | (rw [h1]; rfl), rfl⟩)
  have g1 := op_ne h1
  by_cases h2 : op.toList = [60]
  · obtain rfl := op_eq h2
    clear g0
    clear g1
    rcases o with _ | _ | _ | _ <;> (
      go_enter Tryz.func26, Tryz.ntmps26
      go_wp2
      refine bodyPost_ret (by simp [results, Tryz.results26, go_sem]; rfl) rfl ?_
      exact ⟨by first | rfl | (rw [h2]; rfl), rfl⟩)
  have g2 := op_ne h2
  by_cases h3 : op.toList = [60, 61]
  · obtain rfl := op_eq h3
    clear g0
    clear g1
    clear g2
    rcases o with _ | _ | _ | _ <;> (
      go_enter Tryz.func26, Tryz.ntmps26
      go_wp2
      refine bodyPost_ret (by simp [results, Tryz.results26, go_sem]; rfl) rfl ?_
      exact ⟨by first | rfl | (rw [h3]; rfl), rfl⟩)
  have g3 := op_ne h3
  by_cases h4 : op.toList = [62]
  · obtain rfl := op_eq h4
    clear g0
    clear g1
    clear g2
    clear g3
    rcases o with _ | _ | _ | _ <;> (
      go_enter Tryz.func26, Tryz.ntmps26
      go_wp2
      refine bodyPost_ret (by simp [results, Tryz.results26, go_sem]; rfl) rfl ?_
      exact ⟨by first | rfl | (rw [h4]; rfl), rfl⟩)
  have g4 := op_ne h4
  by_cases h5 : op.toList = [62, 61]
  · obtain rfl := op_eq h5
    clear g0
    clear g1
    clear g2
    clear g3
    clear g4
    rcases o with _ | _ | _ | _ <;> (
      go_enter Tryz.func26, Tryz.ntmps26
      go_wp2
      refine bodyPost_ret (by simp [results, Tryz.results26, go_sem]; rfl) rfl ?_
      exact ⟨by first | rfl | (rw [h5]; rfl), rfl⟩)
  have g5 := op_ne h5
  go_enter Tryz.func26, Tryz.ntmps26
  go_wp2
  refine bodyPost_ret (by simp [results, Tryz.results26, go_sem]; rfl) rfl ?_
  exact ⟨rfl, rfl⟩
theorem float_is (op : ByteArray) (x y : Nat) (w : World) :
    Calls Tryz.prog 10 #[.string op, .int .u64 (x : Int), .int .u64 (y : Int)] w fun e w' => e = .returned (.tuple #[.bool (fisR op.toList x y).1, .int .i64 (fisR op.toList x y).2]) ∧ w' = w := by
  have hfb := from_bits
  have HI := Lib.hid (fun w => is_float op x y w)
  go_enter Tryz.func10, Tryz.ntmps10
  go_wp2_with (go_at_call 26; refine (HI.out _).mono ?_; rintro e w1 ⟨rfl, rfl⟩)
  refine bodyPost_ret (by simp [results, Tryz.results10, go_sem]; rfl) rfl ?_
  exact ⟨rfl, rfl⟩
set_option maxRecDepth 100000 in
set_option maxHeartbeats 1000000 in
theorem ref_float_is (op : ByteArray) (x y : Nat) (hx : x < 18446744073709551616) (hy : y < 18446744073709551616) (w : World) :
    Calls Tryz.prog 11 #[.string op, .int .u64 (x : Int), .int .u64 (y : Int)] w fun e w' => e = .returned (.tuple #[.bool (fisR op.toList x y).1, .int .i64 (fisR op.toList x y).2]) ∧ Below w.heap.size w w' := by
  rw [fisR_eq]
  have hbe : (op.toList == [33, 61]) = decide (op.toList = [33, 61]) := by rw [Bool.eq_iff_iff]; simp
  have H1 := Lib.hid (fun w => ref_place x hx w); have H2 := Lib.hid (fun w => ref_place y hy w)
  have H3 := Lib.hid (fun w => ref_is op (decide (plc x < plc y)) (plc x == plc y) w)
  have H4 := Lib.hid (fun w => ref_nan hx w); have H5 := Lib.hid (fun w => ref_nan hy w)
  generalize isR op.toList (decide (plc x < plc y)) (plc x == plc y) = r at *
  generalize plc x = a at *
  generalize plc y = b at *
  obtain ⟨r1, r2⟩ := r
  go_enter Tryz.func11, Tryz.ntmps11
  go_wp2_with (first | (go_at_call 27; first | (with_reducible refine (H1.out _).mono ?_; rintro e w1 ⟨rfl, rfl⟩) | (with_reducible refine (H2.out _).mono ?_; rintro e w1 ⟨rfl, rfl⟩)) | (go_at_call 28; with_reducible refine (H3.out _).mono ?_; rintro e w1 ⟨rfl, rfl⟩) | (go_at_call 29; first | (with_reducible refine (H4.out _).mono ?_; rintro e w1 ⟨rfl, rfl⟩) | (with_reducible refine (H5.out _).mono ?_; rintro e w1 ⟨rfl, rfl⟩)))
  all_goals (refine bodyPost_ret (by simp [results, Tryz.results11, go_sem]; rfl) rfl ?_; exact ⟨by first | rfl | (rw [← hbe]; rfl), Below.refl _ _⟩)
end Go.Proofs.YtkgginkdhggpgaaGreatDoor.NumE
