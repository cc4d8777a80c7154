/- Whole numbers' operators, walked: the document's; comparisons of whole numbers. (Printed by num_a.py.) -/
import Derived.Test.YtkgginkdhggpgaaGreatDoorProg
import Derived.Test.YtkgginkdhggpgaaGreatDoorNumPlain
import Derived.ProofKit
import Derived.WalkKit
import Derived.WalkLawsBesides
import Derived.Lib.Hide
import Derived.Below
namespace Go.Proofs.YtkgginkdhggpgaaGreatDoor.NumA
open Go.RowKit Go.Proofs.YtkgginkdhggpgaaGreatDoor.Flo

/-- what an operator of whole numbers tells -/
def intR (op : List UInt8) (a b : Int) : Int × Int :=
  if op = [43] then (wrap64 (a + b), 0) else if op = [45] then (wrap64 (a - b), 0) else if op = [42] then (wrap64 (a * b), 0)
  else if op = [47] then (if b = 0 then (0, 201) else (wrap64 (a.tdiv b), 0)) else if op = [37] then (if b = 0 then (0, 201) else (a.tmod b, 0)) else (0, 2)
/-- what a comparison tells, of what is below, equal -/
def isR (op : List UInt8) (lt eq : Bool) : Bool × Int :=
  if op = [61, 61] then (eq, 0) else if op = [33, 61] then (!eq, 0) else if op = [60] then (lt, 0) else if op = [60, 61] then (lt || eq, 0) else if op = [62] then (!lt && !eq, 0) else if op = [62, 61] then (!lt, 0) else (false, 2)
theorem op_ne {op : ByteArray} {l : List UInt8} (h : ¬ op.toList = l) : (op.toList == l) = false := beq_eq_false_iff_ne.2 h
theorem op_eq {op : ByteArray} {l : List UInt8} (h : op.toList = l) : op = { data := l.toArray } := by
  rw [ByteArray.toList_eq] at h
  cases op with | mk d => cases d with | mk x => simp at h; rw [h]
set_option maxHeartbeats 2000000 in
theorem ref_int (op : ByteArray) (a b : Int) (w : World) :
    Calls Tryz.prog 16 #[.string op, .int .i64 a, .int .i64 b] w fun e w' => e = .returned (.tuple #[.int .i64 (intR op.toList a b).1, .int .i64 (intR op.toList a b).2]) ∧ w' = w := by
  by_cases h0 : op.toList = [43]
  · obtain rfl := op_eq h0
    go_enter Tryz.func16, Tryz.ntmps16
    go_wp2
    refine bodyPost_ret (by simp [results, Tryz.results16, go_sem]; rfl) rfl ?_
    exact ⟨by rw [h0]; rfl, rfl⟩
  have g0 := op_ne h0
  by_cases h1 : op.toList = [45]
  · obtain rfl := op_eq h1
    clear g0
    go_enter Tryz.func16, Tryz.ntmps16
    go_wp2
    refine bodyPost_ret (by simp [results, Tryz.results16, go_sem]; rfl) rfl ?_
    exact ⟨by rw [h1]; rfl, rfl⟩
  have g1 := op_ne h1
  by_cases h2 : op.toList = [42]
  · obtain rfl := op_eq h2
    clear g0
    clear g1
    go_enter Tryz.func16, Tryz.ntmps16
    go_wp2
    refine bodyPost_ret (by simp [results, Tryz.results16, go_sem]; rfl) rfl ?_
    exact ⟨by rw [h2]; rfl, rfl⟩
  have g2 := op_ne h2
  by_cases h3 : op.toList = [47]
  · obtain rfl := op_eq h3
    clear g0
    clear g1
    clear g2
    by_cases hb : b = 0
    · subst hb
      go_enter Tryz.func16, Tryz.ntmps16
      go_wp2
      refine bodyPost_ret (by simp [results, Tryz.results16, go_sem]; rfl) rfl ?_
      exact ⟨by rw [h3]; rfl, rfl⟩
    · have hb2 : (b == 0) = false := by simpa using hb
      go_enter Tryz.func16, Tryz.ntmps16
      go_wp2
      refine bodyPost_ret (by simp [results, Tryz.results16, go_sem]; rfl) rfl ?_
      exact ⟨by rw [h3]; simp [intR, hb], rfl⟩
  have g3 := op_ne h3
  by_cases h4 : op.toList = [37]
  · obtain rfl := op_eq h4
    clear g0
    clear g1
    clear g2
    clear g3
    by_cases hb : b = 0
    · subst hb
      go_enter Tryz.func16, Tryz.ntmps16
      go_wp2
      refine bodyPost_ret (by simp [results, Tryz.results16, go_sem]; rfl) rfl ?_
      exact ⟨by rw [h4]; rfl, rfl⟩
    · have hb2 : (b == 0) = false := by simpa using hb
      go_enter Tryz.func16, Tryz.ntmps16
      go_wp2
      refine bodyPost_ret (by simp [results, Tryz.results16, go_sem]; rfl) rfl ?_
      exact ⟨by rw [h4]; simp [intR, hb], rfl⟩
  have g4 := op_ne h4
  have hr : intR op.toList a b = (0, 2) := by unfold intR; rw [if_neg h0, if_neg h1, if_neg h2, if_neg h3, if_neg h4]
  go_enter Tryz.func16, Tryz.ntmps16
  go_wp2
  refine bodyPost_ret (by simp [results, Tryz.results16, go_sem]; rfl) rfl ?_
  exact ⟨by rw [hr], rfl⟩
set_option maxHeartbeats 2000000 in
theorem ref_is (op : ByteArray) (lt eq : Bool) (w : World) :
    Calls Tryz.prog 28 #[.string op, .bool lt, .bool eq] w fun e w' => e = .returned (.tuple #[.bool (isR op.toList lt eq).1, .int .i64 (isR op.toList lt eq).2]) ∧ w' = w := by
  by_cases h0 : op.toList = [61, 61]
  · obtain rfl := op_eq h0
    cases lt <;> cases eq <;> (
      go_enter Tryz.func28, Tryz.ntmps28
      go_wp2
      refine bodyPost_ret (by simp [results, Tryz.results28, go_sem]; rfl) rfl ?_
      exact ⟨by rw [h0]; rfl, rfl⟩)
  have g0 := op_ne h0
  by_cases h1 : op.toList = [33, 61]
  · obtain rfl := op_eq h1
    clear g0
    cases lt <;> cases eq <;> (
      go_enter Tryz.func28, Tryz.ntmps28
      go_wp2
      refine bodyPost_ret (by simp [results, Tryz.results28, go_sem]; rfl) rfl ?_
      exact ⟨by rw [h1]; rfl, rfl⟩)
  have g1 := op_ne h1
  by_cases h2 : op.toList = [60]
  · obtain rfl := op_eq h2
    clear g0
    clear g1
    cases lt <;> cases eq <;> (
      go_enter Tryz.func28, Tryz.ntmps28
      go_wp2
      refine bodyPost_ret (by simp [results, Tryz.results28, go_sem]; rfl) rfl ?_
      exact ⟨by rw [h2]; rfl, rfl⟩)
  have g2 := op_ne h2
  by_cases h3 : op.toList = [60, 61]
  · obtain rfl := op_eq h3
    clear g0
    clear g1
    clear g2
    cases lt <;> cases eq <;> (
      go_enter Tryz.func28, Tryz.ntmps28
      go_wp2
      refine bodyPost_ret (by simp [results, Tryz.results28, go_sem]; rfl) rfl ?_
      exact ⟨by rw [h3]; rfl, rfl⟩)
  have g3 := op_ne h3
  by_cases h4 : op.toList = [62]
  · obtain rfl := op_eq h4
    clear g0
    clear g1
    clear g2
    clear g3
    cases lt <;> cases eq <;> (
      go_enter Tryz.func28, Tryz.ntmps28
      go_wp2
      refine bodyPost_ret (by simp [results, Tryz.results28, go_sem]; rfl) rfl ?_
      exact ⟨by rw [h4]; rfl, rfl⟩)
  have g4 := op_ne h4
  by_cases h5 : op.toList = [62, 61]
  · obtain rfl := op_eq h5
    clear g0
    clear g1
    clear g2
    clear g3
    clear g4
    cases lt <;> cases eq <;> (
      go_enter Tryz.func28, Tryz.ntmps28
      go_wp2
      refine bodyPost_ret (by simp [results, Tryz.results28, go_sem]; rfl) rfl ?_
      exact ⟨by rw [h5]; rfl, rfl⟩)
  have g5 := op_ne h5
  have hr : isR op.toList lt eq = (false, 2) := by unfold isR; rw [if_neg h0, if_neg h1, if_neg h2, if_neg h3, if_neg h4, if_neg h5]
  go_enter Tryz.func28, Tryz.ntmps28
  go_wp2
  refine bodyPost_ret (by simp [results, Tryz.results28, go_sem]; rfl) rfl ?_
  exact ⟨by rw [hr], rfl⟩
theorem isR_key (a b : Int) (op : List UInt8) : isR op (decide (a < b)) (a == b) = if op = [61, 61] then (a == b, 0) else if op = [33, 61] then (a != b, 0) else if op = [60] then (decide (a < b), 0) else if op = [60, 61] then (decide (a ≤ b), 0) else if op = [62] then (decide (b < a), 0) else if op = [62, 61] then (decide (b ≤ a), 0) else (false, 2) := by
  have e1 : (!(a == b)) = (a != b) := rfl
  have e2 : (decide (a < b) || (a == b)) = decide (a ≤ b) := by rw [Bool.eq_iff_iff]; simp; omega
  have e3 : (!decide (a < b) && !(a == b)) = decide (b < a) := by rw [Bool.eq_iff_iff]; simp; omega
  have e4 : (!decide (a < b)) = decide (b ≤ a) := by rw [Bool.eq_iff_iff]; simp
  unfold isR
  rw [← e3, ← e2, ← e4]
  rfl
set_option maxHeartbeats 2000000 in
theorem is_int (op : ByteArray) (a b : Int) (w : World) :
    Calls Tryz.prog 37 #[.string op, .int .i64 a, .int .i64 b] w fun e w' => e = .returned (.tuple #[.bool (isR op.toList (decide (a < b)) (a == b)).1, .int .i64 (isR op.toList (decide (a < b)) (a == b)).2]) ∧ w' = w := by
  rw [isR_key]
  by_cases h0 : op.toList = [61, 61]
  · obtain rfl := op_eq h0
    go_enter Tryz.func37, Tryz.ntmps37
    go_wp2
    refine bodyPost_ret (by simp [results, Tryz.results37, go_sem]; rfl) rfl ?_
    exact ⟨by first | rfl | (rw [h0]; rfl), rfl⟩
  have g0 := op_ne h0
  by_cases h1 : op.toList = [33, 61]
  · obtain rfl := op_eq h1
    clear g0
    go_enter Tryz.func37, Tryz.ntmps37
    go_wp2
    refine bodyPost_ret (by simp [results, Tryz.results37, go_sem]; rfl) rfl ?_
    exact ⟨by first | rfl | (rw [h1]; rfl), rfl⟩
  have g1 := op_ne h1
  by_cases h2 : op.toList = [60]
  · obtain rfl := op_eq h2
    clear g0
    clear g1
    go_enter Tryz.func37, Tryz.ntmps37
    go_wp2
    refine bodyPost_ret (by simp [results, Tryz.results37, go_sem]; rfl) rfl ?_
    exact ⟨by first | rfl | (rw [h2]; rfl), rfl⟩
  have g2 := op_ne h2
  by_cases h3 : op.toList = [60, 61]
  · obtain rfl := op_eq h3
    clear g0
    clear g1
    clear g2
    go_enter Tryz.func37, Tryz.ntmps37
    go_wp2
    refine bodyPost_ret (by simp [results, Tryz.results37, go_sem]; rfl) rfl ?_
    exact ⟨by first | rfl | (rw [h3]; rfl), rfl⟩
  have g3 := op_ne h3
  by_cases h4 : op.toList = [62]
  · obtain rfl := op_eq h4
    clear g0
    clear g1
    clear g2
    clear g3
    go_enter Tryz.func37, Tryz.ntmps37
    go_wp2
    refine bodyPost_ret (by simp [results, Tryz.results37, go_sem]; rfl) rfl ?_
    exact ⟨by first | rfl | (rw [h4]; rfl), rfl⟩
  have g4 := op_ne h4
  by_cases h5 : op.toList = [62, 61]
  · obtain rfl := op_eq h5
    clear g0
    clear g1
    clear g2
    clear g3
    clear g4
    go_enter Tryz.func37, Tryz.ntmps37
    go_wp2
    refine bodyPost_ret (by simp [results, Tryz.results37, go_sem]; rfl) rfl ?_
    exact ⟨by first | rfl | (rw [h5]; rfl), rfl⟩
  have g5 := op_ne h5
  go_enter Tryz.func37, Tryz.ntmps37
  go_wp2
  refine bodyPost_ret (by simp [results, Tryz.results37, go_sem]; rfl) rfl ?_
  exact ⟨rfl, rfl⟩
theorem int_is (op : ByteArray) (a b : Int) (w : World) :
    Calls Tryz.prog 17 #[.string op, .int .i64 a, .int .i64 b] w fun e w' => e = .returned (.tuple #[.bool (isR op.toList (decide (a < b)) (a == b)).1, .int .i64 (isR op.toList (decide (a < b)) (a == b)).2]) ∧ w' = w := by
  have HI := Lib.hid (fun w => is_int op a b w)
  go_enter Tryz.func17, Tryz.ntmps17
  go_wp2_with (go_at_call 37; refine (HI.out _).mono ?_; rintro e w1 ⟨rfl, rfl⟩)
  refine bodyPost_ret (by simp [results, Tryz.results17, go_sem]; rfl) rfl ?_
  exact ⟨rfl, rfl⟩
theorem ref_int_is (op : ByteArray) (a b : Int) (w : World) :
    Calls Tryz.prog 18 #[.string op, .int .i64 a, .int .i64 b] w fun e w' => e = .returned (.tuple #[.bool (isR op.toList (decide (a < b)) (a == b)).1, .int .i64 (isR op.toList (decide (a < b)) (a == b)).2]) ∧ w' = w := by
  have HI := Lib.hid (fun w => ref_is op (decide (a < b)) (a == b) w)
  go_enter Tryz.func18, Tryz.ntmps18
  go_wp2_with (go_at_call 28; refine (HI.out _).mono ?_; rintro e w1 ⟨rfl, rfl⟩)
  refine bodyPost_ret (by simp [results, Tryz.results18, go_sem]; rfl) rfl ?_
  exact ⟨rfl, rfl⟩
end Go.Proofs.YtkgginkdhggpgaaGreatDoor.NumA
