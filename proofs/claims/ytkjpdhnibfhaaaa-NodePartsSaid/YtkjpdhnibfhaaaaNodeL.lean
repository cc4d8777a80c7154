/- node's looks: the shape of each kind, in the order of the program. No function of a program is walked. -/
import Derived.Test.YtkjpdhnibfhaaaaNodeK
namespace Go.Proofs.Ytkjpdhnibfhaaaa.NodeL
open Go.RowKit Go.Proofs.Ytkjpdhnibfhaaaa.Nodey Go.Proofs.Ytkjpdhnibfhaaaa.NodeH Go.Proofs.Ytkjpdhnibfhaaaa.NodeI Go.Proofs.Ytkjpdhnibfhaaaa.NodeK

section
variable {d : Bool} {tt : ByteArray} {nn aa : Int} {l : List Nd}
theorem shape_1 : shapeB d (.mk 1 tt nn aa l) = ((nameB tt.data.toList && nn == 0) && areB l (fun k => [2, 4].contains k) 0 l.length) := by
  rw [areB_all rfl, in2]; simp [shapeB, Nd.text, Nd.num, Nd.kids, Nd.kind]
theorem shape_2 : shapeB d (.mk 2 tt nn aa l) = ((nameB tt.data.toList && nn == 0) && areB l (fun k => [3].contains k) 0 l.length) := by
  rw [areB_all rfl, in1]; simp [shapeB, Nd.text, Nd.num, Nd.kids, Nd.kind]
theorem shape_5 : shapeB d (.mk 5 tt nn aa l) = ((tt.data.toList == [] && nn == 0) && areB l (fun k => [3].contains k) 0 l.length) := by
  rw [areB_all rfl, in1]; simp [shapeB, Nd.text, Nd.num, Nd.kids, Nd.kind]
theorem shape_3 : shapeB d (.mk 3 tt nn aa l) = ((nameB tt.data.toList && nn == 0) && allB [typedK] l) := by
  rw [allB_1]; simp [shapeB, Nd.text, Nd.num, Nd.kids, Nd.kind, Bool.and_assoc]
theorem shape_8 : shapeB d (.mk 8 tt nn aa l) = ((tt.data.toList == [] && nn == 0) && allB [typedK] l) := by
  rw [allB_1]; simp [shapeB, Nd.text, Nd.num, Nd.kids, Nd.kind, Bool.and_assoc]
theorem shape_4 : shapeB d (.mk 4 tt nn aa l) = ((nameB tt.data.toList && nn == 0) && allB [fun k => [5].contains k, fun k => [6].contains k, fun k => [9].contains k] l) := by
  rw [allB_3]; simp [shapeB, Nd.text, Nd.num, Nd.kids, Nd.kind]
theorem shape_6 : shapeB d (.mk 6 tt nn aa l) = ((tt.data.toList == [] && nn == 0) && areB l typedK 0 l.length) := by
  rw [areB_all rfl]; simp [shapeB, Nd.text, Nd.num, Nd.kids, Nd.kind]
theorem shape_7 : shapeB d (.mk 7 tt nn aa l) = ((nameB tt.data.toList && nn == 0) && allB [] l) := by
  rw [allB_0]; simp [shapeB, Nd.text, Nd.num, Nd.kids, Nd.kind]
theorem shape_9 : shapeB d (.mk 9 tt nn aa l) = ((tt.data.toList == [] && nn == 0) && areB l statedK 0 l.length) := by
  rw [areB_all rfl]; simp [shapeB, Nd.text, Nd.num, Nd.kids, Nd.kind]
theorem shape_10 (h : l.length = 1 ∨ l.length = 2) : shapeB d (.mk 10 tt nn aa l) = ((nameB tt.data.toList && nn == 0) && (areB l typedK 0 1 && areB l saidK 1 l.length)) := by
  rw [areB_take, areB_drop rfl]
  rcases h with h | h <;> simp [shapeB, Nd.text, Nd.num, Nd.kids, Nd.kind, h, Bool.and_assoc]
theorem shape_10n (h1 : l.length ≠ 1) (h2 : l.length ≠ 2) : shapeB d (.mk 10 tt nn aa l) = ((nameB tt.data.toList && nn == 0) && false) := by
  simp [shapeB, Nd.text, Nd.num, Nd.kids, Nd.kind, h1, h2]
theorem shape_11 : shapeB d (.mk 11 tt nn aa l) = sidesB (.mk 11 tt nn aa l) := by
  unfold sidesB
  rw [areB_take, areB_drop rfl, areB_drop rfl, in1 25, in1 28]
  by_cases c1 : (l.length : Int) - nn = 1 <;> by_cases c2 : 1 < nn <;> by_cases c3 : (l.length : Int) - nn = nn <;> rw [Bool.eq_iff_iff] <;> simp [shapeB, Nd.text, Nd.num, Nd.kids, Nd.kind, c1, c2] <;> (intros; exact (@decide_eq_true_iff _ _).symm)
theorem shape_12 : shapeB d (.mk 12 tt nn aa l) = sidesB (.mk 12 tt nn aa l) := by
  unfold sidesB
  rw [areB_drop rfl, areB_drop rfl, in1 28]
  by_cases c1 : (l.length : Int) - nn = 1 <;> by_cases c2 : 1 < nn <;> by_cases c3 : (l.length : Int) - nn = nn <;> rw [Bool.eq_iff_iff] <;> simp [shapeB, Nd.text, Nd.num, Nd.kids, Nd.kind, c1, c2, c3] <;> (intros; exact (@decide_eq_true_iff _ _).symm)
theorem shape_13 (h : l.length = 2 ∨ l.length = 3) : shapeB d (.mk 13 tt nn aa l) = ((tt.data.toList == [] && nn == 0) && (areB l saidK 0 1 && (areB l (fun k => [9].contains k) 1 2 && areB l (fun k => [9, 13].contains k) 2 l.length))) := by
  rw [areB_take, areB_eq, areB_drop rfl, in1, in2, List.drop_take]
  rcases h with h | h <;> simp [shapeB, Nd.text, Nd.num, Nd.kids, Nd.kind, h, Bool.and_assoc]
theorem shape_13n (h1 : l.length ≠ 2) (h2 : l.length ≠ 3) : shapeB d (.mk 13 tt nn aa l) = ((tt.data.toList == [] && nn == 0) && false) := by
  simp [shapeB, Nd.text, Nd.num, Nd.kids, Nd.kind, h1, h2]
theorem shape_14 (h : l.length = 1 ∨ l.length = 2) : shapeB d (.mk 14 tt nn aa l) = (((tt.data.toList == [] || nameB tt.data.toList) && nn == 0) && (areB l saidK 0 (l.length - 1) && areB l (fun k => [9].contains k) (l.length - 1) l.length)) := by
  rw [areB_take, areB_drop rfl, in1]
  rcases h with h | h <;> simp [shapeB, Nd.text, Nd.num, Nd.kids, Nd.kind, h, Bool.and_assoc]
theorem shape_14n (h1 : l.length ≠ 1) (h2 : l.length ≠ 2) : shapeB d (.mk 14 tt nn aa l) = (((tt.data.toList == [] || nameB tt.data.toList) && nn == 0) && false) := by
  simp [shapeB, Nd.text, Nd.num, Nd.kids, Nd.kind, h1, h2]
theorem shape_15 (h : 1 ≤ l.length) : shapeB d (.mk 15 tt nn aa l) = ((tt.data.toList == [] && nn == 0) && (areB l saidK 0 1 && areB l (fun k => [16].contains k) 1 l.length)) := by
  rw [areB_take, areB_drop rfl, in1]
  simp [shapeB, Nd.text, Nd.num, Nd.kids, Nd.kind, h, Bool.and_assoc]
theorem shape_15n (h : ¬ 1 ≤ l.length) : shapeB d (.mk 15 tt nn aa l) = ((tt.data.toList == [] && nn == 0) && false) := by
  simp [shapeB, Nd.text, Nd.num, Nd.kids, Nd.kind, h]
theorem shape_16 (h : 1 ≤ l.length) : shapeB d (.mk 16 tt nn aa l) = ((tt.data.toList == [] && nn == 0) && (areB l saidK 0 (l.length - 1) && areB l (fun k => [9].contains k) (l.length - 1) l.length)) := by
  rw [areB_take, areB_drop rfl, in1]
  simp [shapeB, Nd.text, Nd.num, Nd.kids, Nd.kind, h, Bool.and_assoc]
theorem shape_16n (h : ¬ 1 ≤ l.length) : shapeB d (.mk 16 tt nn aa l) = ((tt.data.toList == [] && nn == 0) && false) := by
  simp [shapeB, Nd.text, Nd.num, Nd.kids, Nd.kind, h]
theorem shape_17 : shapeB d (.mk 17 tt nn aa l) = ((tt.data.toList == [] && nn == 0) && areB l saidK 0 l.length) := by
  rw [areB_all rfl]; simp [shapeB, Nd.text, Nd.num, Nd.kids, Nd.kind]
theorem shape_18 : shapeB d (.mk 18 tt nn aa l) = (((tt.data.toList == [] || nameB tt.data.toList) && nn == 0) && allB [] l) := by
  rw [allB_0]; simp [shapeB, Nd.text, Nd.num, Nd.kids, Nd.kind]
theorem shape_19 : shapeB d (.mk 19 tt nn aa l) = (((tt.data.toList == [] || nameB tt.data.toList) && nn == 0) && allB [] l) := by
  rw [allB_0]; simp [shapeB, Nd.text, Nd.num, Nd.kids, Nd.kind]
theorem shape_20 : shapeB d (.mk 20 tt nn aa l) = ((tt.data.toList == [] && nn == 0) && allB [fun k => [28].contains k] l) := by
  rw [allB_1, in1]; simp [shapeB, Nd.text, Nd.num, Nd.kids, Nd.kind, Bool.and_assoc]
theorem shape_21 : shapeB d (.mk 21 tt nn aa l) = ((wholeB tt.data.toList && nn == 0) && allB [] l) := by
  rw [allB_0]; simp [shapeB, Nd.text, Nd.num, Nd.kids, Nd.kind]
theorem shape_22 : shapeB d (.mk 22 tt nn aa l) = ((pointB tt.data.toList && nn == 0) && allB [] l) := by
  rw [allB_0]; simp [shapeB, Nd.text, Nd.num, Nd.kids, Nd.kind]
theorem shape_23 : shapeB d (.mk 23 tt nn aa l) = ((nn == 0) && allB [] l) := by
  rw [allB_0]; simp [shapeB, Nd.num, Nd.kids, Nd.kind]
theorem shape_24 : shapeB d (.mk 24 tt nn aa l) = ((tt.data.toList == [] && (nn == 0 || nn == 1)) && allB [] l) := by
  rw [allB_0]; simp [shapeB, Nd.text, Nd.num, Nd.kids, Nd.kind]
theorem shape_25 : shapeB d (.mk 25 tt nn aa l) = ((nameB tt.data.toList && nn == 0) && allB [] l) := by
  rw [allB_0]; simp [shapeB, Nd.text, Nd.num, Nd.kids, Nd.kind]
theorem shape_26 : shapeB d (.mk 26 tt nn aa l) = (((tt.data.toList == [45] || tt.data.toList == [33]) && nn == 0) && allB [saidK] l) := by
  rw [allB_1]; simp [shapeB, Nd.text, Nd.num, Nd.kids, Nd.kind, Bool.and_assoc]
theorem shape_27 : shapeB d (.mk 27 tt nn aa l) = ((opsL.contains tt.data.toList && nn == 0) && allB [saidK, saidK] l) := by
  rw [allB_2]; simp [shapeB, Nd.text, Nd.num, Nd.kids, Nd.kind, Bool.and_assoc]
theorem shape_28 : shapeB d (.mk 28 tt nn aa l) = ((nameB tt.data.toList && nn == 0) && areB l saidK 0 l.length) := by
  rw [areB_all rfl]; simp [shapeB, Nd.text, Nd.num, Nd.kids, Nd.kind]
theorem shape_29 : shapeB d (.mk 29 tt nn aa l) = ((tt.data.toList == [] && nn == 0) && allB [saidK, saidK] l) := by
  rw [allB_2]; simp [shapeB, Nd.text, Nd.num, Nd.kids, Nd.kind, Bool.and_assoc]
theorem shape_30 : shapeB d (.mk 30 tt nn aa l) = ((tt.data.toList == [] && nn == 0) && allB [saidK, saidK] l) := by
  rw [allB_2]; simp [shapeB, Nd.text, Nd.num, Nd.kids, Nd.kind, Bool.and_assoc]
theorem shape_31 : shapeB d (.mk 31 tt nn aa l) = ((nameB tt.data.toList && nn == 0) && allB [saidK] l) := by
  rw [allB_1]; simp [shapeB, Nd.text, Nd.num, Nd.kids, Nd.kind, Bool.and_assoc]
theorem shape_34 : shapeB d (.mk 34 tt nn aa l) = ((nameB tt.data.toList && nn == 0) && allB [saidK] l) := by
  rw [allB_1]; simp [shapeB, Nd.text, Nd.num, Nd.kids, Nd.kind, Bool.and_assoc]
theorem shape_32 (h : 1 ≤ l.length) : shapeB d (.mk 32 tt nn aa l) = ((tt.data.toList == [] && nn == 0) && (areB l (fun k => [8].contains k) 0 1 && areB l saidK 1 l.length)) := by
  rw [areB_take, areB_drop rfl, in1]
  simp [shapeB, Nd.text, Nd.num, Nd.kids, Nd.kind, h, Bool.and_assoc]
theorem shape_32n (h : ¬ 1 ≤ l.length) : shapeB d (.mk 32 tt nn aa l) = ((tt.data.toList == [] && nn == 0) && false) := by
  simp [shapeB, Nd.text, Nd.num, Nd.kids, Nd.kind, h]
theorem shape_33 : shapeB d (.mk 33 tt nn aa l) = ((nameB tt.data.toList && nn == 0) && areB l (fun k => [34].contains k) 0 l.length) := by
  rw [areB_all rfl, in1]; simp [shapeB, Nd.text, Nd.num, Nd.kids, Nd.kind]
theorem shape_35 : shapeB d (.mk 35 tt nn aa l) = ((d && tt.data.toList == [] && decide (0 ≤ nn) && decide (nn ≤ 99)) && allB [] l) := by
  rw [allB_0]; rfl
theorem shape_not {k : Nat} (h : k = 0 ∨ 36 ≤ k) : shapeB d (.mk k tt nn aa l) = false := by
  rcases h with h | h
  · subst h; rfl
  · obtain ⟨m, rfl⟩ := Nat.exists_eq_add_of_le h
    rw [Nat.add_comm]
    unfold shapeB
    simp [Nd.kind]
end
end Go.Proofs.Ytkjpdhnibfhaaaa.NodeL
