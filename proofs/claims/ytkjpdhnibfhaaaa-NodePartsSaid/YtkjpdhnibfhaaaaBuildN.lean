/- Rows of so many nodes, made. -/
import Derived.Test.YtkjpdhnibfhaaaaBuild
namespace Go.Proofs.Ytkjpdhnibfhaaaa.Build
open Go Go.RowKit Go.Proofs.Ytkjpdhnibfhaaaa.Nodey Go.Proofs.Ytkjpdhnibfhaaaa.NodeA Go.Proofs.Ytkjpdhnibfhaaaa.NodeB Go.Proofs.Ytkjpdhnibfhaaaa.NodeF Go.Proofs.Ytkjpdhnibfhaaaa.NodeI Go.Proofs.Ytkjpdhnibfhaaaa.NodeK Go.Proofs.Ytkjpdhnibfhaaaa.NodeM Go.Proofs.Ytkjpdhnibfhaaaa.NodeS Go.Proofs.Ytkjpdhnibfhaaaa.NodeT Go.Proofs.Ytkjpdhnibfhaaaa.NodeU Go.Proofs.Ytkjpdhnibfhaaaa.Cut

def rowOf : List (Nd × Option Addr × Nat) → List Value
  | [] => []
  | (x, p, c) :: l => .int .u8 (x.kind : Int) :: .string x.text :: .int .i64 x.num :: .int .i64 x.at_ :: .slice p x.kids.length c :: rowOf l
theorem nds_cells {w : World} {g : Nat} : ∀ (xs : List (Nd × Option Addr × Nat)) (o : Nat), (∀ j v, (rowOf xs)[j]? = some v → w.cell? ⟨g, o + j, none⟩ = some v) → (∀ e ∈ xs, Ready w e.2.1 e.2.2 e.1) → NdsAt w g o (xs.map (·.1))
  | [], _, _, _ => by rw [List.map_nil, NdsAt]; trivial
  | (x, p, c) :: xs, o, h, hr => by
    rw [List.map_cons, NdsAt]
    refine ⟨?_, nds_cells xs (o + 5) (fun j v hj => ?_) fun e he => hr e (List.mem_cons_of_mem _ he)⟩
    · obtain ⟨k, t, n, a, l⟩ := x
      have hx := hr _ (List.mem_cons_self ..)
      rw [NdAt]
      refine ⟨hx.text, hx.len, h 0 _ rfl, h 1 _ rfl, h 2 _ rfl, h 3 _ rfl, p, c, h 4 _ rfl, hx.cap, hx.kids⟩
    · have := h (5 + j) v (by simpa [rowOf, Nat.add_comm 5 j] using hj)
      rwa [show o + (5 + j) = o + 5 + j by omega] at this
theorem rowOf_len : ∀ xs, (rowOf xs).length = xs.length * 5
  | [] => rfl
  | (_, _, _) :: xs => by simp [rowOf, rowOf_len xs]; omega
theorem row_kids {w : World} (xs : List (Nd × Option Addr × Nat)) (hr : ∀ e ∈ xs, Ready w e.2.1 e.2.2 e.1) (hl : xs.length ≤ 1000000) : IsKids (w.alloc (.cells (rowOf xs).toArray 25)) (.slice (some ⟨w.heap.size, 0, none⟩) xs.length xs.length) (xs.map (·.1)) := by
  refine ⟨_, xs.length, by rw [List.length_map], Or.inr ⟨_, 0, rfl, nds_cells xs 0 (fun j v hj => ?_) fun e he => (hr e he).below ((Below.refl _ _).alloc (Nat.le_refl _) _)⟩, by simp, by simpa using hl⟩
  rw [Nat.zero_add]
  exact kernel_cell.trans (by simpa using hj)
theorem run_bs {o : Oper} {a : Act} {w w' : World} {t : TypeId} {n : Nat} {parts : Array (Nat × Operand)} {v : Value} (ho : o.op = .buildSlice t n parts) (h : (Instr.buildSlice t n (parts.map fun (i, x) => (i, a.eval x))).run Try.prog w = .ok v w') : (execOp a.eval o).run Try.prog w = .ok (.value v) w' := by
  simp only [execOp, ho, Sem.run_bind, h]
  rfl
section
variable {Q : Exit → Act → World → Prop} {specs : List BSpec} {ds : List Tmp} {a0 : Act} {w0 : World} {i : Nat} {o : Oper}
theorem bs_1 {x0 : Nd} {p0 : Option Addr} {c0 : Nat} (w : World) : (Instr.buildSlice 23 1 #[(0, .agg (nodeC x0 p0 c0))]).run Try.prog w = .ok (.slice (some ⟨w.heap.size, 0, none⟩) 1 1) (w.alloc (.cells (rowOf [(x0, p0, c0)]).toArray 25)) := by kernel_rfl
theorem st_build1 {j0 : Nat} {s0 : Tmp} {x0 : Nd} (hs : specs[i]? = some (.kids [x0])) (ho : o.op = .buildSlice 23 1 #[(0, .tmp s0)]) (d0 : (depsOf o).contains j0 = true) (t0 : ds.getD j0 0 = s0) (l0 : specs[j0]? = some (.node x0)) :
    StepT Try.prog Q (fun u => Below w0.heap.size w0 u) (FS specs w0) ds a0 i o := by
  intro a w hS _ _ hd K hK
  obtain ⟨v0, e0, f0⟩ := allDeps_get hd (by simpa using d0 : j0 ∈ depsOf o)
  rw [t0] at e0
  obtain ⟨p0, c0, rfl, r0⟩ := FS.of f0 l0
  have q0 := eval_tmp e0
  refine wp_val (v := .slice (some ⟨w.heap.size, 0, none⟩) 1 1) (w' := w.alloc (.cells (rowOf [(x0, p0, c0)]).toArray 25)) ?_ (hK.out _ _ (hS.alloc hS.size _) ((Below.refl _ _).alloc (Nat.le_refl _) _) ⟨_, hs, row_kids [(x0, p0, c0)] (fun e he => ?_) (by simp)⟩)
  · refine run_bs ho (v := .slice (some ⟨w.heap.size, 0, none⟩) 1 1) ?_
    simp only [List.map_toArray, List.map_cons, List.map_nil, q0]
    exact bs_1 w
  · simp only [List.mem_cons, List.not_mem_nil, or_false] at he
    rcases he with rfl <;> assumption
theorem bs_2 {x0 x1 : Nd} {p0 p1 : Option Addr} {c0 c1 : Nat} (w : World) : (Instr.buildSlice 23 2 #[(0, .agg (nodeC x0 p0 c0)), (1, .agg (nodeC x1 p1 c1))]).run Try.prog w = .ok (.slice (some ⟨w.heap.size, 0, none⟩) 2 2) (w.alloc (.cells (rowOf [(x0, p0, c0), (x1, p1, c1)]).toArray 25)) := by kernel_rfl
theorem st_build2 {j0 j1 : Nat} {s0 s1 : Tmp} {x0 x1 : Nd} (hs : specs[i]? = some (.kids [x0, x1])) (ho : o.op = .buildSlice 23 2 #[(0, .tmp s0), (1, .tmp s1)]) (d0 : (depsOf o).contains j0 = true) (t0 : ds.getD j0 0 = s0) (l0 : specs[j0]? = some (.node x0)) (d1 : (depsOf o).contains j1 = true) (t1 : ds.getD j1 0 = s1) (l1 : specs[j1]? = some (.node x1)) :
    StepT Try.prog Q (fun u => Below w0.heap.size w0 u) (FS specs w0) ds a0 i o := by
  intro a w hS _ _ hd K hK
  obtain ⟨v0, e0, f0⟩ := allDeps_get hd (by simpa using d0 : j0 ∈ depsOf o)
  rw [t0] at e0
  obtain ⟨p0, c0, rfl, r0⟩ := FS.of f0 l0
  have q0 := eval_tmp e0
  obtain ⟨v1, e1, f1⟩ := allDeps_get hd (by simpa using d1 : j1 ∈ depsOf o)
  rw [t1] at e1
  obtain ⟨p1, c1, rfl, r1⟩ := FS.of f1 l1
  have q1 := eval_tmp e1
  refine wp_val (v := .slice (some ⟨w.heap.size, 0, none⟩) 2 2) (w' := w.alloc (.cells (rowOf [(x0, p0, c0), (x1, p1, c1)]).toArray 25)) ?_ (hK.out _ _ (hS.alloc hS.size _) ((Below.refl _ _).alloc (Nat.le_refl _) _) ⟨_, hs, row_kids [(x0, p0, c0), (x1, p1, c1)] (fun e he => ?_) (by simp)⟩)
  · refine run_bs ho (v := .slice (some ⟨w.heap.size, 0, none⟩) 2 2) ?_
    simp only [List.map_toArray, List.map_cons, List.map_nil, q0, q1]
    exact bs_2 w
  · simp only [List.mem_cons, List.not_mem_nil, or_false] at he
    rcases he with rfl | rfl <;> assumption
theorem bs_3 {x0 x1 x2 : Nd} {p0 p1 p2 : Option Addr} {c0 c1 c2 : Nat} (w : World) : (Instr.buildSlice 23 3 #[(0, .agg (nodeC x0 p0 c0)), (1, .agg (nodeC x1 p1 c1)), (2, .agg (nodeC x2 p2 c2))]).run Try.prog w = .ok (.slice (some ⟨w.heap.size, 0, none⟩) 3 3) (w.alloc (.cells (rowOf [(x0, p0, c0), (x1, p1, c1), (x2, p2, c2)]).toArray 25)) := by kernel_rfl
theorem st_build3 {j0 j1 j2 : Nat} {s0 s1 s2 : Tmp} {x0 x1 x2 : Nd} (hs : specs[i]? = some (.kids [x0, x1, x2])) (ho : o.op = .buildSlice 23 3 #[(0, .tmp s0), (1, .tmp s1), (2, .tmp s2)]) (d0 : (depsOf o).contains j0 = true) (t0 : ds.getD j0 0 = s0) (l0 : specs[j0]? = some (.node x0)) (d1 : (depsOf o).contains j1 = true) (t1 : ds.getD j1 0 = s1) (l1 : specs[j1]? = some (.node x1)) (d2 : (depsOf o).contains j2 = true) (t2 : ds.getD j2 0 = s2) (l2 : specs[j2]? = some (.node x2)) :
    StepT Try.prog Q (fun u => Below w0.heap.size w0 u) (FS specs w0) ds a0 i o := by
  intro a w hS _ _ hd K hK
  obtain ⟨v0, e0, f0⟩ := allDeps_get hd (by simpa using d0 : j0 ∈ depsOf o)
  rw [t0] at e0
  obtain ⟨p0, c0, rfl, r0⟩ := FS.of f0 l0
  have q0 := eval_tmp e0
  obtain ⟨v1, e1, f1⟩ := allDeps_get hd (by simpa using d1 : j1 ∈ depsOf o)
  rw [t1] at e1
  obtain ⟨p1, c1, rfl, r1⟩ := FS.of f1 l1
  have q1 := eval_tmp e1
  obtain ⟨v2, e2, f2⟩ := allDeps_get hd (by simpa using d2 : j2 ∈ depsOf o)
  rw [t2] at e2
  obtain ⟨p2, c2, rfl, r2⟩ := FS.of f2 l2
  have q2 := eval_tmp e2
  refine wp_val (v := .slice (some ⟨w.heap.size, 0, none⟩) 3 3) (w' := w.alloc (.cells (rowOf [(x0, p0, c0), (x1, p1, c1), (x2, p2, c2)]).toArray 25)) ?_ (hK.out _ _ (hS.alloc hS.size _) ((Below.refl _ _).alloc (Nat.le_refl _) _) ⟨_, hs, row_kids [(x0, p0, c0), (x1, p1, c1), (x2, p2, c2)] (fun e he => ?_) (by simp)⟩)
  · refine run_bs ho (v := .slice (some ⟨w.heap.size, 0, none⟩) 3 3) ?_
    simp only [List.map_toArray, List.map_cons, List.map_nil, q0, q1, q2]
    exact bs_3 w
  · simp only [List.mem_cons, List.not_mem_nil, or_false] at he
    rcases he with rfl | rfl | rfl <;> assumption
theorem bs_4 {x0 x1 x2 x3 : Nd} {p0 p1 p2 p3 : Option Addr} {c0 c1 c2 c3 : Nat} (w : World) : (Instr.buildSlice 23 4 #[(0, .agg (nodeC x0 p0 c0)), (1, .agg (nodeC x1 p1 c1)), (2, .agg (nodeC x2 p2 c2)), (3, .agg (nodeC x3 p3 c3))]).run Try.prog w = .ok (.slice (some ⟨w.heap.size, 0, none⟩) 4 4) (w.alloc (.cells (rowOf [(x0, p0, c0), (x1, p1, c1), (x2, p2, c2), (x3, p3, c3)]).toArray 25)) := by kernel_rfl
theorem st_build4 {j0 j1 j2 j3 : Nat} {s0 s1 s2 s3 : Tmp} {x0 x1 x2 x3 : Nd} (hs : specs[i]? = some (.kids [x0, x1, x2, x3])) (ho : o.op = .buildSlice 23 4 #[(0, .tmp s0), (1, .tmp s1), (2, .tmp s2), (3, .tmp s3)]) (d0 : (depsOf o).contains j0 = true) (t0 : ds.getD j0 0 = s0) (l0 : specs[j0]? = some (.node x0)) (d1 : (depsOf o).contains j1 = true) (t1 : ds.getD j1 0 = s1) (l1 : specs[j1]? = some (.node x1)) (d2 : (depsOf o).contains j2 = true) (t2 : ds.getD j2 0 = s2) (l2 : specs[j2]? = some (.node x2)) (d3 : (depsOf o).contains j3 = true) (t3 : ds.getD j3 0 = s3) (l3 : specs[j3]? = some (.node x3)) :
    StepT Try.prog Q (fun u => Below w0.heap.size w0 u) (FS specs w0) ds a0 i o := by
  intro a w hS _ _ hd K hK
  obtain ⟨v0, e0, f0⟩ := allDeps_get hd (by simpa using d0 : j0 ∈ depsOf o)
  rw [t0] at e0
  obtain ⟨p0, c0, rfl, r0⟩ := FS.of f0 l0
  have q0 := eval_tmp e0
  obtain ⟨v1, e1, f1⟩ := allDeps_get hd (by simpa using d1 : j1 ∈ depsOf o)
  rw [t1] at e1
  obtain ⟨p1, c1, rfl, r1⟩ := FS.of f1 l1
  have q1 := eval_tmp e1
  obtain ⟨v2, e2, f2⟩ := allDeps_get hd (by simpa using d2 : j2 ∈ depsOf o)
  rw [t2] at e2
  obtain ⟨p2, c2, rfl, r2⟩ := FS.of f2 l2
  have q2 := eval_tmp e2
  obtain ⟨v3, e3, f3⟩ := allDeps_get hd (by simpa using d3 : j3 ∈ depsOf o)
  rw [t3] at e3
  obtain ⟨p3, c3, rfl, r3⟩ := FS.of f3 l3
  have q3 := eval_tmp e3
  refine wp_val (v := .slice (some ⟨w.heap.size, 0, none⟩) 4 4) (w' := w.alloc (.cells (rowOf [(x0, p0, c0), (x1, p1, c1), (x2, p2, c2), (x3, p3, c3)]).toArray 25)) ?_ (hK.out _ _ (hS.alloc hS.size _) ((Below.refl _ _).alloc (Nat.le_refl _) _) ⟨_, hs, row_kids [(x0, p0, c0), (x1, p1, c1), (x2, p2, c2), (x3, p3, c3)] (fun e he => ?_) (by simp)⟩)
  · refine run_bs ho (v := .slice (some ⟨w.heap.size, 0, none⟩) 4 4) ?_
    simp only [List.map_toArray, List.map_cons, List.map_nil, q0, q1, q2, q3]
    exact bs_4 w
  · simp only [List.mem_cons, List.not_mem_nil, or_false] at he
    rcases he with rfl | rfl | rfl | rfl <;> assumption
theorem bs_14 {x0 x1 x2 x3 x4 x5 x6 x7 x8 x9 x10 x11 x12 x13 : Nd} {p0 p1 p2 p3 p4 p5 p6 p7 p8 p9 p10 p11 p12 p13 : Option Addr} {c0 c1 c2 c3 c4 c5 c6 c7 c8 c9 c10 c11 c12 c13 : Nat} (w : World) : (Instr.buildSlice 23 14 #[(0, .agg (nodeC x0 p0 c0)), (1, .agg (nodeC x1 p1 c1)), (2, .agg (nodeC x2 p2 c2)), (3, .agg (nodeC x3 p3 c3)), (4, .agg (nodeC x4 p4 c4)), (5, .agg (nodeC x5 p5 c5)), (6, .agg (nodeC x6 p6 c6)), (7, .agg (nodeC x7 p7 c7)), (8, .agg (nodeC x8 p8 c8)), (9, .agg (nodeC x9 p9 c9)), (10, .agg (nodeC x10 p10 c10)), (11, .agg (nodeC x11 p11 c11)), (12, .agg (nodeC x12 p12 c12)), (13, .agg (nodeC x13 p13 c13))]).run Try.prog w = .ok (.slice (some ⟨w.heap.size, 0, none⟩) 14 14) (w.alloc (.cells (rowOf [(x0, p0, c0), (x1, p1, c1), (x2, p2, c2), (x3, p3, c3), (x4, p4, c4), (x5, p5, c5), (x6, p6, c6), (x7, p7, c7), (x8, p8, c8), (x9, p9, c9), (x10, p10, c10), (x11, p11, c11), (x12, p12, c12), (x13, p13, c13)]).toArray 25)) := by kernel_rfl
theorem st_build14 {j0 j1 j2 j3 j4 j5 j6 j7 j8 j9 j10 j11 j12 j13 : Nat} {s0 s1 s2 s3 s4 s5 s6 s7 s8 s9 s10 s11 s12 s13 : Tmp} {x0 x1 x2 x3 x4 x5 x6 x7 x8 x9 x10 x11 x12 x13 : Nd} (hs : specs[i]? = some (.kids [x0, x1, x2, x3, x4, x5, x6, x7, x8, x9, x10, x11, x12, x13])) (ho : o.op = .buildSlice 23 14 #[(0, .tmp s0), (1, .tmp s1), (2, .tmp s2), (3, .tmp s3), (4, .tmp s4), (5, .tmp s5), (6, .tmp s6), (7, .tmp s7), (8, .tmp s8), (9, .tmp s9), (10, .tmp s10), (11, .tmp s11), (12, .tmp s12), (13, .tmp s13)]) (d0 : (depsOf o).contains j0 = true) (t0 : ds.getD j0 0 = s0) (l0 : specs[j0]? = some (.node x0)) (d1 : (depsOf o).contains j1 = true) (t1 : ds.getD j1 0 = s1) (l1 : specs[j1]? = some (.node x1)) (d2 : (depsOf o).contains j2 = true) (t2 : ds.getD j2 0 = s2) (l2 : specs[j2]? = some (.node x2)) (d3 : (depsOf o).contains j3 = true) (t3 : ds.getD j3 0 = s3) (l3 : specs[j3]? = some (.node x3)) (d4 : (depsOf o).contains j4 = true) (t4 : ds.getD j4 0 = s4) (l4 : specs[j4]? = some (.node x4)) (d5 : (depsOf o).contains j5 = true) (t5 : ds.getD j5 0 = s5) (l5 : specs[j5]? = some (.node x5)) (d6 : (depsOf o).contains j6 = true) (t6 : ds.getD j6 0 = s6) (l6 : specs[j6]? = some (.node x6)) (d7 : (depsOf o).contains j7 = true) (t7 : ds.getD j7 0 = s7) (l7 : specs[j7]? = some (.node x7)) (d8 : (depsOf o).contains j8 = true) (t8 : ds.getD j8 0 = s8) (l8 : specs[j8]? = some (.node x8)) (d9 : (depsOf o).contains j9 = true) (t9 : ds.getD j9 0 = s9) (l9 : specs[j9]? = some (.node x9)) (d10 : (depsOf o).contains j10 = true) (t10 : ds.getD j10 0 = s10) (l10 : specs[j10]? = some (.node x10)) (d11 : (depsOf o).contains j11 = true) (t11 : ds.getD j11 0 = s11) (l11 : specs[j11]? = some (.node x11)) (d12 : (depsOf o).contains j12 = true) (t12 : ds.getD j12 0 = s12) (l12 : specs[j12]? = some (.node x12)) (d13 : (depsOf o).contains j13 = true) (t13 : ds.getD j13 0 = s13) (l13 : specs[j13]? = some (.node x13)) :
    StepT Try.prog Q (fun u => Below w0.heap.size w0 u) (FS specs w0) ds a0 i o := by
  intro a w hS _ _ hd K hK
  obtain ⟨v0, e0, f0⟩ := allDeps_get hd (by simpa using d0 : j0 ∈ depsOf o)
  rw [t0] at e0
  obtain ⟨p0, c0, rfl, r0⟩ := FS.of f0 l0
  have q0 := eval_tmp e0
  obtain ⟨v1, e1, f1⟩ := allDeps_get hd (by simpa using d1 : j1 ∈ depsOf o)
  rw [t1] at e1
  obtain ⟨p1, c1, rfl, r1⟩ := FS.of f1 l1
  have q1 := eval_tmp e1
  obtain ⟨v2, e2, f2⟩ := allDeps_get hd (by simpa using d2 : j2 ∈ depsOf o)
  rw [t2] at e2
  obtain ⟨p2, c2, rfl, r2⟩ := FS.of f2 l2
  have q2 := eval_tmp e2
  obtain ⟨v3, e3, f3⟩ := allDeps_get hd (by simpa using d3 : j3 ∈ depsOf o)
  rw [t3] at e3
  obtain ⟨p3, c3, rfl, r3⟩ := FS.of f3 l3
  have q3 := eval_tmp e3
  obtain ⟨v4, e4, f4⟩ := allDeps_get hd (by simpa using d4 : j4 ∈ depsOf o)
  rw [t4] at e4
  obtain ⟨p4, c4, rfl, r4⟩ := FS.of f4 l4
  have q4 := eval_tmp e4
  obtain ⟨v5, e5, f5⟩ := allDeps_get hd (by simpa using d5 : j5 ∈ depsOf o)
  rw [t5] at e5
  obtain ⟨p5, c5, rfl, r5⟩ := FS.of f5 l5
  have q5 := eval_tmp e5
  obtain ⟨v6, e6, f6⟩ := allDeps_get hd (by simpa using d6 : j6 ∈ depsOf o)
  rw [t6] at e6
  obtain ⟨p6, c6, rfl, r6⟩ := FS.of f6 l6
  have q6 := eval_tmp e6
  obtain ⟨v7, e7, f7⟩ := allDeps_get hd (by simpa using d7 : j7 ∈ depsOf o)
  rw [t7] at e7
  obtain ⟨p7, c7, rfl, r7⟩ := FS.of f7 l7
  have q7 := eval_tmp e7
  obtain ⟨v8, e8, f8⟩ := allDeps_get hd (by simpa using d8 : j8 ∈ depsOf o)
  rw [t8] at e8
  obtain ⟨p8, c8, rfl, r8⟩ := FS.of f8 l8
  have q8 := eval_tmp e8
  obtain ⟨v9, e9, f9⟩ := allDeps_get hd (by simpa using d9 : j9 ∈ depsOf o)
  rw [t9] at e9
  obtain ⟨p9, c9, rfl, r9⟩ := FS.of f9 l9
  have q9 := eval_tmp e9
  obtain ⟨v10, e10, f10⟩ := allDeps_get hd (by simpa using d10 : j10 ∈ depsOf o)
  rw [t10] at e10
  obtain ⟨p10, c10, rfl, r10⟩ := FS.of f10 l10
  have q10 := eval_tmp e10
  obtain ⟨v11, e11, f11⟩ := allDeps_get hd (by simpa using d11 : j11 ∈ depsOf o)
  rw [t11] at e11
  obtain ⟨p11, c11, rfl, r11⟩ := FS.of f11 l11
  have q11 := eval_tmp e11
  obtain ⟨v12, e12, f12⟩ := allDeps_get hd (by simpa using d12 : j12 ∈ depsOf o)
  rw [t12] at e12
  obtain ⟨p12, c12, rfl, r12⟩ := FS.of f12 l12
  have q12 := eval_tmp e12
  obtain ⟨v13, e13, f13⟩ := allDeps_get hd (by simpa using d13 : j13 ∈ depsOf o)
  rw [t13] at e13
  obtain ⟨p13, c13, rfl, r13⟩ := FS.of f13 l13
  have q13 := eval_tmp e13
  refine wp_val (v := .slice (some ⟨w.heap.size, 0, none⟩) 14 14) (w' := w.alloc (.cells (rowOf [(x0, p0, c0), (x1, p1, c1), (x2, p2, c2), (x3, p3, c3), (x4, p4, c4), (x5, p5, c5), (x6, p6, c6), (x7, p7, c7), (x8, p8, c8), (x9, p9, c9), (x10, p10, c10), (x11, p11, c11), (x12, p12, c12), (x13, p13, c13)]).toArray 25)) ?_ (hK.out _ _ (hS.alloc hS.size _) ((Below.refl _ _).alloc (Nat.le_refl _) _) ⟨_, hs, row_kids [(x0, p0, c0), (x1, p1, c1), (x2, p2, c2), (x3, p3, c3), (x4, p4, c4), (x5, p5, c5), (x6, p6, c6), (x7, p7, c7), (x8, p8, c8), (x9, p9, c9), (x10, p10, c10), (x11, p11, c11), (x12, p12, c12), (x13, p13, c13)] (fun e he => ?_) (by simp)⟩)
  · refine run_bs ho (v := .slice (some ⟨w.heap.size, 0, none⟩) 14 14) ?_
    simp only [List.map_toArray, List.map_cons, List.map_nil, q0, q1, q2, q3, q4, q5, q6, q7, q8, q9, q10, q11, q12, q13]
    exact bs_14 w
  · simp only [List.mem_cons, List.not_mem_nil, or_false] at he
    rcases he with rfl | rfl | rfl | rfl | rfl | rfl | rfl | rfl | rfl | rfl | rfl | rfl | rfl | rfl <;> assumption
end
end Go.Proofs.Ytkjpdhnibfhaaaa.Build
