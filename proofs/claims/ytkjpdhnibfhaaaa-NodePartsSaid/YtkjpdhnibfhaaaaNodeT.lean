/- node.Right, walked: a tree that is none is caught. -/
import Derived.Test.YtkjpdhnibfhaaaaNodeS
import Derived.Defers
import Derived.Recover
import Derived.Carry
namespace Go.Proofs.Ytkjpdhnibfhaaaa.NodeT
open Go.RowKit Go.Proofs.Ytkjpdhnibfhaaaa.Nodey Go.Proofs.Ytkjpdhnibfhaaaa.NodeA Go.Proofs.Ytkjpdhnibfhaaaa.NodeB Go.Proofs.Ytkjpdhnibfhaaaa.NodeF Go.Proofs.Ytkjpdhnibfhaaaa.NodeI Go.Proofs.Ytkjpdhnibfhaaaa.NodeK Go.Proofs.Ytkjpdhnibfhaaaa.NodeS Go.Proofs.Ytkjpdhnibfhaaaa.Cut

theorem cells1 {w : World} {b : Nat} {u : Value} {t : TypeId} (h : w.heap[b]? = some (.cells #[u] t (0, 0))) : w.cell? ⟨b, 0, none⟩ = some u ∧ w.frozen? ⟨b, 0, none⟩ = false :=
  ⟨cell_of_row w b 0 #[u] t (0, 0) h, frozen_of_row w b 0 #[u] t h⟩
/-- nothing to catch -/
theorem catch_idle (g : Addr) (w : World) :
    CallsD Try.prog 21 #[.pointer (some g)] .returning w fun e u' w' => e = .returned (.tuple #[]) ∧ u' = .returning ∧ w' = w := by
  refine callsD_of_wpS Try.func21 rfl fun c₀ cs hu => ?_
  apply wpS_seq
  apply wpS_region
  simp [wpOpsS, go_sem, recoverD, hu, Try.ntmps21, Exit.thenS]
  refine wpS_of_wp ?_
  simp only [Array.replicate_succ, Array.replicate_zero, List.push_toArray, List.append_toArray, List.nil_append, List.cons_append, List.setIfInBounds_toArray, List.set_cons_succ, List.set_cons_zero]
  go_wp2
  cases c₀
  simp_all [bodyPostS, results, Try.results21]
set_option maxRecDepth 100000 in
set_option maxHeartbeats 1000000 in
/-- what is wrong is caught -/
theorem catch_thrown {g B : Nat} {b : Bool} {w : World} (hg : w.heap[g]? = some (.cells #[.bool b] 4 (0, 0))) (hBg : B ≤ g) :
    CallsD Try.prog 21 #[.pointer (some ⟨g, 0, none⟩)] (.panicking thrownW) w fun x u' w' =>
      x = .returned (.tuple #[]) ∧ u' = .panicking [{ v := .iface 38 (.agg #[]), recovered := true }] ∧ w'.heap[g]? = some (.cells #[.bool false] 4 (0, 0)) ∧ Below B w w' := by
  obtain ⟨g1, g2⟩ := cells1 hg
  have hgl := (Array.getElem?_eq_some_iff.1 hg).1
  have hgA : ∀ o : Obj, (w.alloc o).heap[g]? = some (.cells #[.bool b] 4 (0, 0)) := fun o => (Below.heap_alloc w o g hgl).trans hg
  have HGA := Lib.hid hgA
  have c1 : ∀ o : Obj, (w.alloc o).cell? ⟨g, 0, none⟩ = some (.bool b) := fun o => (cells1 (hgA o)).1
  have c2 : ∀ o : Obj, (w.alloc o).frozen? ⟨g, 0, none⟩ = false := fun o => (cells1 (hgA o)).2
  clear hgA hg
  refine callsD_of_wpS Try.func21 rfl fun c₀ cs hu => ?_
  apply wpS_seq
  apply wpS_region
  unfold thrownW at hu
  simp [wpOpsS, go_sem, recoverD, hu, Try.ntmps21, Exit.thenS]
  refine wpS_of_wp ?_
  simp only [Array.replicate_succ, Array.replicate_zero, List.push_toArray, List.append_toArray, List.nil_append, List.cons_append, List.setIfInBounds_toArray, List.set_cons_succ, List.set_cons_zero]
  have HU := Lib.hid hu; clear hu
  have hta : ∀ w : World, (Instr.typeAssert (Value.iface 38 (.agg #[])) 20 38 true).run Try.prog w = .ok (.tuple #[.agg #[], .bool true]) w := fun w => by kernel_rfl
  go_wp2
  have k1 : (w.setCell ⟨g, 0, none⟩ (.bool false)).heap[g]? = some (.cells #[.bool false] 4 (0, 0)) := by
    have hg := (Below.heap_alloc w (.cells #[] 38) g hgl).symm.trans (HGA.out (.cells #[] 38))
    simpa using heap_setCell_same w g 0 _ _ (.bool false) hg
  have hW := ((Below.refl B w).setCell (p := ⟨g, 0, none⟩) hBg (.bool false)).alloc (by simp; omega) (.cells #[] 38)
  exact ⟨rfl, _, rfl, .tuple #[], by simp [results, Try.results21], rfl, rfl, (Below.heap_alloc _ _ g (by simpa using hgl)).trans k1, hW⟩
theorem res_right {w : World} {R : Nat} {b : Bool} {tmps : Array Value} (hR : w.heap[R]? = some (.cells #[.bool b] 4 (0, 0))) (h2 : tmps[2]?.getD undef = .pointer (some ⟨R, 0, none⟩)) : (results Try.f8 tmps).run Try.prog w = .ok (.bool b) w := by
  obtain ⟨a1, _⟩ := cells1 hR
  simp [results, Try.results8, go_sem, h2, a1]
/-- what node.Right tells, in the order of the program -/
theorem rightN_go (x : Nd) : rightN x = ((x.kind == 1 || x.kind == 9) && (goN (x.kind == 9) 1 32768 x).isSome) := by
  unfold rightN
  rw [goN_eq]
  rw [Bool.eq_iff_iff]
  simp only [Bool.and_eq_true, Bool.or_eq_true, decide_eq_true_eq]
  constructor
  · rintro ⟨⟨⟨h1, h2⟩, h3⟩, h4⟩
    refine ⟨h1, ?_⟩
    rw [if_pos ⟨h2, by omega, by omega⟩]; rfl
  · rintro ⟨h1, h2⟩
    split at h2
    · rename_i hh
      exact ⟨⟨⟨h1, hh.1⟩, by omega⟩, by omega⟩
    · cases h2
/-- the kids of a node, in a world; its own bounds -/
structure Ready (w : World) (p : Option Addr) (c : Nat) (x : Nd) : Prop where
  kids : KidsV w p x.kids
  cap : x.kids.length ≤ c
  len : x.kids.length ≤ 1000000
  text : x.text.size ≤ 1000000000
theorem Ready.below {w w' : World} {p : Option Addr} {c : Nat} {x : Nd} (h : Ready w p c x) (hb : Below w.heap.size w w') : Ready w' p c x := ⟨KidsV.below hb h.kids, h.cap, h.len, h.text⟩
set_option maxRecDepth 100000 in
set_option maxHeartbeats 4000000 in
/-- neither a file nor a block -/
theorem right_no {x : Nd} {p : Option Addr} {c : Nat} {w : World} (h1 : x.kind ≠ 1) (h9 : x.kind ≠ 9) :
    Calls Try.prog 8 #[.agg (nodeC x p c)] w fun e w' => e = .returned (.bool false) ∧ Below w.heap.size w w' := by
  have e1 : ((x.kind : Int) == 1) = false := by simp; omega
  have e9 : ((x.kind : Int) == 9) = false := by simp; omega
  unfold nodeC
  generalize x.kids.length = nk at *
  generalize x.kind = kk at *
  generalize x.at_ = aa at *
  generalize x.num = nn at *
  generalize x.text = tt at *
  have hmf : ∀ (fn : Fn) (first cap : Array Value) (w : World), (Instr.makeFunc fn first cap).run Try.prog w = .ok (.func fn first cap) w := fun _ _ _ _ => rfl
  have hb0 := ((Below.refl w.heap.size w).alloc (Nat.le_refl _) (.cells #[.int .u8 (kk : Int), .string tt, .int .i64 nn, .int .i64 aa, .slice p nk c] 25)).alloc (by simp) (.cells #[.bool false] 4)
  have hR0 : ((w.alloc (.cells #[.int .u8 (kk : Int), .string tt, .int .i64 nn, .int .i64 aa, .slice p nk c] 25)).alloc (.cells #[.bool false] 4)).heap[w.heap.size + 1]? = some (.cells #[.bool false] 4 (0, 0)) := by
    have h := heap_alloc_new (w.alloc (.cells #[.int .u8 (kk : Int), .string tt, .int .i64 nn, .int .i64 aa, .slice p nk c] 25)) (.cells #[.bool false] 4)
    rw [show (w.alloc (.cells #[.int .u8 (kk : Int), .string tt, .int .i64 nn, .int .i64 aa, .slice p nk c] 25)).heap.size = w.heap.size + 1 by simp] at h
    exact h
  have hm0 : Calls Try.prog 22 #[.slice (some ⟨w.heap.size + 1 + 1, 0, none⟩) 1 1] (((w.alloc (.cells #[.int .u8 (kk : Int), .string tt, .int .i64 nn, .int .i64 aa, .slice p nk c] 25)).alloc (.cells #[.bool false] 4)).alloc (.cells #[.bool false] 4)) fun e w' => e = okOr false ∧ Below ((w.alloc (.cells #[.int .u8 (kk : Int), .string tt, .int .i64 nn, .int .i64 aa, .slice p nk c] 25)).alloc (.cells #[.bool false] 4)).heap.size ((w.alloc (.cells #[.int .u8 (kk : Int), .string tt, .int .i64 nn, .int .i64 aa, .slice p nk c] 25)).alloc (.cells #[.bool false] 4)) w' := by
    rw [show w.heap.size + 1 + 1 = ((w.alloc (.cells #[.int .u8 (kk : Int), .string tt, .int .i64 nn, .int .i64 aa, .slice p nk c] 25)).alloc (.cells #[.bool false] 4)).heap.size by simp]; exact mustA1 false _
  have HM := Lib.hid hm0; clear hm0
  have HB0 := Lib.hid hb0; have HR0 := Lib.hid hR0
  clear hb0 hR0 h1 h9
  go_enter_defers Try.func8, Try.ntmps8
  go_wp2_with (go_at_call 22; go_must (refine (HM.out).mono ?_; rintro e w1 ⟨rfl, hb⟩; simp only [okOr_false]; refine leaves_cons (f := 21) (args := #[.pointer (some ⟨w.heap.size + 1, 0, none⟩)]) (by simp) (by simp [go_sem]) ?_; refine (catch_thrown (B := w.heap.size) (b := false) ((hb.block (w.heap.size + 1) (by simp)).trans HR0.out) (by omega)).mono ?_; rintro e1 u' w3 ⟨rfl, rfl, k1, k2⟩; exact ⟨.bool false, res_right k1 rfl, rfl, (HB0.out.trans (hb.mono HB0.out.size)).trans k2⟩))
set_option maxRecDepth 100000 in
set_option maxHeartbeats 4000000 in
/-- a file, a block -/
theorem right_yes {x : Nd} {p : Option Addr} {c : Nat} {w : World} {mm : Int} (hm : w.cell? ⟨0, 0, none⟩ = some (.int .i64 mm)) (hr : Ready w p c x) (h19 : x.kind = 1 ∨ x.kind = 9) :
    Calls Try.prog 8 #[.agg (nodeC x p c)] w fun e w' => e = .returned (.bool (goN (x.kind == 9) 1 32768 x).isSome) ∧ Below w.heap.size w w' := by
  have hbW := ((Below.refl w.heap.size w).alloc (Nat.le_refl _) (.cells (nodeC x p c) 25)).alloc (by simp) (.cells #[.bool false] 4)
  have HN := Lib.hid (fun L (u : World) (hu : Led ((w.alloc (.cells (nodeC x p c) 25)).alloc (.cells #[.bool false] 4)) L u 32768) => NodeS.node_any (d := x.kind == 9) (cell_on hbW hm) x p c 1 32768 u (KidsV.below hbW hr.kids) hr.cap hr.len hr.text hu (by omega) (by omega) (by omega))
  clear hbW
  unfold lookC nodeC at HN
  unfold nodeC
  generalize goN (x.kind == 9) 1 32768 x = r at *
  have hact : ((x.kind : Int) == 9) = (x.kind == 9) := by rw [Bool.eq_iff_iff]; simp; omega
  have he1 : (x.kind == 9) = false → ((x.kind : Int) == 1) = true := by intro h; simp at h ⊢; omega
  generalize (x.kind == 9) = act at *
  generalize x.kids.length = nk at *
  generalize x.kind = kk at *
  generalize x.at_ = aa at *
  generalize x.num = nn at *
  generalize x.text = tt at *
  have hmf : ∀ (fn : Fn) (first cap : Array Value) (w : World), (Instr.makeFunc fn first cap).run Try.prog w = .ok (.func fn first cap) w := fun _ _ _ _ => rfl
  have hb0 := ((Below.refl w.heap.size w).alloc (Nat.le_refl _) (.cells #[.int .u8 (kk : Int), .string tt, .int .i64 nn, .int .i64 aa, .slice p nk c] 25)).alloc (by simp) (.cells #[.bool false] 4)
  have hR0 : ((w.alloc (.cells #[.int .u8 (kk : Int), .string tt, .int .i64 nn, .int .i64 aa, .slice p nk c] 25)).alloc (.cells #[.bool false] 4)).heap[w.heap.size + 1]? = some (.cells #[.bool false] 4 (0, 0)) := by
    have h := heap_alloc_new (w.alloc (.cells #[.int .u8 (kk : Int), .string tt, .int .i64 nn, .int .i64 aa, .slice p nk c] 25)) (.cells #[.bool false] 4)
    rw [show (w.alloc (.cells #[.int .u8 (kk : Int), .string tt, .int .i64 nn, .int .i64 aa, .slice p nk c] 25)).heap.size = w.heap.size + 1 by simp] at h
    exact h
  have hX0 : ((w.alloc (.cells #[.int .u8 (kk : Int), .string tt, .int .i64 nn, .int .i64 aa, .slice p nk c] 25)).alloc (.cells #[.bool false] 4)).cell? ⟨w.heap.size, 0, none⟩ = some (.int .u8 (kk : Int)) ∧ ((w.alloc (.cells #[.int .u8 (kk : Int), .string tt, .int .i64 nn, .int .i64 aa, .slice p nk c] 25)).alloc (.cells #[.bool false] 4)).cell? ⟨w.heap.size, 1, none⟩ = some (.string tt) ∧ ((w.alloc (.cells #[.int .u8 (kk : Int), .string tt, .int .i64 nn, .int .i64 aa, .slice p nk c] 25)).alloc (.cells #[.bool false] 4)).cell? ⟨w.heap.size, 2, none⟩ = some (.int .i64 nn) ∧ ((w.alloc (.cells #[.int .u8 (kk : Int), .string tt, .int .i64 nn, .int .i64 aa, .slice p nk c] 25)).alloc (.cells #[.bool false] 4)).cell? ⟨w.heap.size, 3, none⟩ = some (.int .i64 aa) ∧ ((w.alloc (.cells #[.int .u8 (kk : Int), .string tt, .int .i64 nn, .int .i64 aa, .slice p nk c] 25)).alloc (.cells #[.bool false] 4)).cell? ⟨w.heap.size, 4, none⟩ = some (.slice p nk c) := by
    have hbx := (Below.refl (w.alloc (.cells #[.int .u8 (kk : Int), .string tt, .int .i64 nn, .int .i64 aa, .slice p nk c] 25)).heap.size (w.alloc (.cells #[.int .u8 (kk : Int), .string tt, .int .i64 nn, .int .i64 aa, .slice p nk c] 25))).alloc (Nat.le_refl _) (.cells #[.bool false] 4)
    exact ⟨cell_on hbx kernel_cell, cell_on hbx kernel_cell, cell_on hbx kernel_cell, cell_on hbx kernel_cell, cell_on hbx kernel_cell⟩
  have hm0 : Calls Try.prog 22 #[.slice (some ⟨w.heap.size + 1 + 1, 0, none⟩) 1 1] (((w.alloc (.cells #[.int .u8 (kk : Int), .string tt, .int .i64 nn, .int .i64 aa, .slice p nk c] 25)).alloc (.cells #[.bool false] 4)).alloc (.cells #[.bool true] 4)) fun e w' => e = okOr true ∧ Below ((w.alloc (.cells #[.int .u8 (kk : Int), .string tt, .int .i64 nn, .int .i64 aa, .slice p nk c] 25)).alloc (.cells #[.bool false] 4)).heap.size ((w.alloc (.cells #[.int .u8 (kk : Int), .string tt, .int .i64 nn, .int .i64 aa, .slice p nk c] 25)).alloc (.cells #[.bool false] 4)) w' := by
    rw [show w.heap.size + 1 + 1 = ((w.alloc (.cells #[.int .u8 (kk : Int), .string tt, .int .i64 nn, .int .i64 aa, .slice p nk c] 25)).alloc (.cells #[.bool false] 4)).heap.size by simp]; exact mustA1 true _
  have HM := Lib.hid hm0; clear hm0
  have HB0 := Lib.hid hb0; have HR0 := Lib.hid hR0; have HX0 := Lib.hid hX0
  have hsz : ((w.alloc (.cells #[.int .u8 (kk : Int), .string tt, .int .i64 nn, .int .i64 aa, .slice p nk c] 25)).alloc (.cells #[.bool false] 4)).heap.size = w.heap.size + 1 + 1 := by simp
  have HSZ := Lib.hid hsz
  clear hb0 hR0 hX0 hsz hm hr h19
  have HE1 := Lib.hid he1; clear he1
  cases r with
  | none =>
    cases act
    all_goals
      have he1 := HE1.out
      simp only [forall_const, Bool.true_eq_false, false_implies] at he1
      go_enter_defers Try.func8, Try.ntmps8
      go_wp2_with (first | (go_at_call 22; go_must (refine (HM.out).mono ?_; rintro e w1 ⟨rfl, hb⟩; have HB1 := Lib.hid hb; obtain ⟨x0, x1, x2, x3, x4⟩ := HX0.out; have z0 := fun o : Obj => cell_on (hb.alloc hb.size o) x0; have z1 := fun o : Obj => cell_on (hb.alloc hb.size o) x1; have z2 := fun o : Obj => cell_on (hb.alloc hb.size o) x2; have z3 := fun o : Obj => cell_on (hb.alloc hb.size o) x3; have z4 := fun o : Obj => cell_on (hb.alloc hb.size o) x4; clear hb x0 x1 x2 x3 x4; simp only [okOr_true])) | (go_at_call 23; go_must (refine (HN.out w1.heap.size _ ⟨HB1.out.alloc HB1.out.size _, HB1.out.size, heap_alloc_new w1 _⟩).mono ?_; rintro e w3 ⟨rfl, hb3⟩; refine leaves_cons (f := 21) (args := #[.pointer (some ⟨w.heap.size + 1, 0, none⟩)]) (by simp) (by simp [go_sem]) ?_; refine (catch_thrown (B := w.heap.size) (b := false) ((hb3.block (w.heap.size + 1) (by simp)).trans HR0.out) (by omega)).mono ?_; rintro e1 u' w4 ⟨rfl, rfl, k1, k2⟩; exact ⟨.bool false, res_right k1 rfl, rfl, (HB0.out.trans (hb3.mono HB0.out.size)).trans k2⟩)))
  | some lf =>
    cases act
    all_goals
      have he1 := HE1.out
      simp only [forall_const, Bool.true_eq_false, false_implies] at he1
      go_enter_defers Try.func8, Try.ntmps8
      go_wp2_with (first | (go_at_call 22; go_must (refine (HM.out).mono ?_; rintro e w1 ⟨rfl, hb⟩; have HB1 := Lib.hid hb; obtain ⟨x0, x1, x2, x3, x4⟩ := HX0.out; have z0 := fun o : Obj => cell_on (hb.alloc hb.size o) x0; have z1 := fun o : Obj => cell_on (hb.alloc hb.size o) x1; have z2 := fun o : Obj => cell_on (hb.alloc hb.size o) x2; have z3 := fun o : Obj => cell_on (hb.alloc hb.size o) x3; have z4 := fun o : Obj => cell_on (hb.alloc hb.size o) x4; clear hb x0 x1 x2 x3 x4; simp only [okOr_true])) | (go_at_call 23; go_must (refine (HN.out w1.heap.size _ ⟨HB1.out.alloc HB1.out.size _, HB1.out.size, heap_alloc_new w1 _⟩).mono ?_; rintro e w3 ⟨rfl, hl3, hk3⟩; have hr3 := (hl3.on.block (w.heap.size + 1) (by simp)).trans HR0.out; obtain ⟨g1, g2⟩ := cells1 hr3; have HR3 := Lib.hid hr3; have HB3 := Lib.hid (HB0.out.trans (hl3.on.mono HB0.out.size)); clear hl3 hk3 hr3)))
      refine leaves_cons (f := 21) (args := #[.pointer (some ⟨w.heap.size + 1, 0, none⟩)]) (by simp) (by simp [go_sem]) ?_
      refine (catch_idle _ _).mono ?_
      rintro e1 u' w4 ⟨rfl, rfl, rfl⟩
      exact ⟨.bool true, res_right (heap_setCell_same _ _ 0 _ _ (.bool true) HR3.out) rfl, rfl, HB3.out.setCell (by simp) _⟩
theorem right_any {x : Nd} {p : Option Addr} {c : Nat} {w : World} {mm : Int} (hm : w.cell? ⟨0, 0, none⟩ = some (.int .i64 mm)) (hr : Ready w p c x) :
    Calls Try.prog 8 #[.agg (nodeC x p c)] w fun e w' => e = .returned (.bool (rightN x)) ∧ Below w.heap.size w w' := by
  rw [rightN_go]
  by_cases h : x.kind = 1 ∨ x.kind = 9
  · refine (right_yes hm hr h).mono fun e w' he => ⟨he.1.trans ?_, he.2⟩
    have : (x.kind == 1 || x.kind == 9) = true := by simpa using h
    rw [this]; rfl
  · have h1 : x.kind ≠ 1 := fun e => h (Or.inl e)
    have h9 : x.kind ≠ 9 := fun e => h (Or.inr e)
    refine (right_no h1 h9).mono fun e w' he => ⟨he.1.trans ?_, he.2⟩
    have : (x.kind == 1 || x.kind == 9) = false := by simp [h1, h9]
    rw [this]; rfl
end Go.Proofs.Ytkjpdhnibfhaaaa.NodeT
