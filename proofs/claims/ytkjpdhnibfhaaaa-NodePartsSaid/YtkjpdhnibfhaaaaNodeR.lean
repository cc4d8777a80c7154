/- node's looks: expression. -/
import Derived.Test.YtkjpdhnibfhaaaaNodeQ
namespace Go.Proofs.Ytkjpdhnibfhaaaa.NodeR
open Go.RowKit Go.Proofs.Ytkjpdhnibfhaaaa.Nodey Go.Proofs.Ytkjpdhnibfhaaaa.NodeA Go.Proofs.Ytkjpdhnibfhaaaa.NodeB Go.Proofs.Ytkjpdhnibfhaaaa.NodeC Go.Proofs.Ytkjpdhnibfhaaaa.NodeD Go.Proofs.Ytkjpdhnibfhaaaa.NodeE Go.Proofs.Ytkjpdhnibfhaaaa.NodeF Go.Proofs.Ytkjpdhnibfhaaaa.NodeG Go.Proofs.Ytkjpdhnibfhaaaa.NodeH Go.Proofs.Ytkjpdhnibfhaaaa.NodeI Go.Proofs.Ytkjpdhnibfhaaaa.NodeJ Go.Proofs.Ytkjpdhnibfhaaaa.NodeK Go.Proofs.Ytkjpdhnibfhaaaa.NodeL Go.Proofs.Ytkjpdhnibfhaaaa.NodeM Go.Proofs.Ytkjpdhnibfhaaaa.NodeN Go.Proofs.Ytkjpdhnibfhaaaa.NodeO Go.Proofs.Ytkjpdhnibfhaaaa.NodeP Go.Proofs.Ytkjpdhnibfhaaaa.NodeQ Go.Proofs.Ytkjpdhnibfhaaaa.Cut

theorem ops_cells (w : World) (T : TypeId) : ∀ j, j < 13 → (w.alloc (.cells operatorsR T)).cell? ⟨w.heap.size, 0 + j, none⟩ = some (.string ((opsL.map fun l => ({ data := l.toArray } : ByteArray)).getD j ByteArray.empty)) := by
  intro j hj
  rw [Nat.zero_add, cell_of_row _ _ j _ _ (0, 0) (heap_alloc_new w _)]
  have h : operatorsR = ((opsL.map fun l => ({ data := l.toArray } : ByteArray)).map Value.string).toArray := rfl
  rw [h]
  have hl : (opsL.map fun l => ({ data := l.toArray } : ByteArray)).length = 13 := rfl
  simp [List.getD_eq_getElem?_getD] at hl ⊢
  simp [hl, hj]
theorem ops_contains {s : ByteArray} {w1 u : World} (hu : Below (w1.alloc (.cells operatorsR 59)).heap.size (w1.alloc (.cells operatorsR 59)) u) :
    Calls Try.prog 52 #[.slice (some ⟨w1.heap.size, 0, none⟩) 13 13, .string s] u fun e w' => e = .returned (.bool (opsL.contains s.data.toList)) ∧ w' = u := by
  have := Try.slices_Contains_string w1.heap.size 0 13 13 (opsL.map fun l => ({ data := l.toArray } : ByteArray)) s u (by decide) (by decide) (fun j hj => cell_on hu (ops_cells w1 59 j hj))
  rw [show (opsL.map fun l => ({ data := l.toArray } : ByteArray)).take 13 = opsL.map (fun l => { data := l.toArray }) from rfl, contains_arr] at this
  exact this
section
variable {d : Bool} {tt : ByteArray} {nn aa : Int} {l : List Nd}
theorem shape_26a (h : tt.toList = [45]) : shapeB d (.mk 26 tt nn aa l) = ((true && nn == 0) && allB [saidK] l) := by
  rw [ByteArray.toList_eq] at h
  rw [shape_26, h]; rfl
theorem shape_26b (h : tt.toList ≠ [45]) : shapeB d (.mk 26 tt nn aa l) = ((tt.toList == [33] && nn == 0) && allB [saidK] l) := by
  rw [ByteArray.toList_eq] at h ⊢
  have e0 : (tt.data.toList == [45]) = false := by simpa using h
  rw [shape_26, e0]; rfl
end
set_option maxRecDepth 100000 in
set_option maxHeartbeats 4000000 in
theorem expression_26a {tt : ByteArray} {nn aa : Int} {l : List Nd} {p : Option Addr} {c : Nat} {d : Bool} {w : World} (_hk : KidsV w p l) (hlen : l.length ≤ 1000000) (_ht : tt.size ≤ 1000000000) (h0 : tt.toList = [45]) :
    Calls Try.prog 35 #[.agg (lookC (.mk 26 tt nn aa l) p c d)] w fun e w' => e = okB (shapeB d (.mk 26 tt nn aa l)) ∧ Below w.heap.size w w' := by
  rw [shape_26a h0]
  show Calls Try.prog 35 #[.agg #[.int .u8 26, .string tt, .int .i64 nn, .int .i64 aa, .slice p l.length c, .bool d]] w fun e w' => e = okB ((true && nn == 0) && allB [saidK] l) ∧ Below w.heap.size w w'
  generalize hnk2 : l.length = nk at *
  have e0 : (tt.toList == [45]) = true := by rw [h0]; rfl
  clear h0
  generalize hE1 : (true && nn == 0) = b1
  have M1 : ∀ u, Below w.heap.size w u → Calls Try.prog 22 #[.slice (some ⟨u.heap.size, 0, none⟩) 2 2] (u.alloc (.cells #[.bool (true), .bool (nn == 0)] 4)) fun e w' => e = okOr (b1) ∧ Below u.heap.size u w' := fun u _ => by rw [← hE1]; exact mustA2 (true) (nn == 0) u
  have HE1 := Lib.hid hE1; clear hE1
  have M2 : ∀ u, Below w.heap.size w u → Calls Try.prog 43 #[.agg #[.int .u8 26, .string tt, .int .i64 nn, .int .i64 aa, .slice p nk c, .bool d], .slice (some ⟨u.heap.size, 0, none⟩) 1 1] (u.alloc (.cells #[.func (.func 46) #[] #[]] 55)) fun e w' => e = okOr (allB [saidK] l) ∧ Below u.heap.size u w' := by
    intro u hu; subst hnk2; exact (all_any (x := .mk 26 tt nn aa l) (ps := [saidK]) (KidsV.below (hu.alloc hu.size _) _hk) (funs1 isP_said u _) hlen (by simp)).mono fun _ _ h => ⟨h.1, ((Below.refl _ _).alloc (Nat.le_refl _) _).trans (h.2.mono (by simp))⟩
  generalize (allB [saidK] l) = b2 at *
  have N1 := Lib.hid M1; clear M1
  have N2 := Lib.hid M2; clear M2
  have HB0 : Hid (Below w.heap.size w (w.alloc (.cells #[.int .u8 26, .string tt, .int .i64 nn, .int .i64 aa, .slice p nk c, .bool d] 42))) := Lib.hid ((Below.refl w.heap.size w).alloc (Nat.le_refl _) _)
  have BX0 : Hid (BoxAt (w.alloc (.cells #[.int .u8 26, .string tt, .int .i64 nn, .int .i64 aa, .slice p nk c, .bool d] 42)) w.heap.size (.int .u8 26) (.string tt) (.int .i64 nn) (.int .i64 aa) (.slice p nk c) (.bool d)) := Lib.hid BoxAt.new
  have HNK := Lib.hid hnk2; clear hnk2 _hk _ht hlen
  go_enter Try.func35, Try.ntmps35
  have HOP := Lib.hid (fun w => operators_any w)
  have hsz := operators_size
  have hst : ∀ w1 : World, (storeCells ⟨w1.heap.size, 0, none⟩ operatorsR.toList 0).run Try.prog (w1.alloc (.cells #[.string { data := #[] }, .string { data := #[] }, .string { data := #[] }, .string { data := #[] }, .string { data := #[] }, .string { data := #[] }, .string { data := #[] }, .string { data := #[] }, .string { data := #[] }, .string { data := #[] }, .string { data := #[] }, .string { data := #[] }, .string { data := #[] }] 59)) = .ok () (w1.alloc (.cells operatorsR 59)) := fun w1 => run_storeCells_new w1 59 #[.string { data := #[] }, .string { data := #[] }, .string { data := #[] }, .string { data := #[] }, .string { data := #[] }, .string { data := #[] }, .string { data := #[] }, .string { data := #[] }, .string { data := #[] }, .string { data := #[] }, .string { data := #[] }, .string { data := #[] }, .string { data := #[] }] operatorsR (by kernel_rfl) (by kernel_rfl) (by kernel_rfl)
  have HOC : Hid (∀ w1 u : World, Below (w1.alloc (.cells operatorsR 59)).heap.size (w1.alloc (.cells operatorsR 59)) u → Calls Try.prog 52 #[.slice (some ⟨w1.heap.size, 0, none⟩) 13 13, .string tt] u fun e w' => e = .returned (.bool (opsL.contains tt.data.toList)) ∧ w' = u) := Lib.hid fun w1 u hu => ops_contains hu
  generalize operatorsR = R at *
  go_upto_region 3 with (go_at_call 51; go_must (refine (HOP.out _).mono ?_; rintro e w100 ⟨rfl, hb⟩; have HB00 := Lib.hid (HB0.out.trans (hb.mono HB0.out.size)); have BX00 := Lib.hid (BX0.out.below hb); clear hb HB0 BX0))
  have hb0 := HB00.out.alloc HB00.out.size (.cells R 59)
  have bx0 := BX00.out.below ((Below.refl _ _).alloc (Nat.le_refl _) (.cells R 59))
  have HOC2 := Lib.hid (HOC.out w100)
  clear HB00 BX00 HOP hst HOC
  generalize w100.alloc (.cells R 59) = w0 at *
  have HB0 := Lib.hid hb0; have BX0 := Lib.hid bx0; clear hb0
  obtain ⟨k0, k1, k2, k3, k4, k5⟩ := bx0
  go_wp2_with (first | (go_at_call 22; go_must (with_reducible refine (N1.out _ HB0.out).mono ?_; rintro e w1 ⟨rfl, hb⟩; have HB1 := Lib.hid (HB0.out.trans (hb.mono HB0.out.size)); have BX1 := Lib.hid (BX0.out.below hb); clear hb; cases b1; (· simp only [okOr_false]; exact panic_post rfl ⟨rfl, HB1.out⟩); simp only [okOr_true]; obtain ⟨k0, k1, k2, k3, k4, k5⟩ := BX1.out)) | (go_at_call 43; go_must (with_reducible refine (N2.out _ HB1.out).mono ?_; rintro e w2 ⟨rfl, hb⟩; have HB2 := Lib.hid (HB1.out.trans (hb.mono HB1.out.size)); have BX2 := Lib.hid (BX1.out.below hb); clear hb; cases b2; (· simp only [okOr_false]; exact panic_post rfl ⟨rfl, HB2.out⟩); simp only [okOr_true]; obtain ⟨k0, k1, k2, k3, k4, k5⟩ := BX2.out)))
  go_ret
  exact ⟨rfl, HB2.out⟩
set_option maxRecDepth 100000 in
set_option maxHeartbeats 4000000 in
theorem expression_26b {tt : ByteArray} {nn aa : Int} {l : List Nd} {p : Option Addr} {c : Nat} {d : Bool} {w : World} (_hk : KidsV w p l) (hlen : l.length ≤ 1000000) (_ht : tt.size ≤ 1000000000) (h0 : tt.toList ≠ [45]) :
    Calls Try.prog 35 #[.agg (lookC (.mk 26 tt nn aa l) p c d)] w fun e w' => e = okB (shapeB d (.mk 26 tt nn aa l)) ∧ Below w.heap.size w w' := by
  rw [shape_26b h0]
  show Calls Try.prog 35 #[.agg #[.int .u8 26, .string tt, .int .i64 nn, .int .i64 aa, .slice p l.length c, .bool d]] w fun e w' => e = okB ((tt.toList == [33] && nn == 0) && allB [saidK] l) ∧ Below w.heap.size w w'
  generalize hnk2 : l.length = nk at *
  have e0 : (tt.toList == [45]) = false := by simpa using h0
  clear h0
  generalize hE1 : (tt.toList == [33] && nn == 0) = b1
  have M1 : ∀ u, Below w.heap.size w u → Calls Try.prog 22 #[.slice (some ⟨u.heap.size, 0, none⟩) 2 2] (u.alloc (.cells #[.bool (tt.toList == [33]), .bool (nn == 0)] 4)) fun e w' => e = okOr (b1) ∧ Below u.heap.size u w' := fun u _ => by rw [← hE1]; exact mustA2 (tt.toList == [33]) (nn == 0) u
  have HE1 := Lib.hid hE1; clear hE1
  have M2 : ∀ u, Below w.heap.size w u → Calls Try.prog 43 #[.agg #[.int .u8 26, .string tt, .int .i64 nn, .int .i64 aa, .slice p nk c, .bool d], .slice (some ⟨u.heap.size, 0, none⟩) 1 1] (u.alloc (.cells #[.func (.func 46) #[] #[]] 55)) fun e w' => e = okOr (allB [saidK] l) ∧ Below u.heap.size u w' := by
    intro u hu; subst hnk2; exact (all_any (x := .mk 26 tt nn aa l) (ps := [saidK]) (KidsV.below (hu.alloc hu.size _) _hk) (funs1 isP_said u _) hlen (by simp)).mono fun _ _ h => ⟨h.1, ((Below.refl _ _).alloc (Nat.le_refl _) _).trans (h.2.mono (by simp))⟩
  generalize (allB [saidK] l) = b2 at *
  have N1 := Lib.hid M1; clear M1
  have N2 := Lib.hid M2; clear M2
  have HB0 : Hid (Below w.heap.size w (w.alloc (.cells #[.int .u8 26, .string tt, .int .i64 nn, .int .i64 aa, .slice p nk c, .bool d] 42))) := Lib.hid ((Below.refl w.heap.size w).alloc (Nat.le_refl _) _)
  have BX0 : Hid (BoxAt (w.alloc (.cells #[.int .u8 26, .string tt, .int .i64 nn, .int .i64 aa, .slice p nk c, .bool d] 42)) w.heap.size (.int .u8 26) (.string tt) (.int .i64 nn) (.int .i64 aa) (.slice p nk c) (.bool d)) := Lib.hid BoxAt.new
  have HNK := Lib.hid hnk2; clear hnk2 _hk _ht hlen
  go_enter Try.func35, Try.ntmps35
  have HOP := Lib.hid (fun w => operators_any w)
  have hsz := operators_size
  have hst : ∀ w1 : World, (storeCells ⟨w1.heap.size, 0, none⟩ operatorsR.toList 0).run Try.prog (w1.alloc (.cells #[.string { data := #[] }, .string { data := #[] }, .string { data := #[] }, .string { data := #[] }, .string { data := #[] }, .string { data := #[] }, .string { data := #[] }, .string { data := #[] }, .string { data := #[] }, .string { data := #[] }, .string { data := #[] }, .string { data := #[] }, .string { data := #[] }] 59)) = .ok () (w1.alloc (.cells operatorsR 59)) := fun w1 => run_storeCells_new w1 59 #[.string { data := #[] }, .string { data := #[] }, .string { data := #[] }, .string { data := #[] }, .string { data := #[] }, .string { data := #[] }, .string { data := #[] }, .string { data := #[] }, .string { data := #[] }, .string { data := #[] }, .string { data := #[] }, .string { data := #[] }, .string { data := #[] }] operatorsR (by kernel_rfl) (by kernel_rfl) (by kernel_rfl)
  have HOC : Hid (∀ w1 u : World, Below (w1.alloc (.cells operatorsR 59)).heap.size (w1.alloc (.cells operatorsR 59)) u → Calls Try.prog 52 #[.slice (some ⟨w1.heap.size, 0, none⟩) 13 13, .string tt] u fun e w' => e = .returned (.bool (opsL.contains tt.data.toList)) ∧ w' = u) := Lib.hid fun w1 u hu => ops_contains hu
  generalize operatorsR = R at *
  go_upto_region 3 with (go_at_call 51; go_must (refine (HOP.out _).mono ?_; rintro e w100 ⟨rfl, hb⟩; have HB00 := Lib.hid (HB0.out.trans (hb.mono HB0.out.size)); have BX00 := Lib.hid (BX0.out.below hb); clear hb HB0 BX0))
  have hb0 := HB00.out.alloc HB00.out.size (.cells R 59)
  have bx0 := BX00.out.below ((Below.refl _ _).alloc (Nat.le_refl _) (.cells R 59))
  have HOC2 := Lib.hid (HOC.out w100)
  clear HB00 BX00 HOP hst HOC
  generalize w100.alloc (.cells R 59) = w0 at *
  have HB0 := Lib.hid hb0; have BX0 := Lib.hid bx0; clear hb0
  obtain ⟨k0, k1, k2, k3, k4, k5⟩ := bx0
  go_wp2_with (first | (go_at_call 22; go_must (with_reducible refine (N1.out _ HB0.out).mono ?_; rintro e w1 ⟨rfl, hb⟩; have HB1 := Lib.hid (HB0.out.trans (hb.mono HB0.out.size)); have BX1 := Lib.hid (BX0.out.below hb); clear hb; cases b1; (· simp only [okOr_false]; exact panic_post rfl ⟨rfl, HB1.out⟩); simp only [okOr_true]; obtain ⟨k0, k1, k2, k3, k4, k5⟩ := BX1.out)) | (go_at_call 43; go_must (with_reducible refine (N2.out _ HB1.out).mono ?_; rintro e w2 ⟨rfl, hb⟩; have HB2 := Lib.hid (HB1.out.trans (hb.mono HB1.out.size)); have BX2 := Lib.hid (BX1.out.below hb); clear hb; cases b2; (· simp only [okOr_false]; exact panic_post rfl ⟨rfl, HB2.out⟩); simp only [okOr_true]; obtain ⟨k0, k1, k2, k3, k4, k5⟩ := BX2.out)))
  go_ret
  exact ⟨rfl, HB2.out⟩
set_option maxRecDepth 100000 in
set_option maxHeartbeats 4000000 in
theorem expression_27 {tt : ByteArray} {nn aa : Int} {l : List Nd} {p : Option Addr} {c : Nat} {d : Bool} {w : World} (_hk : KidsV w p l) (hlen : l.length ≤ 1000000) (_ht : tt.size ≤ 1000000000) :
    Calls Try.prog 35 #[.agg (lookC (.mk 27 tt nn aa l) p c d)] w fun e w' => e = okB (shapeB d (.mk 27 tt nn aa l)) ∧ Below w.heap.size w w' := by
  rw [shape_27]
  show Calls Try.prog 35 #[.agg #[.int .u8 27, .string tt, .int .i64 nn, .int .i64 aa, .slice p l.length c, .bool d]] w fun e w' => e = okB ((opsL.contains tt.data.toList && nn == 0) && allB [saidK, saidK] l) ∧ Below w.heap.size w w'
  generalize hnk2 : l.length = nk at *
  generalize hE1 : (opsL.contains tt.data.toList && nn == 0) = b1
  have HE1 := Lib.hid hE1; clear hE1
  have M2 : ∀ u, Below w.heap.size w u → Calls Try.prog 43 #[.agg #[.int .u8 27, .string tt, .int .i64 nn, .int .i64 aa, .slice p nk c, .bool d], .slice (some ⟨u.heap.size, 0, none⟩) 2 2] (u.alloc (.cells #[.func (.func 46) #[] #[], .func (.func 46) #[] #[]] 55)) fun e w' => e = okOr (allB [saidK, saidK] l) ∧ Below u.heap.size u w' := by
    intro u hu; subst hnk2; exact (all_any (x := .mk 27 tt nn aa l) (ps := [saidK, saidK]) (KidsV.below (hu.alloc hu.size _) _hk) (funs2 isP_said u _) hlen (by simp)).mono fun _ _ h => ⟨h.1, ((Below.refl _ _).alloc (Nat.le_refl _) _).trans (h.2.mono (by simp))⟩
  generalize (allB [saidK, saidK] l) = b2 at *
  have N2 := Lib.hid M2; clear M2
  have HB0 : Hid (Below w.heap.size w (w.alloc (.cells #[.int .u8 27, .string tt, .int .i64 nn, .int .i64 aa, .slice p nk c, .bool d] 42))) := Lib.hid ((Below.refl w.heap.size w).alloc (Nat.le_refl _) _)
  have BX0 : Hid (BoxAt (w.alloc (.cells #[.int .u8 27, .string tt, .int .i64 nn, .int .i64 aa, .slice p nk c, .bool d] 42)) w.heap.size (.int .u8 27) (.string tt) (.int .i64 nn) (.int .i64 aa) (.slice p nk c) (.bool d)) := Lib.hid BoxAt.new
  have HNK := Lib.hid hnk2; clear hnk2 _hk _ht hlen
  go_enter Try.func35, Try.ntmps35
  have HOP := Lib.hid (fun w => operators_any w)
  have hsz := operators_size
  have hst : ∀ w1 : World, (storeCells ⟨w1.heap.size, 0, none⟩ operatorsR.toList 0).run Try.prog (w1.alloc (.cells #[.string { data := #[] }, .string { data := #[] }, .string { data := #[] }, .string { data := #[] }, .string { data := #[] }, .string { data := #[] }, .string { data := #[] }, .string { data := #[] }, .string { data := #[] }, .string { data := #[] }, .string { data := #[] }, .string { data := #[] }, .string { data := #[] }] 59)) = .ok () (w1.alloc (.cells operatorsR 59)) := fun w1 => run_storeCells_new w1 59 #[.string { data := #[] }, .string { data := #[] }, .string { data := #[] }, .string { data := #[] }, .string { data := #[] }, .string { data := #[] }, .string { data := #[] }, .string { data := #[] }, .string { data := #[] }, .string { data := #[] }, .string { data := #[] }, .string { data := #[] }, .string { data := #[] }] operatorsR (by kernel_rfl) (by kernel_rfl) (by kernel_rfl)
  have HOC : Hid (∀ w1 u : World, Below (w1.alloc (.cells operatorsR 59)).heap.size (w1.alloc (.cells operatorsR 59)) u → Calls Try.prog 52 #[.slice (some ⟨w1.heap.size, 0, none⟩) 13 13, .string tt] u fun e w' => e = .returned (.bool (opsL.contains tt.data.toList)) ∧ w' = u) := Lib.hid fun w1 u hu => ops_contains hu
  generalize operatorsR = R at *
  go_upto_region 3 with (go_at_call 51; go_must (refine (HOP.out _).mono ?_; rintro e w100 ⟨rfl, hb⟩; have HB00 := Lib.hid (HB0.out.trans (hb.mono HB0.out.size)); have BX00 := Lib.hid (BX0.out.below hb); clear hb HB0 BX0))
  have hb0 := HB00.out.alloc HB00.out.size (.cells R 59)
  have bx0 := BX00.out.below ((Below.refl _ _).alloc (Nat.le_refl _) (.cells R 59))
  have HOC2 := Lib.hid (HOC.out w100)
  clear HB00 BX00 HOP hst HOC
  generalize w100.alloc (.cells R 59) = w0 at *
  have HB0 := Lib.hid hb0; have BX0 := Lib.hid bx0; clear hb0
  obtain ⟨k0, k1, k2, k3, k4, k5⟩ := bx0
  go_wp2_with fail
  clear k0 k1 k2 k3 k4 k5
  generalize opsL.contains tt.data.toList = wb at *
  refine wp_region_mixI (l1 := [_, _, _, _, _, _, _, _, _, _]) (l2 := [_]) [(0, true), (1, true), (2, true), (3, true), (5, true), (6, true), (7, true), (8, true), (4, false), (9, false)] (fun u => Below w0.heap.size w0 u) (by kernel_rfl) (by kernel_rfl) (by repeat (first | refine loose_then ?_ | refine loose_block ?_ | exact loose_body (P := Try.prog) (fn := Try.f35))) ((Below.refl _ w0).drew) ?_
  refine mixI_take (.slice (some ⟨w100.heap.size, 0, none⟩) 13 13) rfl rfl (fun u hu => by obtain ⟨k0, k1, k2, k3, k4, k5⟩ := BX0.out.below hu; go_simp) ?_
  refine mixI_take (.pointer (some ⟨w.heap.size, 0, none⟩)) rfl rfl (fun u hu => by obtain ⟨k0, k1, k2, k3, k4, k5⟩ := BX0.out.below hu; go_simp) ?_
  refine mixI_take (.pointer (some ⟨w.heap.size, 1, none⟩)) rfl rfl (fun u hu => by obtain ⟨k0, k1, k2, k3, k4, k5⟩ := BX0.out.below hu; go_simp) ?_
  refine mixI_take (.string tt) rfl rfl (fun u hu => by obtain ⟨k0, k1, k2, k3, k4, k5⟩ := BX0.out.below hu; go_simp) ?_
  refine mixI_take (.pointer (some ⟨w.heap.size, 0, none⟩)) rfl rfl (fun u hu => by obtain ⟨k0, k1, k2, k3, k4, k5⟩ := BX0.out.below hu; go_simp) ?_
  refine mixI_take (.pointer (some ⟨w.heap.size, 2, none⟩)) rfl rfl (fun u hu => by obtain ⟨k0, k1, k2, k3, k4, k5⟩ := BX0.out.below hu; go_simp) ?_
  refine mixI_take (.int .i64 nn) rfl rfl (fun u hu => by obtain ⟨k0, k1, k2, k3, k4, k5⟩ := BX0.out.below hu; go_simp) ?_
  refine mixI_take (.bool (nn == 0)) rfl rfl (fun u hu => by obtain ⟨k0, k1, k2, k3, k4, k5⟩ := BX0.out.below hu; go_simp) ?_
  refine mixI_go rfl rfl fun K hK => wp_go (f := 52) (args := #[.slice (some ⟨w100.heap.size, 0, none⟩) 13 13, .string tt]) (by go_simp) ((HOC2.out _ (Below.refl _ _).drew).mono ?_)
  rintro e wQ ⟨rfl, rfl⟩
  have hb2 : Below w0.heap.size w0 w0.drew := (Below.refl _ _).drew
  refine hK.out _ _ hb2 ?_
  clear hK
  have hb2d := hb2
  generalize w0.drew = wQ at *
  refine mixI_go rfl rfl fun K hK => wp_val (v := .slice (some ⟨wQ.heap.size, 0, none⟩) 2 2) (w' := wQ.alloc (.cells #[.bool wb, .bool (nn == 0)] 4)) (by go_simp) ?_
  have hb4 := hb2.alloc hb2.size (.cells #[.bool wb, .bool (nn == 0)] 4)
  refine hK.out _ _ hb4 ?_
  clear hK hb4
  show wpList _ _ _ _ _ _
  have N1R := Lib.hid (mustA2 wb (nn == 0) wQ)
  rw [HE1.out] at N1R
  have HBR := Lib.hid (HB0.out.trans (hb2.mono HB0.out.size))
  have BXR := Lib.hid (BX0.out.below hb2)
  clear hb2 hb2d HOC2
  go_wp2_with (first | (go_at_call 22; go_must (with_reducible refine (N1R.out).mono ?_; rintro e w1 ⟨rfl, hb⟩; have HB1 := Lib.hid (HBR.out.trans (hb.mono HBR.out.size)); have BX1 := Lib.hid (BXR.out.below hb); clear hb; cases b1; (· simp only [okOr_false]; exact panic_post rfl ⟨rfl, HB1.out⟩); simp only [okOr_true]; obtain ⟨k0, k1, k2, k3, k4, k5⟩ := BX1.out)) | (go_at_call 43; go_must (with_reducible refine (N2.out _ HB1.out).mono ?_; rintro e w2 ⟨rfl, hb⟩; have HB2 := Lib.hid (HB1.out.trans (hb.mono HB1.out.size)); have BX2 := Lib.hid (BX1.out.below hb); clear hb; cases b2; (· simp only [okOr_false]; exact panic_post rfl ⟨rfl, HB2.out⟩); simp only [okOr_true]; obtain ⟨k0, k1, k2, k3, k4, k5⟩ := BX2.out)))
  go_ret
  exact ⟨rfl, HB2.out⟩
set_option maxRecDepth 100000 in
set_option maxHeartbeats 4000000 in
theorem expression_28 {tt : ByteArray} {nn aa : Int} {l : List Nd} {p : Option Addr} {c : Nat} {d : Bool} {w : World} (_hk : KidsV w p l) (hlen : l.length ≤ 1000000) (_ht : tt.size ≤ 1000000000) :
    Calls Try.prog 35 #[.agg (lookC (.mk 28 tt nn aa l) p c d)] w fun e w' => e = okB (shapeB d (.mk 28 tt nn aa l)) ∧ Below w.heap.size w w' := by
  rw [shape_28]
  show Calls Try.prog 35 #[.agg #[.int .u8 28, .string tt, .int .i64 nn, .int .i64 aa, .slice p l.length c, .bool d]] w fun e w' => e = okB ((nameB tt.data.toList && nn == 0) && areB l saidK 0 l.length) ∧ Below w.heap.size w w'
  generalize hnk2 : l.length = nk at *
  have M1 : ∀ u, Below w.heap.size w u → Calls Try.prog 39 #[.agg #[.int .u8 28, .string tt, .int .i64 nn, .int .i64 aa, .slice p nk c, .bool d]] u fun e w' => e = okOr ((nameB tt.data.toList && nn == 0)) ∧ Below u.heap.size u w' := by
    intro u hu; subst hnk2; exact names_any (x := .mk 28 tt nn aa l) _ht
  have M2 : ∀ (u : World), Below w.heap.size w u → Calls Try.prog 40 #[.agg #[.int .u8 28, .string tt, .int .i64 nn, .int .i64 aa, .slice p nk c, .bool d], .int .i64 (0), .int .i64 ((nk : Int)), (.func (.func 46) #[] #[])] u fun e w' => e = okOr (areB l saidK 0 nk) ∧ Below u.heap.size u w' := by
    intro u hu; subst hnk2; exact are_any (x := .mk 28 tt nn aa l) (fr := 0) (to := l.length) (KidsV.below hu _hk) (isP_said u) (by first | exact Nat.le_refl _ | (show _ ≤ l.length; simp) | (show _ ≤ l.length; omega)) hlen (by omega)
  generalize (nameB tt.data.toList && nn == 0) = b1 at *
  generalize (areB l saidK 0 nk) = b2 at *
  have N1 := Lib.hid M1; clear M1
  have N2 := Lib.hid M2; clear M2
  have HB0 : Hid (Below w.heap.size w (w.alloc (.cells #[.int .u8 28, .string tt, .int .i64 nn, .int .i64 aa, .slice p nk c, .bool d] 42))) := Lib.hid ((Below.refl w.heap.size w).alloc (Nat.le_refl _) _)
  have BX0 : Hid (BoxAt (w.alloc (.cells #[.int .u8 28, .string tt, .int .i64 nn, .int .i64 aa, .slice p nk c, .bool d] 42)) w.heap.size (.int .u8 28) (.string tt) (.int .i64 nn) (.int .i64 aa) (.slice p nk c) (.bool d)) := Lib.hid BoxAt.new
  have HNK := Lib.hid hnk2; clear hnk2 _hk _ht hlen
  go_enter Try.func35, Try.ntmps35
  have HOP := Lib.hid (fun w => operators_any w)
  have hsz := operators_size
  have hst : ∀ w1 : World, (storeCells ⟨w1.heap.size, 0, none⟩ operatorsR.toList 0).run Try.prog (w1.alloc (.cells #[.string { data := #[] }, .string { data := #[] }, .string { data := #[] }, .string { data := #[] }, .string { data := #[] }, .string { data := #[] }, .string { data := #[] }, .string { data := #[] }, .string { data := #[] }, .string { data := #[] }, .string { data := #[] }, .string { data := #[] }, .string { data := #[] }] 59)) = .ok () (w1.alloc (.cells operatorsR 59)) := fun w1 => run_storeCells_new w1 59 #[.string { data := #[] }, .string { data := #[] }, .string { data := #[] }, .string { data := #[] }, .string { data := #[] }, .string { data := #[] }, .string { data := #[] }, .string { data := #[] }, .string { data := #[] }, .string { data := #[] }, .string { data := #[] }, .string { data := #[] }, .string { data := #[] }] operatorsR (by kernel_rfl) (by kernel_rfl) (by kernel_rfl)
  have HOC : Hid (∀ w1 u : World, Below (w1.alloc (.cells operatorsR 59)).heap.size (w1.alloc (.cells operatorsR 59)) u → Calls Try.prog 52 #[.slice (some ⟨w1.heap.size, 0, none⟩) 13 13, .string tt] u fun e w' => e = .returned (.bool (opsL.contains tt.data.toList)) ∧ w' = u) := Lib.hid fun w1 u hu => ops_contains hu
  generalize operatorsR = R at *
  go_upto_region 3 with (go_at_call 51; go_must (refine (HOP.out _).mono ?_; rintro e w100 ⟨rfl, hb⟩; have HB00 := Lib.hid (HB0.out.trans (hb.mono HB0.out.size)); have BX00 := Lib.hid (BX0.out.below hb); clear hb HB0 BX0))
  have hb0 := HB00.out.alloc HB00.out.size (.cells R 59)
  have bx0 := BX00.out.below ((Below.refl _ _).alloc (Nat.le_refl _) (.cells R 59))
  have HOC2 := Lib.hid (HOC.out w100)
  clear HB00 BX00 HOP hst HOC
  generalize w100.alloc (.cells R 59) = w0 at *
  have HB0 := Lib.hid hb0; have BX0 := Lib.hid bx0; clear hb0
  obtain ⟨k0, k1, k2, k3, k4, k5⟩ := bx0
  go_wp2_with (first | (go_at_call 39; go_must (with_reducible refine (N1.out _ HB0.out).mono ?_; rintro e w1 ⟨rfl, hb⟩; have HB1 := Lib.hid (HB0.out.trans (hb.mono HB0.out.size)); have BX1 := Lib.hid (BX0.out.below hb); clear hb; cases b1; (· simp only [okOr_false]; exact panic_post rfl ⟨rfl, HB1.out⟩); simp only [okOr_true]; obtain ⟨k0, k1, k2, k3, k4, k5⟩ := BX1.out)) | (go_at_call 40; go_must (with_reducible refine (N2.out _ HB1.out).mono ?_; rintro e w2 ⟨rfl, hb⟩; have HB2 := Lib.hid (HB1.out.trans (hb.mono HB1.out.size)); have BX2 := Lib.hid (BX1.out.below hb); clear hb; cases b2; (· simp only [okOr_false]; exact panic_post rfl ⟨rfl, HB2.out⟩); simp only [okOr_true]; obtain ⟨k0, k1, k2, k3, k4, k5⟩ := BX2.out)))
  go_ret
  exact ⟨rfl, HB2.out⟩
set_option maxRecDepth 100000 in
set_option maxHeartbeats 4000000 in
theorem expression_29 {tt : ByteArray} {nn aa : Int} {l : List Nd} {p : Option Addr} {c : Nat} {d : Bool} {w : World} (_hk : KidsV w p l) (hlen : l.length ≤ 1000000) (_ht : tt.size ≤ 1000000000) :
    Calls Try.prog 35 #[.agg (lookC (.mk 29 tt nn aa l) p c d)] w fun e w' => e = okB (shapeB d (.mk 29 tt nn aa l)) ∧ Below w.heap.size w w' := by
  rw [shape_29]
  show Calls Try.prog 35 #[.agg #[.int .u8 29, .string tt, .int .i64 nn, .int .i64 aa, .slice p l.length c, .bool d]] w fun e w' => e = okB ((tt.data.toList == [] && nn == 0) && allB [saidK, saidK] l) ∧ Below w.heap.size w w'
  generalize hnk2 : l.length = nk at *
  have M1 : ∀ u, Below w.heap.size w u → Calls Try.prog 42 #[.agg #[.int .u8 29, .string tt, .int .i64 nn, .int .i64 aa, .slice p nk c, .bool d]] u fun e w' => e = okOr ((tt.data.toList == [] && nn == 0)) ∧ Below u.heap.size u w' := by
    intro u hu; subst hnk2; exact bare_any (x := .mk 29 tt nn aa l) u
  have M2 : ∀ u, Below w.heap.size w u → Calls Try.prog 43 #[.agg #[.int .u8 29, .string tt, .int .i64 nn, .int .i64 aa, .slice p nk c, .bool d], .slice (some ⟨u.heap.size, 0, none⟩) 2 2] (u.alloc (.cells #[.func (.func 46) #[] #[], .func (.func 46) #[] #[]] 55)) fun e w' => e = okOr (allB [saidK, saidK] l) ∧ Below u.heap.size u w' := by
    intro u hu; subst hnk2; exact (all_any (x := .mk 29 tt nn aa l) (ps := [saidK, saidK]) (KidsV.below (hu.alloc hu.size _) _hk) (funs2 isP_said u _) hlen (by simp)).mono fun _ _ h => ⟨h.1, ((Below.refl _ _).alloc (Nat.le_refl _) _).trans (h.2.mono (by simp))⟩
  generalize (tt.data.toList == [] && nn == 0) = b1 at *
  generalize (allB [saidK, saidK] l) = b2 at *
  have N1 := Lib.hid M1; clear M1
  have N2 := Lib.hid M2; clear M2
  have HB0 : Hid (Below w.heap.size w (w.alloc (.cells #[.int .u8 29, .string tt, .int .i64 nn, .int .i64 aa, .slice p nk c, .bool d] 42))) := Lib.hid ((Below.refl w.heap.size w).alloc (Nat.le_refl _) _)
  have BX0 : Hid (BoxAt (w.alloc (.cells #[.int .u8 29, .string tt, .int .i64 nn, .int .i64 aa, .slice p nk c, .bool d] 42)) w.heap.size (.int .u8 29) (.string tt) (.int .i64 nn) (.int .i64 aa) (.slice p nk c) (.bool d)) := Lib.hid BoxAt.new
  have HNK := Lib.hid hnk2; clear hnk2 _hk _ht hlen
  go_enter Try.func35, Try.ntmps35
  have HOP := Lib.hid (fun w => operators_any w)
  have hsz := operators_size
  have hst : ∀ w1 : World, (storeCells ⟨w1.heap.size, 0, none⟩ operatorsR.toList 0).run Try.prog (w1.alloc (.cells #[.string { data := #[] }, .string { data := #[] }, .string { data := #[] }, .string { data := #[] }, .string { data := #[] }, .string { data := #[] }, .string { data := #[] }, .string { data := #[] }, .string { data := #[] }, .string { data := #[] }, .string { data := #[] }, .string { data := #[] }, .string { data := #[] }] 59)) = .ok () (w1.alloc (.cells operatorsR 59)) := fun w1 => run_storeCells_new w1 59 #[.string { data := #[] }, .string { data := #[] }, .string { data := #[] }, .string { data := #[] }, .string { data := #[] }, .string { data := #[] }, .string { data := #[] }, .string { data := #[] }, .string { data := #[] }, .string { data := #[] }, .string { data := #[] }, .string { data := #[] }, .string { data := #[] }] operatorsR (by kernel_rfl) (by kernel_rfl) (by kernel_rfl)
  have HOC : Hid (∀ w1 u : World, Below (w1.alloc (.cells operatorsR 59)).heap.size (w1.alloc (.cells operatorsR 59)) u → Calls Try.prog 52 #[.slice (some ⟨w1.heap.size, 0, none⟩) 13 13, .string tt] u fun e w' => e = .returned (.bool (opsL.contains tt.data.toList)) ∧ w' = u) := Lib.hid fun w1 u hu => ops_contains hu
  generalize operatorsR = R at *
  go_upto_region 3 with (go_at_call 51; go_must (refine (HOP.out _).mono ?_; rintro e w100 ⟨rfl, hb⟩; have HB00 := Lib.hid (HB0.out.trans (hb.mono HB0.out.size)); have BX00 := Lib.hid (BX0.out.below hb); clear hb HB0 BX0))
  have hb0 := HB00.out.alloc HB00.out.size (.cells R 59)
  have bx0 := BX00.out.below ((Below.refl _ _).alloc (Nat.le_refl _) (.cells R 59))
  have HOC2 := Lib.hid (HOC.out w100)
  clear HB00 BX00 HOP hst HOC
  generalize w100.alloc (.cells R 59) = w0 at *
  have HB0 := Lib.hid hb0; have BX0 := Lib.hid bx0; clear hb0
  obtain ⟨k0, k1, k2, k3, k4, k5⟩ := bx0
  go_wp2_with (first | (go_at_call 42; go_must (with_reducible refine (N1.out _ HB0.out).mono ?_; rintro e w1 ⟨rfl, hb⟩; have HB1 := Lib.hid (HB0.out.trans (hb.mono HB0.out.size)); have BX1 := Lib.hid (BX0.out.below hb); clear hb; cases b1; (· simp only [okOr_false]; exact panic_post rfl ⟨rfl, HB1.out⟩); simp only [okOr_true]; obtain ⟨k0, k1, k2, k3, k4, k5⟩ := BX1.out)) | (go_at_call 43; go_must (with_reducible refine (N2.out _ HB1.out).mono ?_; rintro e w2 ⟨rfl, hb⟩; have HB2 := Lib.hid (HB1.out.trans (hb.mono HB1.out.size)); have BX2 := Lib.hid (BX1.out.below hb); clear hb; cases b2; (· simp only [okOr_false]; exact panic_post rfl ⟨rfl, HB2.out⟩); simp only [okOr_true]; obtain ⟨k0, k1, k2, k3, k4, k5⟩ := BX2.out)))
  go_ret
  exact ⟨rfl, HB2.out⟩
set_option maxRecDepth 100000 in
set_option maxHeartbeats 4000000 in
theorem expression_30 {tt : ByteArray} {nn aa : Int} {l : List Nd} {p : Option Addr} {c : Nat} {d : Bool} {w : World} (_hk : KidsV w p l) (hlen : l.length ≤ 1000000) (_ht : tt.size ≤ 1000000000) :
    Calls Try.prog 35 #[.agg (lookC (.mk 30 tt nn aa l) p c d)] w fun e w' => e = okB (shapeB d (.mk 30 tt nn aa l)) ∧ Below w.heap.size w w' := by
  rw [shape_30]
  show Calls Try.prog 35 #[.agg #[.int .u8 30, .string tt, .int .i64 nn, .int .i64 aa, .slice p l.length c, .bool d]] w fun e w' => e = okB ((tt.data.toList == [] && nn == 0) && allB [saidK, saidK] l) ∧ Below w.heap.size w w'
  generalize hnk2 : l.length = nk at *
  have M1 : ∀ u, Below w.heap.size w u → Calls Try.prog 42 #[.agg #[.int .u8 30, .string tt, .int .i64 nn, .int .i64 aa, .slice p nk c, .bool d]] u fun e w' => e = okOr ((tt.data.toList == [] && nn == 0)) ∧ Below u.heap.size u w' := by
    intro u hu; subst hnk2; exact bare_any (x := .mk 30 tt nn aa l) u
  have M2 : ∀ u, Below w.heap.size w u → Calls Try.prog 43 #[.agg #[.int .u8 30, .string tt, .int .i64 nn, .int .i64 aa, .slice p nk c, .bool d], .slice (some ⟨u.heap.size, 0, none⟩) 2 2] (u.alloc (.cells #[.func (.func 46) #[] #[], .func (.func 46) #[] #[]] 55)) fun e w' => e = okOr (allB [saidK, saidK] l) ∧ Below u.heap.size u w' := by
    intro u hu; subst hnk2; exact (all_any (x := .mk 30 tt nn aa l) (ps := [saidK, saidK]) (KidsV.below (hu.alloc hu.size _) _hk) (funs2 isP_said u _) hlen (by simp)).mono fun _ _ h => ⟨h.1, ((Below.refl _ _).alloc (Nat.le_refl _) _).trans (h.2.mono (by simp))⟩
  generalize (tt.data.toList == [] && nn == 0) = b1 at *
  generalize (allB [saidK, saidK] l) = b2 at *
  have N1 := Lib.hid M1; clear M1
  have N2 := Lib.hid M2; clear M2
  have HB0 : Hid (Below w.heap.size w (w.alloc (.cells #[.int .u8 30, .string tt, .int .i64 nn, .int .i64 aa, .slice p nk c, .bool d] 42))) := Lib.hid ((Below.refl w.heap.size w).alloc (Nat.le_refl _) _)
  have BX0 : Hid (BoxAt (w.alloc (.cells #[.int .u8 30, .string tt, .int .i64 nn, .int .i64 aa, .slice p nk c, .bool d] 42)) w.heap.size (.int .u8 30) (.string tt) (.int .i64 nn) (.int .i64 aa) (.slice p nk c) (.bool d)) := Lib.hid BoxAt.new
  have HNK := Lib.hid hnk2; clear hnk2 _hk _ht hlen
  go_enter Try.func35, Try.ntmps35
  have HOP := Lib.hid (fun w => operators_any w)
  have hsz := operators_size
  have hst : ∀ w1 : World, (storeCells ⟨w1.heap.size, 0, none⟩ operatorsR.toList 0).run Try.prog (w1.alloc (.cells #[.string { data := #[] }, .string { data := #[] }, .string { data := #[] }, .string { data := #[] }, .string { data := #[] }, .string { data := #[] }, .string { data := #[] }, .string { data := #[] }, .string { data := #[] }, .string { data := #[] }, .string { data := #[] }, .string { data := #[] }, .string { data := #[] }] 59)) = .ok () (w1.alloc (.cells operatorsR 59)) := fun w1 => run_storeCells_new w1 59 #[.string { data := #[] }, .string { data := #[] }, .string { data := #[] }, .string { data := #[] }, .string { data := #[] }, .string { data := #[] }, .string { data := #[] }, .string { data := #[] }, .string { data := #[] }, .string { data := #[] }, .string { data := #[] }, .string { data := #[] }, .string { data := #[] }] operatorsR (by kernel_rfl) (by kernel_rfl) (by kernel_rfl)
  have HOC : Hid (∀ w1 u : World, Below (w1.alloc (.cells operatorsR 59)).heap.size (w1.alloc (.cells operatorsR 59)) u → Calls Try.prog 52 #[.slice (some ⟨w1.heap.size, 0, none⟩) 13 13, .string tt] u fun e w' => e = .returned (.bool (opsL.contains tt.data.toList)) ∧ w' = u) := Lib.hid fun w1 u hu => ops_contains hu
  generalize operatorsR = R at *
  go_upto_region 3 with (go_at_call 51; go_must (refine (HOP.out _).mono ?_; rintro e w100 ⟨rfl, hb⟩; have HB00 := Lib.hid (HB0.out.trans (hb.mono HB0.out.size)); have BX00 := Lib.hid (BX0.out.below hb); clear hb HB0 BX0))
  have hb0 := HB00.out.alloc HB00.out.size (.cells R 59)
  have bx0 := BX00.out.below ((Below.refl _ _).alloc (Nat.le_refl _) (.cells R 59))
  have HOC2 := Lib.hid (HOC.out w100)
  clear HB00 BX00 HOP hst HOC
  generalize w100.alloc (.cells R 59) = w0 at *
  have HB0 := Lib.hid hb0; have BX0 := Lib.hid bx0; clear hb0
  obtain ⟨k0, k1, k2, k3, k4, k5⟩ := bx0
  go_wp2_with (first | (go_at_call 42; go_must (with_reducible refine (N1.out _ HB0.out).mono ?_; rintro e w1 ⟨rfl, hb⟩; have HB1 := Lib.hid (HB0.out.trans (hb.mono HB0.out.size)); have BX1 := Lib.hid (BX0.out.below hb); clear hb; cases b1; (· simp only [okOr_false]; exact panic_post rfl ⟨rfl, HB1.out⟩); simp only [okOr_true]; obtain ⟨k0, k1, k2, k3, k4, k5⟩ := BX1.out)) | (go_at_call 43; go_must (with_reducible refine (N2.out _ HB1.out).mono ?_; rintro e w2 ⟨rfl, hb⟩; have HB2 := Lib.hid (HB1.out.trans (hb.mono HB1.out.size)); have BX2 := Lib.hid (BX1.out.below hb); clear hb; cases b2; (· simp only [okOr_false]; exact panic_post rfl ⟨rfl, HB2.out⟩); simp only [okOr_true]; obtain ⟨k0, k1, k2, k3, k4, k5⟩ := BX2.out)))
  go_ret
  exact ⟨rfl, HB2.out⟩
set_option maxRecDepth 100000 in
set_option maxHeartbeats 4000000 in
theorem expression_31 {tt : ByteArray} {nn aa : Int} {l : List Nd} {p : Option Addr} {c : Nat} {d : Bool} {w : World} (_hk : KidsV w p l) (hlen : l.length ≤ 1000000) (_ht : tt.size ≤ 1000000000) :
    Calls Try.prog 35 #[.agg (lookC (.mk 31 tt nn aa l) p c d)] w fun e w' => e = okB (shapeB d (.mk 31 tt nn aa l)) ∧ Below w.heap.size w w' := by
  rw [shape_31]
  show Calls Try.prog 35 #[.agg #[.int .u8 31, .string tt, .int .i64 nn, .int .i64 aa, .slice p l.length c, .bool d]] w fun e w' => e = okB ((nameB tt.data.toList && nn == 0) && allB [saidK] l) ∧ Below w.heap.size w w'
  generalize hnk2 : l.length = nk at *
  have M1 : ∀ u, Below w.heap.size w u → Calls Try.prog 39 #[.agg #[.int .u8 31, .string tt, .int .i64 nn, .int .i64 aa, .slice p nk c, .bool d]] u fun e w' => e = okOr ((nameB tt.data.toList && nn == 0)) ∧ Below u.heap.size u w' := by
    intro u hu; subst hnk2; exact names_any (x := .mk 31 tt nn aa l) _ht
  have M2 : ∀ u, Below w.heap.size w u → Calls Try.prog 43 #[.agg #[.int .u8 31, .string tt, .int .i64 nn, .int .i64 aa, .slice p nk c, .bool d], .slice (some ⟨u.heap.size, 0, none⟩) 1 1] (u.alloc (.cells #[.func (.func 46) #[] #[]] 55)) fun e w' => e = okOr (allB [saidK] l) ∧ Below u.heap.size u w' := by
    intro u hu; subst hnk2; exact (all_any (x := .mk 31 tt nn aa l) (ps := [saidK]) (KidsV.below (hu.alloc hu.size _) _hk) (funs1 isP_said u _) hlen (by simp)).mono fun _ _ h => ⟨h.1, ((Below.refl _ _).alloc (Nat.le_refl _) _).trans (h.2.mono (by simp))⟩
  generalize (nameB tt.data.toList && nn == 0) = b1 at *
  generalize (allB [saidK] l) = b2 at *
  have N1 := Lib.hid M1; clear M1
  have N2 := Lib.hid M2; clear M2
  have HB0 : Hid (Below w.heap.size w (w.alloc (.cells #[.int .u8 31, .string tt, .int .i64 nn, .int .i64 aa, .slice p nk c, .bool d] 42))) := Lib.hid ((Below.refl w.heap.size w).alloc (Nat.le_refl _) _)
  have BX0 : Hid (BoxAt (w.alloc (.cells #[.int .u8 31, .string tt, .int .i64 nn, .int .i64 aa, .slice p nk c, .bool d] 42)) w.heap.size (.int .u8 31) (.string tt) (.int .i64 nn) (.int .i64 aa) (.slice p nk c) (.bool d)) := Lib.hid BoxAt.new
  have HNK := Lib.hid hnk2; clear hnk2 _hk _ht hlen
  go_enter Try.func35, Try.ntmps35
  have HOP := Lib.hid (fun w => operators_any w)
  have hsz := operators_size
  have hst : ∀ w1 : World, (storeCells ⟨w1.heap.size, 0, none⟩ operatorsR.toList 0).run Try.prog (w1.alloc (.cells #[.string { data := #[] }, .string { data := #[] }, .string { data := #[] }, .string { data := #[] }, .string { data := #[] }, .string { data := #[] }, .string { data := #[] }, .string { data := #[] }, .string { data := #[] }, .string { data := #[] }, .string { data := #[] }, .string { data := #[] }, .string { data := #[] }] 59)) = .ok () (w1.alloc (.cells operatorsR 59)) := fun w1 => run_storeCells_new w1 59 #[.string { data := #[] }, .string { data := #[] }, .string { data := #[] }, .string { data := #[] }, .string { data := #[] }, .string { data := #[] }, .string { data := #[] }, .string { data := #[] }, .string { data := #[] }, .string { data := #[] }, .string { data := #[] }, .string { data := #[] }, .string { data := #[] }] operatorsR (by kernel_rfl) (by kernel_rfl) (by kernel_rfl)
  have HOC : Hid (∀ w1 u : World, Below (w1.alloc (.cells operatorsR 59)).heap.size (w1.alloc (.cells operatorsR 59)) u → Calls Try.prog 52 #[.slice (some ⟨w1.heap.size, 0, none⟩) 13 13, .string tt] u fun e w' => e = .returned (.bool (opsL.contains tt.data.toList)) ∧ w' = u) := Lib.hid fun w1 u hu => ops_contains hu
  generalize operatorsR = R at *
  go_upto_region 3 with (go_at_call 51; go_must (refine (HOP.out _).mono ?_; rintro e w100 ⟨rfl, hb⟩; have HB00 := Lib.hid (HB0.out.trans (hb.mono HB0.out.size)); have BX00 := Lib.hid (BX0.out.below hb); clear hb HB0 BX0))
  have hb0 := HB00.out.alloc HB00.out.size (.cells R 59)
  have bx0 := BX00.out.below ((Below.refl _ _).alloc (Nat.le_refl _) (.cells R 59))
  have HOC2 := Lib.hid (HOC.out w100)
  clear HB00 BX00 HOP hst HOC
  generalize w100.alloc (.cells R 59) = w0 at *
  have HB0 := Lib.hid hb0; have BX0 := Lib.hid bx0; clear hb0
  obtain ⟨k0, k1, k2, k3, k4, k5⟩ := bx0
  go_wp2_with (first | (go_at_call 39; go_must (with_reducible refine (N1.out _ HB0.out).mono ?_; rintro e w1 ⟨rfl, hb⟩; have HB1 := Lib.hid (HB0.out.trans (hb.mono HB0.out.size)); have BX1 := Lib.hid (BX0.out.below hb); clear hb; cases b1; (· simp only [okOr_false]; exact panic_post rfl ⟨rfl, HB1.out⟩); simp only [okOr_true]; obtain ⟨k0, k1, k2, k3, k4, k5⟩ := BX1.out)) | (go_at_call 43; go_must (with_reducible refine (N2.out _ HB1.out).mono ?_; rintro e w2 ⟨rfl, hb⟩; have HB2 := Lib.hid (HB1.out.trans (hb.mono HB1.out.size)); have BX2 := Lib.hid (BX1.out.below hb); clear hb; cases b2; (· simp only [okOr_false]; exact panic_post rfl ⟨rfl, HB2.out⟩); simp only [okOr_true]; obtain ⟨k0, k1, k2, k3, k4, k5⟩ := BX2.out)))
  go_ret
  exact ⟨rfl, HB2.out⟩
set_option maxRecDepth 100000 in
set_option maxHeartbeats 4000000 in
theorem expression_34 {tt : ByteArray} {nn aa : Int} {l : List Nd} {p : Option Addr} {c : Nat} {d : Bool} {w : World} (_hk : KidsV w p l) (hlen : l.length ≤ 1000000) (_ht : tt.size ≤ 1000000000) :
    Calls Try.prog 35 #[.agg (lookC (.mk 34 tt nn aa l) p c d)] w fun e w' => e = okB (shapeB d (.mk 34 tt nn aa l)) ∧ Below w.heap.size w w' := by
  rw [shape_34]
  show Calls Try.prog 35 #[.agg #[.int .u8 34, .string tt, .int .i64 nn, .int .i64 aa, .slice p l.length c, .bool d]] w fun e w' => e = okB ((nameB tt.data.toList && nn == 0) && allB [saidK] l) ∧ Below w.heap.size w w'
  generalize hnk2 : l.length = nk at *
  have M1 : ∀ u, Below w.heap.size w u → Calls Try.prog 39 #[.agg #[.int .u8 34, .string tt, .int .i64 nn, .int .i64 aa, .slice p nk c, .bool d]] u fun e w' => e = okOr ((nameB tt.data.toList && nn == 0)) ∧ Below u.heap.size u w' := by
    intro u hu; subst hnk2; exact names_any (x := .mk 34 tt nn aa l) _ht
  have M2 : ∀ u, Below w.heap.size w u → Calls Try.prog 43 #[.agg #[.int .u8 34, .string tt, .int .i64 nn, .int .i64 aa, .slice p nk c, .bool d], .slice (some ⟨u.heap.size, 0, none⟩) 1 1] (u.alloc (.cells #[.func (.func 46) #[] #[]] 55)) fun e w' => e = okOr (allB [saidK] l) ∧ Below u.heap.size u w' := by
    intro u hu; subst hnk2; exact (all_any (x := .mk 34 tt nn aa l) (ps := [saidK]) (KidsV.below (hu.alloc hu.size _) _hk) (funs1 isP_said u _) hlen (by simp)).mono fun _ _ h => ⟨h.1, ((Below.refl _ _).alloc (Nat.le_refl _) _).trans (h.2.mono (by simp))⟩
  generalize (nameB tt.data.toList && nn == 0) = b1 at *
  generalize (allB [saidK] l) = b2 at *
  have N1 := Lib.hid M1; clear M1
  have N2 := Lib.hid M2; clear M2
  have HB0 : Hid (Below w.heap.size w (w.alloc (.cells #[.int .u8 34, .string tt, .int .i64 nn, .int .i64 aa, .slice p nk c, .bool d] 42))) := Lib.hid ((Below.refl w.heap.size w).alloc (Nat.le_refl _) _)
  have BX0 : Hid (BoxAt (w.alloc (.cells #[.int .u8 34, .string tt, .int .i64 nn, .int .i64 aa, .slice p nk c, .bool d] 42)) w.heap.size (.int .u8 34) (.string tt) (.int .i64 nn) (.int .i64 aa) (.slice p nk c) (.bool d)) := Lib.hid BoxAt.new
  have HNK := Lib.hid hnk2; clear hnk2 _hk _ht hlen
  go_enter Try.func35, Try.ntmps35
  have HOP := Lib.hid (fun w => operators_any w)
  have hsz := operators_size
  have hst : ∀ w1 : World, (storeCells ⟨w1.heap.size, 0, none⟩ operatorsR.toList 0).run Try.prog (w1.alloc (.cells #[.string { data := #[] }, .string { data := #[] }, .string { data := #[] }, .string { data := #[] }, .string { data := #[] }, .string { data := #[] }, .string { data := #[] }, .string { data := #[] }, .string { data := #[] }, .string { data := #[] }, .string { data := #[] }, .string { data := #[] }, .string { data := #[] }] 59)) = .ok () (w1.alloc (.cells operatorsR 59)) := fun w1 => run_storeCells_new w1 59 #[.string { data := #[] }, .string { data := #[] }, .string { data := #[] }, .string { data := #[] }, .string { data := #[] }, .string { data := #[] }, .string { data := #[] }, .string { data := #[] }, .string { data := #[] }, .string { data := #[] }, .string { data := #[] }, .string { data := #[] }, .string { data := #[] }] operatorsR (by kernel_rfl) (by kernel_rfl) (by kernel_rfl)
  have HOC : Hid (∀ w1 u : World, Below (w1.alloc (.cells operatorsR 59)).heap.size (w1.alloc (.cells operatorsR 59)) u → Calls Try.prog 52 #[.slice (some ⟨w1.heap.size, 0, none⟩) 13 13, .string tt] u fun e w' => e = .returned (.bool (opsL.contains tt.data.toList)) ∧ w' = u) := Lib.hid fun w1 u hu => ops_contains hu
  generalize operatorsR = R at *
  go_upto_region 3 with (go_at_call 51; go_must (refine (HOP.out _).mono ?_; rintro e w100 ⟨rfl, hb⟩; have HB00 := Lib.hid (HB0.out.trans (hb.mono HB0.out.size)); have BX00 := Lib.hid (BX0.out.below hb); clear hb HB0 BX0))
  have hb0 := HB00.out.alloc HB00.out.size (.cells R 59)
  have bx0 := BX00.out.below ((Below.refl _ _).alloc (Nat.le_refl _) (.cells R 59))
  have HOC2 := Lib.hid (HOC.out w100)
  clear HB00 BX00 HOP hst HOC
  generalize w100.alloc (.cells R 59) = w0 at *
  have HB0 := Lib.hid hb0; have BX0 := Lib.hid bx0; clear hb0
  obtain ⟨k0, k1, k2, k3, k4, k5⟩ := bx0
  go_wp2_with (first | (go_at_call 39; go_must (with_reducible refine (N1.out _ HB0.out).mono ?_; rintro e w1 ⟨rfl, hb⟩; have HB1 := Lib.hid (HB0.out.trans (hb.mono HB0.out.size)); have BX1 := Lib.hid (BX0.out.below hb); clear hb; cases b1; (· simp only [okOr_false]; exact panic_post rfl ⟨rfl, HB1.out⟩); simp only [okOr_true]; obtain ⟨k0, k1, k2, k3, k4, k5⟩ := BX1.out)) | (go_at_call 43; go_must (with_reducible refine (N2.out _ HB1.out).mono ?_; rintro e w2 ⟨rfl, hb⟩; have HB2 := Lib.hid (HB1.out.trans (hb.mono HB1.out.size)); have BX2 := Lib.hid (BX1.out.below hb); clear hb; cases b2; (· simp only [okOr_false]; exact panic_post rfl ⟨rfl, HB2.out⟩); simp only [okOr_true]; obtain ⟨k0, k1, k2, k3, k4, k5⟩ := BX2.out)))
  go_ret
  exact ⟨rfl, HB2.out⟩
set_option maxRecDepth 100000 in
set_option maxHeartbeats 4000000 in
theorem expression_32 {tt : ByteArray} {nn aa : Int} {l : List Nd} {p : Option Addr} {c : Nat} {d : Bool} {w : World} (_hk : KidsV w p l) (hlen : l.length ≤ 1000000) (_ht : tt.size ≤ 1000000000) (h : 1 ≤ l.length) :
    Calls Try.prog 35 #[.agg (lookC (.mk 32 tt nn aa l) p c d)] w fun e w' => e = okB (shapeB d (.mk 32 tt nn aa l)) ∧ Below w.heap.size w w' := by
  rw [shape_32 h]
  show Calls Try.prog 35 #[.agg #[.int .u8 32, .string tt, .int .i64 nn, .int .i64 aa, .slice p l.length c, .bool d]] w fun e w' => e = okB ((tt.data.toList == [] && nn == 0) && (areB l (fun k => [8].contains k) 0 1 && areB l saidK 1 l.length)) ∧ Below w.heap.size w w'
  generalize hnk2 : l.length = nk at *
  have g1 : (1 : Int) ≤ (nk : Int) := by omega
  have M1 : ∀ u, Below w.heap.size w u → Calls Try.prog 42 #[.agg #[.int .u8 32, .string tt, .int .i64 nn, .int .i64 aa, .slice p nk c, .bool d]] u fun e w' => e = okOr ((tt.data.toList == [] && nn == 0)) ∧ Below u.heap.size u w' := by
    intro u hu; subst hnk2; exact bare_any (x := .mk 32 tt nn aa l) u
  have M2 : ∀ u, Below w.heap.size w u → Calls Try.prog 22 #[.slice (some ⟨u.heap.size, 0, none⟩) 1 1] (u.alloc (.cells #[.bool true] 4)) fun e w' => e = okOr (true) ∧ Below u.heap.size u w' := fun u _ => mustA1 true u
  have M3 : ∀ (u : World) (v : Value), Below w.heap.size w u → IsP u v (fun k => [8].contains k) → Calls Try.prog 40 #[.agg #[.int .u8 32, .string tt, .int .i64 nn, .int .i64 aa, .slice p nk c, .bool d], .int .i64 (0), .int .i64 (1), v] u fun e w' => e = okOr (areB l (fun k => [8].contains k) 0 1) ∧ Below u.heap.size u w' := by
    intro u v hu hv; subst hnk2; exact are_any (x := .mk 32 tt nn aa l) (fr := 0) (to := 1) (KidsV.below hu _hk) hv (by first | exact Nat.le_refl _ | (show _ ≤ l.length; simp) | (show _ ≤ l.length; omega)) hlen (by omega)
  have M4 : ∀ (u : World), Below w.heap.size w u → Calls Try.prog 40 #[.agg #[.int .u8 32, .string tt, .int .i64 nn, .int .i64 aa, .slice p nk c, .bool d], .int .i64 (1), .int .i64 ((nk : Int)), (.func (.func 46) #[] #[])] u fun e w' => e = okOr (areB l saidK 1 nk) ∧ Below u.heap.size u w' := by
    intro u hu; subst hnk2; exact are_any (x := .mk 32 tt nn aa l) (fr := 1) (to := l.length) (KidsV.below hu _hk) (isP_said u) (by first | exact Nat.le_refl _ | (show _ ≤ l.length; simp) | (show _ ≤ l.length; omega)) hlen (by omega)
  generalize (tt.data.toList == [] && nn == 0) = b1 at *
  generalize (areB l (fun k => [8].contains k) 0 1) = b3 at *
  generalize (areB l saidK 1 nk) = b4 at *
  have N1 := Lib.hid M1; clear M1
  have N2 := Lib.hid M2; clear M2
  have N3 := Lib.hid M3; clear M3
  have N4 := Lib.hid M4; clear M4
  have HB0 : Hid (Below w.heap.size w (w.alloc (.cells #[.int .u8 32, .string tt, .int .i64 nn, .int .i64 aa, .slice p nk c, .bool d] 42))) := Lib.hid ((Below.refl w.heap.size w).alloc (Nat.le_refl _) _)
  have BX0 : Hid (BoxAt (w.alloc (.cells #[.int .u8 32, .string tt, .int .i64 nn, .int .i64 aa, .slice p nk c, .bool d] 42)) w.heap.size (.int .u8 32) (.string tt) (.int .i64 nn) (.int .i64 aa) (.slice p nk c) (.bool d)) := Lib.hid BoxAt.new
  have HNK := Lib.hid hnk2; clear hnk2 _hk _ht hlen
  go_enter Try.func35, Try.ntmps35
  have HOP := Lib.hid (fun w => operators_any w)
  have hsz := operators_size
  have hst : ∀ w1 : World, (storeCells ⟨w1.heap.size, 0, none⟩ operatorsR.toList 0).run Try.prog (w1.alloc (.cells #[.string { data := #[] }, .string { data := #[] }, .string { data := #[] }, .string { data := #[] }, .string { data := #[] }, .string { data := #[] }, .string { data := #[] }, .string { data := #[] }, .string { data := #[] }, .string { data := #[] }, .string { data := #[] }, .string { data := #[] }, .string { data := #[] }] 59)) = .ok () (w1.alloc (.cells operatorsR 59)) := fun w1 => run_storeCells_new w1 59 #[.string { data := #[] }, .string { data := #[] }, .string { data := #[] }, .string { data := #[] }, .string { data := #[] }, .string { data := #[] }, .string { data := #[] }, .string { data := #[] }, .string { data := #[] }, .string { data := #[] }, .string { data := #[] }, .string { data := #[] }, .string { data := #[] }] operatorsR (by kernel_rfl) (by kernel_rfl) (by kernel_rfl)
  have HOC : Hid (∀ w1 u : World, Below (w1.alloc (.cells operatorsR 59)).heap.size (w1.alloc (.cells operatorsR 59)) u → Calls Try.prog 52 #[.slice (some ⟨w1.heap.size, 0, none⟩) 13 13, .string tt] u fun e w' => e = .returned (.bool (opsL.contains tt.data.toList)) ∧ w' = u) := Lib.hid fun w1 u hu => ops_contains hu
  generalize operatorsR = R at *
  go_upto_region 3 with (go_at_call 51; go_must (refine (HOP.out _).mono ?_; rintro e w100 ⟨rfl, hb⟩; have HB00 := Lib.hid (HB0.out.trans (hb.mono HB0.out.size)); have BX00 := Lib.hid (BX0.out.below hb); clear hb HB0 BX0))
  have hb0 := HB00.out.alloc HB00.out.size (.cells R 59)
  have bx0 := BX00.out.below ((Below.refl _ _).alloc (Nat.le_refl _) (.cells R 59))
  have HOC2 := Lib.hid (HOC.out w100)
  clear HB00 BX00 HOP hst HOC
  generalize w100.alloc (.cells R 59) = w0 at *
  have HB0 := Lib.hid hb0; have BX0 := Lib.hid bx0; clear hb0
  obtain ⟨k0, k1, k2, k3, k4, k5⟩ := bx0
  go_wp2_with (first | (go_at_call 42; go_must (with_reducible refine (N1.out _ HB0.out).mono ?_; rintro e w1 ⟨rfl, hb⟩; have HB1 := Lib.hid (HB0.out.trans (hb.mono HB0.out.size)); have BX1 := Lib.hid (BX0.out.below hb); clear hb; cases b1; (· simp only [okOr_false]; exact panic_post rfl ⟨rfl, HB1.out⟩); simp only [okOr_true]; obtain ⟨k0, k1, k2, k3, k4, k5⟩ := BX1.out)) | (go_at_call 22; go_must (with_reducible refine (N2.out _ HB1.out).mono ?_; rintro e w2 ⟨rfl, hb⟩; have HB2 := Lib.hid (HB1.out.trans (hb.mono HB1.out.size)); have BX2 := Lib.hid (BX1.out.below hb); clear hb; simp only [okOr_true]; obtain ⟨k0, k1, k2, k3, k4, k5⟩ := BX2.out)))
  clear k0 k1 k2 k3 k4 k5
  refine wp_region_mixI (l1 := [_, _, _]) (l2 := [_]) [(0, true), (1, false), (2, false)] (fun u => Below w2.heap.size w2 u) (by kernel_rfl) (by kernel_rfl) (by repeat (first | refine loose_then ?_ | refine loose_block ?_ | exact loose_body (P := Try.prog) (fn := Try.f35))) ((Below.refl _ w2).drew) ?_
  refine mixI_take (.agg #[.int .u8 32, .string tt, .int .i64 nn, .int .i64 aa, .slice p nk c, .bool d]) rfl rfl (fun u hu => by obtain ⟨k0, k1, k2, k3, k4, k5⟩ := BX2.out.below hu; go_simp) ?_
  refine mixI_go rfl rfl fun K hK => wp_val (v := .slice (some ⟨w2.heap.size, 0, none⟩) 1 1) (w' := w2.drew.alloc (.cells #[.int .u8 8] 22)) (by go_simp) ?_
  refine hK.out _ _ (((Below.refl _ w2).drew).alloc (Nat.le_refl _) _) ?_
  clear hK
  refine mixI_go rfl rfl fun K hK => wp_go (f := 41) (args := #[.slice (some ⟨w2.heap.size, 0, none⟩) 1 1]) (by go_simp) ((of_any (l := [8]) (by decide) (kinds1 _)).mono ?_)
  rintro e wR ⟨vR, rfl, hvR, hb⟩
  have hbR : Below w2.heap.size w2 wR := (((Below.refl _ w2).drew).alloc (Nat.le_refl _) (.cells #[.int .u8 8] 22)).trans (hb.mono (by simp))
  refine hK.out _ _ hbR ?_
  clear hK
  show wpList _ _ _ _ _ _
  have HBR := Lib.hid (HB2.out.trans (hbR.mono HB2.out.size))
  have N3R := Lib.hid (N3.out _ _ HBR.out hvR)
  have BXR := Lib.hid (BX2.out.below hbR)
  clear hb hvR hbR
  go_wp2_with (go_at_call 40; first | (with_reducible refine (N3R.out).mono ?_; rintro e w3 ⟨rfl, hb⟩; have HB3 := Lib.hid (HBR.out.trans (hb.mono HBR.out.size)); have BX3 := Lib.hid (BXR.out.below hb); clear hb; cases b3; (· simp only [okOr_false]; exact panic_post rfl ⟨rfl, HB3.out⟩); simp only [okOr_true]; obtain ⟨k0, k1, k2, k3, k4, k5⟩ := BX3.out) | (with_reducible refine (N4.out _ HB3.out).mono ?_; rintro e w4 ⟨rfl, hb⟩; have HB4 := Lib.hid (HB3.out.trans (hb.mono HB3.out.size)); have BX4 := Lib.hid (BX3.out.below hb); clear hb; cases b4; (· simp only [okOr_false]; exact panic_post rfl ⟨rfl, HB4.out⟩); simp only [okOr_true]; obtain ⟨k0, k1, k2, k3, k4, k5⟩ := BX4.out))
  go_ret
  exact ⟨rfl, HB4.out⟩
set_option maxRecDepth 100000 in
set_option maxHeartbeats 4000000 in
theorem expression_32n {tt : ByteArray} {nn aa : Int}  {p : Option Addr} {c : Nat} {d : Bool} {w : World} (_hk : KidsV w p []) (_ht : tt.size ≤ 1000000000) :
    Calls Try.prog 35 #[.agg (lookC (.mk 32 tt nn aa []) p c d)] w fun e w' => e = okB (shapeB d (.mk 32 tt nn aa [])) ∧ Below w.heap.size w w' := by
  rw [shape_32n (by simp)]
  show Calls Try.prog 35 #[.agg #[.int .u8 32, .string tt, .int .i64 nn, .int .i64 aa, .slice p 0 c, .bool d]] w fun e w' => e = okB ((tt.data.toList == [] && nn == 0) && false) ∧ Below w.heap.size w w'
  have hlen : ([] : List Nd).length ≤ 1000000 := by simp
  have M1 : ∀ u, Below w.heap.size w u → Calls Try.prog 42 #[.agg #[.int .u8 32, .string tt, .int .i64 nn, .int .i64 aa, .slice p 0 c, .bool d]] u fun e w' => e = okOr ((tt.data.toList == [] && nn == 0)) ∧ Below u.heap.size u w' := by
    intro u hu; exact bare_any (x := .mk 32 tt nn aa []) u
  have M2 : ∀ u, Below w.heap.size w u → Calls Try.prog 22 #[.slice (some ⟨u.heap.size, 0, none⟩) 1 1] (u.alloc (.cells #[.bool false] 4)) fun e w' => e = okOr (false) ∧ Below u.heap.size u w' := fun u _ => mustA1 false u
  generalize (tt.data.toList == [] && nn == 0) = b1 at *
  have N1 := Lib.hid M1; clear M1
  have N2 := Lib.hid M2; clear M2
  have HB0 : Hid (Below w.heap.size w (w.alloc (.cells #[.int .u8 32, .string tt, .int .i64 nn, .int .i64 aa, .slice p 0 c, .bool d] 42))) := Lib.hid ((Below.refl w.heap.size w).alloc (Nat.le_refl _) _)
  have BX0 : Hid (BoxAt (w.alloc (.cells #[.int .u8 32, .string tt, .int .i64 nn, .int .i64 aa, .slice p 0 c, .bool d] 42)) w.heap.size (.int .u8 32) (.string tt) (.int .i64 nn) (.int .i64 aa) (.slice p 0 c) (.bool d)) := Lib.hid BoxAt.new
  clear _hk _ht hlen
  go_enter Try.func35, Try.ntmps35
  have HOP := Lib.hid (fun w => operators_any w)
  have hsz := operators_size
  have hst : ∀ w1 : World, (storeCells ⟨w1.heap.size, 0, none⟩ operatorsR.toList 0).run Try.prog (w1.alloc (.cells #[.string { data := #[] }, .string { data := #[] }, .string { data := #[] }, .string { data := #[] }, .string { data := #[] }, .string { data := #[] }, .string { data := #[] }, .string { data := #[] }, .string { data := #[] }, .string { data := #[] }, .string { data := #[] }, .string { data := #[] }, .string { data := #[] }] 59)) = .ok () (w1.alloc (.cells operatorsR 59)) := fun w1 => run_storeCells_new w1 59 #[.string { data := #[] }, .string { data := #[] }, .string { data := #[] }, .string { data := #[] }, .string { data := #[] }, .string { data := #[] }, .string { data := #[] }, .string { data := #[] }, .string { data := #[] }, .string { data := #[] }, .string { data := #[] }, .string { data := #[] }, .string { data := #[] }] operatorsR (by kernel_rfl) (by kernel_rfl) (by kernel_rfl)
  have HOC : Hid (∀ w1 u : World, Below (w1.alloc (.cells operatorsR 59)).heap.size (w1.alloc (.cells operatorsR 59)) u → Calls Try.prog 52 #[.slice (some ⟨w1.heap.size, 0, none⟩) 13 13, .string tt] u fun e w' => e = .returned (.bool (opsL.contains tt.data.toList)) ∧ w' = u) := Lib.hid fun w1 u hu => ops_contains hu
  generalize operatorsR = R at *
  go_upto_region 3 with (go_at_call 51; go_must (refine (HOP.out _).mono ?_; rintro e w100 ⟨rfl, hb⟩; have HB00 := Lib.hid (HB0.out.trans (hb.mono HB0.out.size)); have BX00 := Lib.hid (BX0.out.below hb); clear hb HB0 BX0))
  have hb0 := HB00.out.alloc HB00.out.size (.cells R 59)
  have bx0 := BX00.out.below ((Below.refl _ _).alloc (Nat.le_refl _) (.cells R 59))
  have HOC2 := Lib.hid (HOC.out w100)
  clear HB00 BX00 HOP hst HOC
  generalize w100.alloc (.cells R 59) = w0 at *
  have HB0 := Lib.hid hb0; have BX0 := Lib.hid bx0; clear hb0
  obtain ⟨k0, k1, k2, k3, k4, k5⟩ := bx0
  go_wp2_with (first | (go_at_call 42; go_must (with_reducible refine (N1.out _ HB0.out).mono ?_; rintro e w1 ⟨rfl, hb⟩; have HB1 := Lib.hid (HB0.out.trans (hb.mono HB0.out.size)); have BX1 := Lib.hid (BX0.out.below hb); clear hb; cases b1; (· simp only [okOr_false]; exact panic_post rfl ⟨rfl, HB1.out⟩); simp only [okOr_true]; obtain ⟨k0, k1, k2, k3, k4, k5⟩ := BX1.out)) | (go_at_call 22; go_must (with_reducible refine (N2.out _ HB1.out).mono ?_; rintro e w2 ⟨rfl, hb⟩; have HB2 := Lib.hid (HB1.out.trans (hb.mono HB1.out.size)); clear hb; simp only [okOr_false]; exact panic_post rfl ⟨rfl, HB2.out⟩)))
set_option maxRecDepth 100000 in
set_option maxHeartbeats 4000000 in
theorem expression_33 {tt : ByteArray} {nn aa : Int} {l : List Nd} {p : Option Addr} {c : Nat} {d : Bool} {w : World} (_hk : KidsV w p l) (hlen : l.length ≤ 1000000) (_ht : tt.size ≤ 1000000000) :
    Calls Try.prog 35 #[.agg (lookC (.mk 33 tt nn aa l) p c d)] w fun e w' => e = okB (shapeB d (.mk 33 tt nn aa l)) ∧ Below w.heap.size w w' := by
  rw [shape_33]
  show Calls Try.prog 35 #[.agg #[.int .u8 33, .string tt, .int .i64 nn, .int .i64 aa, .slice p l.length c, .bool d]] w fun e w' => e = okB ((nameB tt.data.toList && nn == 0) && areB l (fun k => [34].contains k) 0 l.length) ∧ Below w.heap.size w w'
  generalize hnk2 : l.length = nk at *
  have M1 : ∀ u, Below w.heap.size w u → Calls Try.prog 39 #[.agg #[.int .u8 33, .string tt, .int .i64 nn, .int .i64 aa, .slice p nk c, .bool d]] u fun e w' => e = okOr ((nameB tt.data.toList && nn == 0)) ∧ Below u.heap.size u w' := by
    intro u hu; subst hnk2; exact names_any (x := .mk 33 tt nn aa l) _ht
  have M2 : ∀ (u : World) (v : Value), Below w.heap.size w u → IsP u v (fun k => [34].contains k) → Calls Try.prog 40 #[.agg #[.int .u8 33, .string tt, .int .i64 nn, .int .i64 aa, .slice p nk c, .bool d], .int .i64 (0), .int .i64 ((nk : Int)), v] u fun e w' => e = okOr (areB l (fun k => [34].contains k) 0 nk) ∧ Below u.heap.size u w' := by
    intro u v hu hv; subst hnk2; exact are_any (x := .mk 33 tt nn aa l) (fr := 0) (to := l.length) (KidsV.below hu _hk) hv (by first | exact Nat.le_refl _ | (show _ ≤ l.length; simp) | (show _ ≤ l.length; omega)) hlen (by omega)
  generalize (nameB tt.data.toList && nn == 0) = b1 at *
  generalize (areB l (fun k => [34].contains k) 0 nk) = b2 at *
  have N1 := Lib.hid M1; clear M1
  have N2 := Lib.hid M2; clear M2
  have HB0 : Hid (Below w.heap.size w (w.alloc (.cells #[.int .u8 33, .string tt, .int .i64 nn, .int .i64 aa, .slice p nk c, .bool d] 42))) := Lib.hid ((Below.refl w.heap.size w).alloc (Nat.le_refl _) _)
  have BX0 : Hid (BoxAt (w.alloc (.cells #[.int .u8 33, .string tt, .int .i64 nn, .int .i64 aa, .slice p nk c, .bool d] 42)) w.heap.size (.int .u8 33) (.string tt) (.int .i64 nn) (.int .i64 aa) (.slice p nk c) (.bool d)) := Lib.hid BoxAt.new
  have HNK := Lib.hid hnk2; clear hnk2 _hk _ht hlen
  go_enter Try.func35, Try.ntmps35
  have HOP := Lib.hid (fun w => operators_any w)
  have hsz := operators_size
  have hst : ∀ w1 : World, (storeCells ⟨w1.heap.size, 0, none⟩ operatorsR.toList 0).run Try.prog (w1.alloc (.cells #[.string { data := #[] }, .string { data := #[] }, .string { data := #[] }, .string { data := #[] }, .string { data := #[] }, .string { data := #[] }, .string { data := #[] }, .string { data := #[] }, .string { data := #[] }, .string { data := #[] }, .string { data := #[] }, .string { data := #[] }, .string { data := #[] }] 59)) = .ok () (w1.alloc (.cells operatorsR 59)) := fun w1 => run_storeCells_new w1 59 #[.string { data := #[] }, .string { data := #[] }, .string { data := #[] }, .string { data := #[] }, .string { data := #[] }, .string { data := #[] }, .string { data := #[] }, .string { data := #[] }, .string { data := #[] }, .string { data := #[] }, .string { data := #[] }, .string { data := #[] }, .string { data := #[] }] operatorsR (by kernel_rfl) (by kernel_rfl) (by kernel_rfl)
  have HOC : Hid (∀ w1 u : World, Below (w1.alloc (.cells operatorsR 59)).heap.size (w1.alloc (.cells operatorsR 59)) u → Calls Try.prog 52 #[.slice (some ⟨w1.heap.size, 0, none⟩) 13 13, .string tt] u fun e w' => e = .returned (.bool (opsL.contains tt.data.toList)) ∧ w' = u) := Lib.hid fun w1 u hu => ops_contains hu
  generalize operatorsR = R at *
  go_upto_region 3 with (go_at_call 51; go_must (refine (HOP.out _).mono ?_; rintro e w100 ⟨rfl, hb⟩; have HB00 := Lib.hid (HB0.out.trans (hb.mono HB0.out.size)); have BX00 := Lib.hid (BX0.out.below hb); clear hb HB0 BX0))
  have hb0 := HB00.out.alloc HB00.out.size (.cells R 59)
  have bx0 := BX00.out.below ((Below.refl _ _).alloc (Nat.le_refl _) (.cells R 59))
  have HOC2 := Lib.hid (HOC.out w100)
  clear HB00 BX00 HOP hst HOC
  generalize w100.alloc (.cells R 59) = w0 at *
  have HB0 := Lib.hid hb0; have BX0 := Lib.hid bx0; clear hb0
  obtain ⟨k0, k1, k2, k3, k4, k5⟩ := bx0
  go_wp2_with (go_at_call 39; go_must (with_reducible refine (N1.out _ HB0.out).mono ?_; rintro e w1 ⟨rfl, hb⟩; have HB1 := Lib.hid (HB0.out.trans (hb.mono HB0.out.size)); have BX1 := Lib.hid (BX0.out.below hb); clear hb; cases b1; (· simp only [okOr_false]; exact panic_post rfl ⟨rfl, HB1.out⟩); simp only [okOr_true]; obtain ⟨k0, k1, k2, k3, k4, k5⟩ := BX1.out))
  clear k0 k1 k2 k3 k4 k5
  refine wp_region_mixI (l1 := [_, _, _, _]) (l2 := [_]) [(0, true), (1, true), (2, false), (3, false)] (fun u => Below w1.heap.size w1 u) (by kernel_rfl) (by kernel_rfl) (by repeat (first | refine loose_then ?_ | refine loose_block ?_ | exact loose_body (P := Try.prog) (fn := Try.f35))) ((Below.refl _ w1).drew) ?_
  refine mixI_take (.agg #[.int .u8 33, .string tt, .int .i64 nn, .int .i64 aa, .slice p nk c, .bool d]) rfl rfl (fun u hu => by obtain ⟨k0, k1, k2, k3, k4, k5⟩ := BX1.out.below hu; go_simp) ?_
  refine mixI_take (.int .i64 (nk : Int)) rfl rfl (fun u hu => by go_simp) ?_
  refine mixI_go rfl rfl fun K hK => wp_val (v := .slice (some ⟨w1.heap.size, 0, none⟩) 1 1) (w' := w1.drew.alloc (.cells #[.int .u8 34] 22)) (by go_simp) ?_
  refine hK.out _ _ (((Below.refl _ w1).drew).alloc (Nat.le_refl _) _) ?_
  clear hK
  refine mixI_go rfl rfl fun K hK => wp_go (f := 41) (args := #[.slice (some ⟨w1.heap.size, 0, none⟩) 1 1]) (by go_simp) ((of_any (l := [34]) (by decide) (kinds1 _)).mono ?_)
  rintro e wR ⟨vR, rfl, hvR, hb⟩
  have hbR : Below w1.heap.size w1 wR := (((Below.refl _ w1).drew).alloc (Nat.le_refl _) (.cells #[.int .u8 34] 22)).trans (hb.mono (by simp))
  refine hK.out _ _ hbR ?_
  clear hK
  show wpList _ _ _ _ _ _
  have HBR := Lib.hid (HB1.out.trans (hbR.mono HB1.out.size))
  have N2R := Lib.hid (N2.out _ _ HBR.out hvR)
  have BXR := Lib.hid (BX1.out.below hbR)
  clear hb hvR hbR
  go_wp2_with (go_at_call 40; go_must (with_reducible refine (N2R.out).mono ?_; rintro e w2 ⟨rfl, hb⟩; have HB2 := Lib.hid (HBR.out.trans (hb.mono HBR.out.size)); have BX2 := Lib.hid (BXR.out.below hb); clear hb; cases b2; (· simp only [okOr_false]; exact panic_post rfl ⟨rfl, HB2.out⟩); simp only [okOr_true]; obtain ⟨k0, k1, k2, k3, k4, k5⟩ := BX2.out))
  go_ret
  exact ⟨rfl, HB2.out⟩
set_option maxRecDepth 100000 in
set_option maxHeartbeats 4000000 in
theorem expression_other {k : Nat} {tt : ByteArray} {nn aa : Int} {l : List Nd} {p : Option Addr} {c : Nat} {d : Bool} {w : World} (h : k ≤ 25 ∨ 35 ≤ k) :
    Calls Try.prog 35 #[.agg (lookC (.mk k tt nn aa l) p c d)] w fun e w' => e = .returned (.bool false) ∧ Below w.heap.size w w' := by
  show Calls Try.prog 35 #[.agg #[.int .u8 (k : Int), .string tt, .int .i64 nn, .int .i64 aa, .slice p l.length c, .bool d]] w fun e w' => e = .returned (.bool false) ∧ Below w.heap.size w w'
  generalize l.length = nk
  have HB0 : Hid (Below w.heap.size w (w.alloc (.cells #[.int .u8 (k : Int), .string tt, .int .i64 nn, .int .i64 aa, .slice p nk c, .bool d] 42))) := Lib.hid ((Below.refl w.heap.size w).alloc (Nat.le_refl _) _)
  have BX0 : Hid (BoxAt (w.alloc (.cells #[.int .u8 (k : Int), .string tt, .int .i64 nn, .int .i64 aa, .slice p nk c, .bool d] 42)) w.heap.size (.int .u8 (k : Int)) (.string tt) (.int .i64 nn) (.int .i64 aa) (.slice p nk c) (.bool d)) := Lib.hid BoxAt.new
  have e26 : ((k : Int) == 26) = false := by simp; omega
  have e27 : ((k : Int) == 27) = false := by simp; omega
  have e28 : ((k : Int) == 28) = false := by simp; omega
  have e29 : ((k : Int) == 29) = false := by simp; omega
  have e30 : ((k : Int) == 30) = false := by simp; omega
  have e31 : ((k : Int) == 31) = false := by simp; omega
  have e32 : ((k : Int) == 32) = false := by simp; omega
  have e33 : ((k : Int) == 33) = false := by simp; omega
  have e34 : ((k : Int) == 34) = false := by simp; omega
  have HOP := Lib.hid (fun w => operators_any w)
  have hsz := operators_size
  have hst : ∀ w1 : World, (storeCells ⟨w1.heap.size, 0, none⟩ operatorsR.toList 0).run Try.prog (w1.alloc (.cells #[.string { data := #[] }, .string { data := #[] }, .string { data := #[] }, .string { data := #[] }, .string { data := #[] }, .string { data := #[] }, .string { data := #[] }, .string { data := #[] }, .string { data := #[] }, .string { data := #[] }, .string { data := #[] }, .string { data := #[] }, .string { data := #[] }] 59)) = .ok () (w1.alloc (.cells operatorsR 59)) := fun w1 => run_storeCells_new w1 59 #[.string { data := #[] }, .string { data := #[] }, .string { data := #[] }, .string { data := #[] }, .string { data := #[] }, .string { data := #[] }, .string { data := #[] }, .string { data := #[] }, .string { data := #[] }, .string { data := #[] }, .string { data := #[] }, .string { data := #[] }, .string { data := #[] }] operatorsR (by kernel_rfl) (by kernel_rfl) (by kernel_rfl)
  generalize operatorsR = R at *
  clear h
  go_enter Try.func35, Try.ntmps35
  go_wp2_with (go_at_call 51; go_must (refine (HOP.out _).mono ?_; rintro e w100 ⟨rfl, hb⟩; have HB00 := Lib.hid (HB0.out.trans (hb.mono HB0.out.size)); obtain ⟨k0, k1, k2, k3, k4, k5⟩ := BX0.out.below hb; have hbx : ∀ o : Obj, BoxAt (w100.alloc o) w.heap.size (.int .u8 (k : Int)) (.string tt) (.int .i64 nn) (.int .i64 aa) (.slice p nk c) (.bool d) := (fun o => (BX0.out.below hb).below ((Below.refl _ _).alloc (Nat.le_refl _) o)); clear hb HB0; have q0 := (hbx (.cells R 59)).c0; clear hbx))
  have HB0 := Lib.hid (HB00.out.alloc HB00.out.size (.cells R 59))
  go_ret
  exact ⟨rfl, HB0.out⟩
def exprK (k : Nat) : Bool := 26 ≤ k && k ≤ 34
theorem expression_any {x : Nd} {p : Option Addr} {c : Nat} {d : Bool} {w : World} (hk : KidsV w p x.kids) (hlen : x.kids.length ≤ 1000000) (ht : x.text.size ≤ 1000000000) :
    Calls Try.prog 35 #[.agg (lookC x p c d)] w fun e w' => e = (if exprK x.kind = true then okB (shapeB d x) else .returned (.bool false)) ∧ Below w.heap.size w w' := by
  obtain ⟨k, tt, nn, aa, l⟩ := x
  by_cases h : exprK k = true
  · rw [if_pos (show exprK (Nd.mk k tt nn aa l).kind = true from h)]
    simp [exprK] at h
    rcases (show k = 26 ∨ k = 27 ∨ k = 28 ∨ k = 29 ∨ k = 30 ∨ k = 31 ∨ k = 32 ∨ k = 33 ∨ k = 34 by omega) with h | h | h | h | h | h | h | h | h <;> subst h
    · by_cases h0 : tt.toList = [45]
      · exact expression_26a hk hlen ht h0
      · exact expression_26b hk hlen ht h0
    · exact expression_27 hk hlen ht
    · exact expression_28 hk hlen ht
    · exact expression_29 hk hlen ht
    · exact expression_30 hk hlen ht
    · exact expression_31 hk hlen ht
    · rcases l with _ | ⟨y0, l⟩
      · exact expression_32n hk ht
      · exact expression_32 hk hlen ht (by simp)
    · exact expression_33 hk hlen ht
    · exact expression_34 hk hlen ht
  · rw [if_neg (show ¬ (exprK (Nd.mk k tt nn aa l).kind = true) from h)]
    simp [exprK] at h
    exact expression_other (k := k) (by omega)
end Go.Proofs.Ytkjpdhnibfhaaaa.NodeR
