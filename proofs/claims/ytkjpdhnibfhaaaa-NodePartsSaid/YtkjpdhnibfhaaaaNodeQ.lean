/- node's looks: leaf. -/
import Derived.Test.YtkjpdhnibfhaaaaNodeO
import Derived.Deep.Cut
import Derived.Test.YtkjpdhnibfhaaaaNodeP
namespace Go.Proofs.Ytkjpdhnibfhaaaa.NodeQ
open Go.RowKit Go.Proofs.Ytkjpdhnibfhaaaa.Nodey Go.Proofs.Ytkjpdhnibfhaaaa.NodeA Go.Proofs.Ytkjpdhnibfhaaaa.NodeB Go.Proofs.Ytkjpdhnibfhaaaa.NodeC Go.Proofs.Ytkjpdhnibfhaaaa.NodeD Go.Proofs.Ytkjpdhnibfhaaaa.NodeE Go.Proofs.Ytkjpdhnibfhaaaa.NodeF Go.Proofs.Ytkjpdhnibfhaaaa.NodeG Go.Proofs.Ytkjpdhnibfhaaaa.NodeH Go.Proofs.Ytkjpdhnibfhaaaa.NodeI Go.Proofs.Ytkjpdhnibfhaaaa.NodeJ Go.Proofs.Ytkjpdhnibfhaaaa.NodeK Go.Proofs.Ytkjpdhnibfhaaaa.NodeL Go.Proofs.Ytkjpdhnibfhaaaa.NodeM Go.Proofs.Ytkjpdhnibfhaaaa.NodeN Go.Proofs.Ytkjpdhnibfhaaaa.NodeO Go.Proofs.Ytkjpdhnibfhaaaa.NodeP Go.Proofs.Ytkjpdhnibfhaaaa.Cut

theorem below_drewN {B : Nat} {a w : World} (h : Below B a w) (n : Nat) : Below B a (w.drewN n) := h.trans ⟨rfl, rfl, rfl, Nat.le_refl _, fun _ _ => rfl⟩
theorem emp_eq (tt : ByteArray) : (tt.data.toList == []) = tt.toList.isEmpty := by rw [ByteArray.toList_eq]; cases tt.data.toList <;> rfl
section
variable {d : Bool} {tt : ByteArray} {nn aa : Int} {l : List Nd}
theorem shape_24a : shapeB d (.mk 24 tt 0 aa l) = ((tt.toList.isEmpty && true) && allB [] l) := by rw [shape_24, emp_eq]; simp
theorem shape_24b (h : nn ≠ 0) : shapeB d (.mk 24 tt nn aa l) = ((tt.toList.isEmpty && nn == 1) && allB [] l) := by
  have e0 : (nn == 0) = false := by simpa using h
  rw [shape_24, emp_eq, e0]; simp
theorem shape_35e : shapeB d (.mk 35 tt nn aa l) = ((d && tt.toList.isEmpty && decide (0 ≤ nn) && decide (nn ≤ 99)) && allB [] l) := by rw [shape_35, emp_eq]
end
set_option maxRecDepth 100000 in
set_option maxHeartbeats 4000000 in
theorem leaf_21 {tt : ByteArray} {nn aa : Int} {l : List Nd} {p : Option Addr} {c : Nat} {d : Bool} {w : World} (_hk : KidsV w p l) (hlen : l.length ≤ 1000000) (_ht : tt.size ≤ 1000000000) {mm : Int} (hm : w.cell? ⟨0, 0, none⟩ = some (.int .i64 mm)) :
    Calls Try.prog 34 #[.agg (lookC (.mk 21 tt nn aa l) p c d)] w fun e w' => e = okB (shapeB d (.mk 21 tt nn aa l)) ∧ Below w.heap.size w w' := by
  rw [shape_21]
  show Calls Try.prog 34 #[.agg #[.int .u8 21, .string tt, .int .i64 nn, .int .i64 aa, .slice p l.length c, .bool d]] w fun e w' => e = okB ((wholeB tt.data.toList && nn == 0) && allB [] l) ∧ Below w.heap.size w w'
  generalize hnk2 : l.length = nk at *
  generalize hE1 : (wholeB tt.data.toList && nn == 0) = b1
  have HE1 := Lib.hid hE1; clear hE1
  have M2 : ∀ u, Below w.heap.size w u → Calls Try.prog 43 #[.agg #[.int .u8 21, .string tt, .int .i64 nn, .int .i64 aa, .slice p nk c, .bool d], .slice none 0 0] u fun e w' => e = okOr (allB [] l) ∧ Below u.heap.size u w' := by
    intro u hu; subst hnk2; exact all_any (x := .mk 21 tt nn aa l) (ps := []) (KidsV.below hu _hk) (Or.inl rfl) hlen (by simp)
  generalize (allB [] l) = b2 at *
  have N2 := Lib.hid M2; clear M2
  have HB0 : Hid (Below w.heap.size w (w.alloc (.cells #[.int .u8 21, .string tt, .int .i64 nn, .int .i64 aa, .slice p nk c, .bool d] 42))) := Lib.hid ((Below.refl w.heap.size w).alloc (Nat.le_refl _) _)
  have BX0 : Hid (BoxAt (w.alloc (.cells #[.int .u8 21, .string tt, .int .i64 nn, .int .i64 aa, .slice p nk c, .bool d] 42)) w.heap.size (.int .u8 21) (.string tt) (.int .i64 nn) (.int .i64 aa) (.slice p nk c) (.bool d)) := Lib.hid BoxAt.new
  have HM0 : Hid ((w.alloc (.cells #[.int .u8 21, .string tt, .int .i64 nn, .int .i64 aa, .slice p nk c, .bool d] 42)).cell? ⟨0, 0, none⟩ = some (.int .i64 mm)) := Lib.hid (cell_on ((Below.refl w.heap.size w).alloc (Nat.le_refl _) _) hm)
  have HT := Lib.hid _ht
  clear hm
  have HNK := Lib.hid hnk2; clear hnk2 _hk hlen
  go_enter Try.func34, Try.ntmps34
  go_upto_region 4 with fail
  have hb0 := HB0.out; have bx0 := BX0.out
  generalize w.alloc (.cells #[.int .u8 21, .string tt, .int .i64 nn, .int .i64 aa, .slice p nk c, .bool d] 42) = w0 at *
  clear HB0 BX0
  have HB0 := Lib.hid hb0; have BX0 := Lib.hid bx0; clear hb0
  obtain ⟨k0, k1, k2, k3, k4, k5⟩ := bx0
  clear k0 k1 k2 k3 k4 k5
  have HWH := Lib.hid (fun w (hm : w.cell? ⟨0, 0, none⟩ = some (.int .i64 mm)) => whole_any (w := w) HT.out)
  generalize wholeB tt.data.toList = wb at *
  refine wp_region_mixI (l1 := [_, _, _, _, _, _, _, _, _]) (l2 := [_]) [(0, true), (1, true), (2, true), (4, true), (5, true), (6, true), (7, true), (3, false), (8, false)] (fun u => Below w0.heap.size w0 u) (by kernel_rfl) (by kernel_rfl) (by repeat (first | refine loose_then ?_ | refine loose_block ?_ | exact loose_body (P := Try.prog) (fn := Try.f34))) ((Below.refl _ w0).drew) ?_
  refine mixI_take (.pointer (some ⟨w.heap.size, 0, none⟩)) rfl rfl (fun u hu => by obtain ⟨k0, k1, k2, k3, k4, k5⟩ := BX0.out.below hu; go_simp) ?_
  refine mixI_take (.pointer (some ⟨w.heap.size, 1, none⟩)) rfl rfl (fun u hu => by obtain ⟨k0, k1, k2, k3, k4, k5⟩ := BX0.out.below hu; go_simp) ?_
  refine mixI_take (.string tt) rfl rfl (fun u hu => by obtain ⟨k0, k1, k2, k3, k4, k5⟩ := BX0.out.below hu; go_simp) ?_
  refine mixI_take (.pointer (some ⟨w.heap.size, 0, none⟩)) rfl rfl (fun u hu => by obtain ⟨k0, k1, k2, k3, k4, k5⟩ := BX0.out.below hu; go_simp) ?_
  refine mixI_take (.pointer (some ⟨w.heap.size, 2, none⟩)) rfl rfl (fun u hu => by obtain ⟨k0, k1, k2, k3, k4, k5⟩ := BX0.out.below hu; go_simp) ?_
  refine mixI_take (.int .i64 nn) rfl rfl (fun u hu => by obtain ⟨k0, k1, k2, k3, k4, k5⟩ := BX0.out.below hu; go_simp) ?_
  refine mixI_take (.bool (nn == 0)) rfl rfl (fun u hu => by obtain ⟨k0, k1, k2, k3, k4, k5⟩ := BX0.out.below hu; go_simp) ?_
  refine mixI_go rfl rfl fun K hK => wp_go (f := 49) (args := #[.string tt]) (by go_simp) ((HWH.out _ (cell_on ((Below.refl _ _).drew) HM0.out)).mono ?_)
  rintro e wQ ⟨rfl, hq⟩
  have hb2 : Below w0.heap.size w0 wQ := by rw [hq]; exact (Below.refl _ _).drew
  refine hK.out _ _ hb2 ?_
  clear hK hq
  refine mixI_go rfl rfl fun K hK => wp_val (v := .slice (some ⟨wQ.heap.size, 0, none⟩) 2 2) (w' := wQ.alloc (.cells #[.bool wb, .bool (nn == 0)] 4)) (by go_simp) ?_
  have hb4 := hb2.alloc hb2.size (.cells #[.bool wb, .bool (nn == 0)] 4)
  refine hK.out _ _ hb4 ?_
  clear hK hb4
  show wpList _ _ _ _ _ _
  have N1R := Lib.hid (mustA2 wb (nn == 0) wQ)
  rw [HE1.out] at N1R
  have HBR := Lib.hid (HB0.out.trans (hb2.mono HB0.out.size))
  have BXR := Lib.hid (BX0.out.below hb2)
  clear hb2
  go_wp2_with (first | (go_at_call 22; go_must (with_reducible refine (N1R.out).mono ?_; rintro e w1 ⟨rfl, hb⟩; have HB1 := Lib.hid (HBR.out.trans (hb.mono HBR.out.size)); have BX1 := Lib.hid (BXR.out.below hb); clear hb; cases b1; (· simp only [okOr_false]; exact panic_post rfl ⟨rfl, HB1.out⟩); simp only [okOr_true]; obtain ⟨k0, k1, k2, k3, k4, k5⟩ := BX1.out)) | (go_at_call 43; go_must (with_reducible refine (N2.out _ HB1.out).mono ?_; rintro e w2 ⟨rfl, hb⟩; have HB2 := Lib.hid (HB1.out.trans (hb.mono HB1.out.size)); have BX2 := Lib.hid (BX1.out.below hb); clear hb; cases b2; (· simp only [okOr_false]; exact panic_post rfl ⟨rfl, HB2.out⟩); simp only [okOr_true]; obtain ⟨k0, k1, k2, k3, k4, k5⟩ := BX2.out)))
  go_ret
  exact ⟨rfl, HB2.out⟩
set_option maxRecDepth 100000 in
set_option maxHeartbeats 4000000 in
theorem leaf_22 {tt : ByteArray} {nn aa : Int} {l : List Nd} {p : Option Addr} {c : Nat} {d : Bool} {w : World} (_hk : KidsV w p l) (hlen : l.length ≤ 1000000) (_ht : tt.size ≤ 1000000000) {mm : Int} (hm : w.cell? ⟨0, 0, none⟩ = some (.int .i64 mm)) :
    Calls Try.prog 34 #[.agg (lookC (.mk 22 tt nn aa l) p c d)] w fun e w' => e = okB (shapeB d (.mk 22 tt nn aa l)) ∧ Below w.heap.size w w' := by
  rw [shape_22]
  show Calls Try.prog 34 #[.agg #[.int .u8 22, .string tt, .int .i64 nn, .int .i64 aa, .slice p l.length c, .bool d]] w fun e w' => e = okB ((pointB tt.data.toList && nn == 0) && allB [] l) ∧ Below w.heap.size w w'
  generalize hnk2 : l.length = nk at *
  generalize hE1 : (pointB tt.data.toList && nn == 0) = b1
  have HE1 := Lib.hid hE1; clear hE1
  have M2 : ∀ u, Below w.heap.size w u → Calls Try.prog 43 #[.agg #[.int .u8 22, .string tt, .int .i64 nn, .int .i64 aa, .slice p nk c, .bool d], .slice none 0 0] u fun e w' => e = okOr (allB [] l) ∧ Below u.heap.size u w' := by
    intro u hu; subst hnk2; exact all_any (x := .mk 22 tt nn aa l) (ps := []) (KidsV.below hu _hk) (Or.inl rfl) hlen (by simp)
  generalize (allB [] l) = b2 at *
  have N2 := Lib.hid M2; clear M2
  have HB0 : Hid (Below w.heap.size w (w.alloc (.cells #[.int .u8 22, .string tt, .int .i64 nn, .int .i64 aa, .slice p nk c, .bool d] 42))) := Lib.hid ((Below.refl w.heap.size w).alloc (Nat.le_refl _) _)
  have BX0 : Hid (BoxAt (w.alloc (.cells #[.int .u8 22, .string tt, .int .i64 nn, .int .i64 aa, .slice p nk c, .bool d] 42)) w.heap.size (.int .u8 22) (.string tt) (.int .i64 nn) (.int .i64 aa) (.slice p nk c) (.bool d)) := Lib.hid BoxAt.new
  have HM0 : Hid ((w.alloc (.cells #[.int .u8 22, .string tt, .int .i64 nn, .int .i64 aa, .slice p nk c, .bool d] 42)).cell? ⟨0, 0, none⟩ = some (.int .i64 mm)) := Lib.hid (cell_on ((Below.refl w.heap.size w).alloc (Nat.le_refl _) _) hm)
  have HT := Lib.hid _ht
  clear hm
  have HNK := Lib.hid hnk2; clear hnk2 _hk hlen
  go_enter Try.func34, Try.ntmps34
  go_upto_region 6 with fail
  have hb0 := HB0.out; have bx0 := BX0.out
  generalize w.alloc (.cells #[.int .u8 22, .string tt, .int .i64 nn, .int .i64 aa, .slice p nk c, .bool d] 42) = w0 at *
  clear HB0 BX0
  have HB0 := Lib.hid hb0; have BX0 := Lib.hid bx0; clear hb0
  obtain ⟨k0, k1, k2, k3, k4, k5⟩ := bx0
  clear k0 k1 k2 k3 k4 k5
  have HWH := Lib.hid (fun w (hm : w.cell? ⟨0, 0, none⟩ = some (.int .i64 mm)) => point_any (w := w) HT.out hm)
  generalize pointB tt.data.toList = wb at *
  refine wp_region_mixI (l1 := [_, _, _, _, _, _, _, _, _]) (l2 := [_]) [(0, true), (1, true), (2, true), (4, true), (5, true), (6, true), (7, true), (3, false), (8, false)] (fun u => Below w0.heap.size w0 u) (by kernel_rfl) (by kernel_rfl) (by repeat (first | refine loose_then ?_ | refine loose_block ?_ | exact loose_body (P := Try.prog) (fn := Try.f34))) ((Below.refl _ w0).drew) ?_
  refine mixI_take (.pointer (some ⟨w.heap.size, 0, none⟩)) rfl rfl (fun u hu => by obtain ⟨k0, k1, k2, k3, k4, k5⟩ := BX0.out.below hu; go_simp) ?_
  refine mixI_take (.pointer (some ⟨w.heap.size, 1, none⟩)) rfl rfl (fun u hu => by obtain ⟨k0, k1, k2, k3, k4, k5⟩ := BX0.out.below hu; go_simp) ?_
  refine mixI_take (.string tt) rfl rfl (fun u hu => by obtain ⟨k0, k1, k2, k3, k4, k5⟩ := BX0.out.below hu; go_simp) ?_
  refine mixI_take (.pointer (some ⟨w.heap.size, 0, none⟩)) rfl rfl (fun u hu => by obtain ⟨k0, k1, k2, k3, k4, k5⟩ := BX0.out.below hu; go_simp) ?_
  refine mixI_take (.pointer (some ⟨w.heap.size, 2, none⟩)) rfl rfl (fun u hu => by obtain ⟨k0, k1, k2, k3, k4, k5⟩ := BX0.out.below hu; go_simp) ?_
  refine mixI_take (.int .i64 nn) rfl rfl (fun u hu => by obtain ⟨k0, k1, k2, k3, k4, k5⟩ := BX0.out.below hu; go_simp) ?_
  refine mixI_take (.bool (nn == 0)) rfl rfl (fun u hu => by obtain ⟨k0, k1, k2, k3, k4, k5⟩ := BX0.out.below hu; go_simp) ?_
  refine mixI_go rfl rfl fun K hK => wp_go (f := 50) (args := #[.string tt]) (by go_simp) ((HWH.out _ (cell_on ((Below.refl _ _).drew) HM0.out)).mono ?_)
  rintro e wQ ⟨rfl, hq⟩
  have hb2 : Below w0.heap.size w0 wQ := by obtain ⟨n, rfl⟩ := hq; exact below_drewN (Below.refl _ _).drew _
  refine hK.out _ _ hb2 ?_
  clear hK hq
  refine mixI_go rfl rfl fun K hK => wp_val (v := .slice (some ⟨wQ.heap.size, 0, none⟩) 2 2) (w' := wQ.alloc (.cells #[.bool wb, .bool (nn == 0)] 4)) (by go_simp) ?_
  have hb4 := hb2.alloc hb2.size (.cells #[.bool wb, .bool (nn == 0)] 4)
  refine hK.out _ _ hb4 ?_
  clear hK hb4
  show wpList _ _ _ _ _ _
  have N1R := Lib.hid (mustA2 wb (nn == 0) wQ)
  rw [HE1.out] at N1R
  have HBR := Lib.hid (HB0.out.trans (hb2.mono HB0.out.size))
  have BXR := Lib.hid (BX0.out.below hb2)
  clear hb2
  go_wp2_with (first | (go_at_call 22; go_must (with_reducible refine (N1R.out).mono ?_; rintro e w1 ⟨rfl, hb⟩; have HB1 := Lib.hid (HBR.out.trans (hb.mono HBR.out.size)); have BX1 := Lib.hid (BXR.out.below hb); clear hb; cases b1; (· simp only [okOr_false]; exact panic_post rfl ⟨rfl, HB1.out⟩); simp only [okOr_true]; obtain ⟨k0, k1, k2, k3, k4, k5⟩ := BX1.out)) | (go_at_call 43; go_must (with_reducible refine (N2.out _ HB1.out).mono ?_; rintro e w2 ⟨rfl, hb⟩; have HB2 := Lib.hid (HB1.out.trans (hb.mono HB1.out.size)); have BX2 := Lib.hid (BX1.out.below hb); clear hb; cases b2; (· simp only [okOr_false]; exact panic_post rfl ⟨rfl, HB2.out⟩); simp only [okOr_true]; obtain ⟨k0, k1, k2, k3, k4, k5⟩ := BX2.out)))
  go_ret
  exact ⟨rfl, HB2.out⟩
set_option maxRecDepth 100000 in
set_option maxHeartbeats 4000000 in
theorem leaf_23 {tt : ByteArray} {nn aa : Int} {l : List Nd} {p : Option Addr} {c : Nat} {d : Bool} {w : World} (_hk : KidsV w p l) (hlen : l.length ≤ 1000000) (_ht : tt.size ≤ 1000000000) :
    Calls Try.prog 34 #[.agg (lookC (.mk 23 tt nn aa l) p c d)] w fun e w' => e = okB (shapeB d (.mk 23 tt nn aa l)) ∧ Below w.heap.size w w' := by
  rw [shape_23]
  show Calls Try.prog 34 #[.agg #[.int .u8 23, .string tt, .int .i64 nn, .int .i64 aa, .slice p l.length c, .bool d]] w fun e w' => e = okB ((nn == 0) && allB [] l) ∧ Below w.heap.size w w'
  generalize hnk2 : l.length = nk at *
  generalize hE1 : (nn == 0) = b1
  have M1 : ∀ u, Below w.heap.size w u → Calls Try.prog 22 #[.slice (some ⟨u.heap.size, 0, none⟩) 1 1] (u.alloc (.cells #[.bool (nn == 0)] 4)) fun e w' => e = okOr (b1) ∧ Below u.heap.size u w' := fun u _ => by rw [← hE1]; exact mustA1 (nn == 0) u
  have HE1 := Lib.hid hE1; clear hE1
  have M2 : ∀ u, Below w.heap.size w u → Calls Try.prog 43 #[.agg #[.int .u8 23, .string tt, .int .i64 nn, .int .i64 aa, .slice p nk c, .bool d], .slice none 0 0] u fun e w' => e = okOr (allB [] l) ∧ Below u.heap.size u w' := by
    intro u hu; subst hnk2; exact all_any (x := .mk 23 tt nn aa l) (ps := []) (KidsV.below hu _hk) (Or.inl rfl) hlen (by simp)
  generalize (allB [] l) = b2 at *
  have N1 := Lib.hid M1; clear M1
  have N2 := Lib.hid M2; clear M2
  have HB0 : Hid (Below w.heap.size w (w.alloc (.cells #[.int .u8 23, .string tt, .int .i64 nn, .int .i64 aa, .slice p nk c, .bool d] 42))) := Lib.hid ((Below.refl w.heap.size w).alloc (Nat.le_refl _) _)
  have BX0 : Hid (BoxAt (w.alloc (.cells #[.int .u8 23, .string tt, .int .i64 nn, .int .i64 aa, .slice p nk c, .bool d] 42)) w.heap.size (.int .u8 23) (.string tt) (.int .i64 nn) (.int .i64 aa) (.slice p nk c) (.bool d)) := Lib.hid BoxAt.new
  have HNK := Lib.hid hnk2; clear hnk2 _hk _ht hlen
  go_enter Try.func34, Try.ntmps34
  go_upto_region 8 with fail
  have hb0 := HB0.out; have bx0 := BX0.out
  generalize w.alloc (.cells #[.int .u8 23, .string tt, .int .i64 nn, .int .i64 aa, .slice p nk c, .bool d] 42) = w0 at *
  clear HB0 BX0
  have HB0 := Lib.hid hb0; have BX0 := Lib.hid bx0; clear hb0
  obtain ⟨k0, k1, k2, k3, k4, k5⟩ := bx0
  go_wp2_with (first | (go_at_call 22; go_must (with_reducible refine (N1.out _ HB0.out).mono ?_; rintro e w1 ⟨rfl, hb⟩; have HB1 := Lib.hid (HB0.out.trans (hb.mono HB0.out.size)); have BX1 := Lib.hid (BX0.out.below hb); clear hb; cases b1; (· simp only [okOr_false]; exact panic_post rfl ⟨rfl, HB1.out⟩); simp only [okOr_true]; obtain ⟨k0, k1, k2, k3, k4, k5⟩ := BX1.out)) | (go_at_call 43; go_must (with_reducible refine (N2.out _ HB1.out).mono ?_; rintro e w2 ⟨rfl, hb⟩; have HB2 := Lib.hid (HB1.out.trans (hb.mono HB1.out.size)); have BX2 := Lib.hid (BX1.out.below hb); clear hb; cases b2; (· simp only [okOr_false]; exact panic_post rfl ⟨rfl, HB2.out⟩); simp only [okOr_true]; obtain ⟨k0, k1, k2, k3, k4, k5⟩ := BX2.out)))
  go_ret
  exact ⟨rfl, HB2.out⟩
set_option maxRecDepth 100000 in
set_option maxHeartbeats 4000000 in
theorem leaf_24a {tt : ByteArray} {aa : Int} {l : List Nd} {p : Option Addr} {c : Nat} {d : Bool} {w : World} (_hk : KidsV w p l) (hlen : l.length ≤ 1000000) (_ht : tt.size ≤ 1000000000) :
    Calls Try.prog 34 #[.agg (lookC (.mk 24 tt 0 aa l) p c d)] w fun e w' => e = okB (shapeB d (.mk 24 tt 0 aa l)) ∧ Below w.heap.size w w' := by
  rw [shape_24a]
  show Calls Try.prog 34 #[.agg #[.int .u8 24, .string tt, .int .i64 0, .int .i64 aa, .slice p l.length c, .bool d]] w fun e w' => e = okB ((tt.toList.isEmpty && true) && allB [] l) ∧ Below w.heap.size w w'
  generalize hnk2 : l.length = nk at *
  generalize hE1 : (tt.toList.isEmpty && true) = b1
  have M1 : ∀ u, Below w.heap.size w u → Calls Try.prog 22 #[.slice (some ⟨u.heap.size, 0, none⟩) 2 2] (u.alloc (.cells #[.bool (tt.toList.isEmpty), .bool (true)] 4)) fun e w' => e = okOr (b1) ∧ Below u.heap.size u w' := fun u _ => by rw [← hE1]; exact mustA2 (tt.toList.isEmpty) (true) u
  have HE1 := Lib.hid hE1; clear hE1
  have M2 : ∀ u, Below w.heap.size w u → Calls Try.prog 43 #[.agg #[.int .u8 24, .string tt, .int .i64 0, .int .i64 aa, .slice p nk c, .bool d], .slice none 0 0] u fun e w' => e = okOr (allB [] l) ∧ Below u.heap.size u w' := by
    intro u hu; subst hnk2; exact all_any (x := .mk 24 tt 0 aa l) (ps := []) (KidsV.below hu _hk) (Or.inl rfl) hlen (by simp)
  generalize (allB [] l) = b2 at *
  have N1 := Lib.hid M1; clear M1
  have N2 := Lib.hid M2; clear M2
  have HB0 : Hid (Below w.heap.size w (w.alloc (.cells #[.int .u8 24, .string tt, .int .i64 0, .int .i64 aa, .slice p nk c, .bool d] 42))) := Lib.hid ((Below.refl w.heap.size w).alloc (Nat.le_refl _) _)
  have BX0 : Hid (BoxAt (w.alloc (.cells #[.int .u8 24, .string tt, .int .i64 0, .int .i64 aa, .slice p nk c, .bool d] 42)) w.heap.size (.int .u8 24) (.string tt) (.int .i64 0) (.int .i64 aa) (.slice p nk c) (.bool d)) := Lib.hid BoxAt.new
  have HNK := Lib.hid hnk2; clear hnk2 _hk _ht hlen
  go_enter Try.func34, Try.ntmps34
  go_upto_region 10 with fail
  have hb0 := HB0.out; have bx0 := BX0.out
  generalize w.alloc (.cells #[.int .u8 24, .string tt, .int .i64 0, .int .i64 aa, .slice p nk c, .bool d] 42) = w0 at *
  clear HB0 BX0
  have HB0 := Lib.hid hb0; have BX0 := Lib.hid bx0; clear hb0
  obtain ⟨k0, k1, k2, k3, k4, k5⟩ := bx0
  go_wp2_with (first | (go_at_call 22; go_must (with_reducible refine (N1.out _ HB0.out).mono ?_; rintro e w1 ⟨rfl, hb⟩; have HB1 := Lib.hid (HB0.out.trans (hb.mono HB0.out.size)); have BX1 := Lib.hid (BX0.out.below hb); clear hb; cases b1; (· simp only [okOr_false]; exact panic_post rfl ⟨rfl, HB1.out⟩); simp only [okOr_true]; obtain ⟨k0, k1, k2, k3, k4, k5⟩ := BX1.out)) | (go_at_call 43; go_must (with_reducible refine (N2.out _ HB1.out).mono ?_; rintro e w2 ⟨rfl, hb⟩; have HB2 := Lib.hid (HB1.out.trans (hb.mono HB1.out.size)); have BX2 := Lib.hid (BX1.out.below hb); clear hb; cases b2; (· simp only [okOr_false]; exact panic_post rfl ⟨rfl, HB2.out⟩); simp only [okOr_true]; obtain ⟨k0, k1, k2, k3, k4, k5⟩ := BX2.out)))
  go_ret
  exact ⟨rfl, HB2.out⟩
set_option maxRecDepth 100000 in
set_option maxHeartbeats 4000000 in
theorem leaf_24b {tt : ByteArray} {nn aa : Int} {l : List Nd} {p : Option Addr} {c : Nat} {d : Bool} {w : World} (_hk : KidsV w p l) (hlen : l.length ≤ 1000000) (_ht : tt.size ≤ 1000000000) (h0 : nn ≠ 0) :
    Calls Try.prog 34 #[.agg (lookC (.mk 24 tt nn aa l) p c d)] w fun e w' => e = okB (shapeB d (.mk 24 tt nn aa l)) ∧ Below w.heap.size w w' := by
  rw [shape_24b h0]
  show Calls Try.prog 34 #[.agg #[.int .u8 24, .string tt, .int .i64 nn, .int .i64 aa, .slice p l.length c, .bool d]] w fun e w' => e = okB ((tt.toList.isEmpty && nn == 1) && allB [] l) ∧ Below w.heap.size w w'
  generalize hnk2 : l.length = nk at *
  have e0 : (nn == 0) = false := by simpa using h0
  generalize hE1 : (tt.toList.isEmpty && nn == 1) = b1
  have M1 : ∀ u, Below w.heap.size w u → Calls Try.prog 22 #[.slice (some ⟨u.heap.size, 0, none⟩) 2 2] (u.alloc (.cells #[.bool (tt.toList.isEmpty), .bool (nn == 1)] 4)) fun e w' => e = okOr (b1) ∧ Below u.heap.size u w' := fun u _ => by rw [← hE1]; exact mustA2 (tt.toList.isEmpty) (nn == 1) u
  have HE1 := Lib.hid hE1; clear hE1
  have M2 : ∀ u, Below w.heap.size w u → Calls Try.prog 43 #[.agg #[.int .u8 24, .string tt, .int .i64 nn, .int .i64 aa, .slice p nk c, .bool d], .slice none 0 0] u fun e w' => e = okOr (allB [] l) ∧ Below u.heap.size u w' := by
    intro u hu; subst hnk2; exact all_any (x := .mk 24 tt nn aa l) (ps := []) (KidsV.below hu _hk) (Or.inl rfl) hlen (by simp)
  generalize (allB [] l) = b2 at *
  have N1 := Lib.hid M1; clear M1
  have N2 := Lib.hid M2; clear M2
  have HB0 : Hid (Below w.heap.size w (w.alloc (.cells #[.int .u8 24, .string tt, .int .i64 nn, .int .i64 aa, .slice p nk c, .bool d] 42))) := Lib.hid ((Below.refl w.heap.size w).alloc (Nat.le_refl _) _)
  have BX0 : Hid (BoxAt (w.alloc (.cells #[.int .u8 24, .string tt, .int .i64 nn, .int .i64 aa, .slice p nk c, .bool d] 42)) w.heap.size (.int .u8 24) (.string tt) (.int .i64 nn) (.int .i64 aa) (.slice p nk c) (.bool d)) := Lib.hid BoxAt.new
  have HNK := Lib.hid hnk2; clear hnk2 _hk _ht hlen
  go_enter Try.func34, Try.ntmps34
  go_upto_region 10 with fail
  have hb0 := HB0.out; have bx0 := BX0.out
  generalize w.alloc (.cells #[.int .u8 24, .string tt, .int .i64 nn, .int .i64 aa, .slice p nk c, .bool d] 42) = w0 at *
  clear HB0 BX0
  have HB0 := Lib.hid hb0; have BX0 := Lib.hid bx0; clear hb0
  obtain ⟨k0, k1, k2, k3, k4, k5⟩ := bx0
  go_wp2_with (first | (go_at_call 22; go_must (with_reducible refine (N1.out _ HB0.out).mono ?_; rintro e w1 ⟨rfl, hb⟩; have HB1 := Lib.hid (HB0.out.trans (hb.mono HB0.out.size)); have BX1 := Lib.hid (BX0.out.below hb); clear hb; cases b1; (· simp only [okOr_false]; exact panic_post rfl ⟨rfl, HB1.out⟩); simp only [okOr_true]; obtain ⟨k0, k1, k2, k3, k4, k5⟩ := BX1.out)) | (go_at_call 43; go_must (with_reducible refine (N2.out _ HB1.out).mono ?_; rintro e w2 ⟨rfl, hb⟩; have HB2 := Lib.hid (HB1.out.trans (hb.mono HB1.out.size)); have BX2 := Lib.hid (BX1.out.below hb); clear hb; cases b2; (· simp only [okOr_false]; exact panic_post rfl ⟨rfl, HB2.out⟩); simp only [okOr_true]; obtain ⟨k0, k1, k2, k3, k4, k5⟩ := BX2.out)))
  go_ret
  exact ⟨rfl, HB2.out⟩
set_option maxRecDepth 100000 in
set_option maxHeartbeats 4000000 in
theorem leaf_25 {tt : ByteArray} {nn aa : Int} {l : List Nd} {p : Option Addr} {c : Nat} {d : Bool} {w : World} (_hk : KidsV w p l) (hlen : l.length ≤ 1000000) (_ht : tt.size ≤ 1000000000) :
    Calls Try.prog 34 #[.agg (lookC (.mk 25 tt nn aa l) p c d)] w fun e w' => e = okB (shapeB d (.mk 25 tt nn aa l)) ∧ Below w.heap.size w w' := by
  rw [shape_25]
  show Calls Try.prog 34 #[.agg #[.int .u8 25, .string tt, .int .i64 nn, .int .i64 aa, .slice p l.length c, .bool d]] w fun e w' => e = okB ((nameB tt.data.toList && nn == 0) && allB [] l) ∧ Below w.heap.size w w'
  generalize hnk2 : l.length = nk at *
  have M1 : ∀ u, Below w.heap.size w u → Calls Try.prog 39 #[.agg #[.int .u8 25, .string tt, .int .i64 nn, .int .i64 aa, .slice p nk c, .bool d]] u fun e w' => e = okOr ((nameB tt.data.toList && nn == 0)) ∧ Below u.heap.size u w' := by
    intro u hu; subst hnk2; exact names_any (x := .mk 25 tt nn aa l) _ht
  have M2 : ∀ u, Below w.heap.size w u → Calls Try.prog 43 #[.agg #[.int .u8 25, .string tt, .int .i64 nn, .int .i64 aa, .slice p nk c, .bool d], .slice none 0 0] u fun e w' => e = okOr (allB [] l) ∧ Below u.heap.size u w' := by
    intro u hu; subst hnk2; exact all_any (x := .mk 25 tt nn aa l) (ps := []) (KidsV.below hu _hk) (Or.inl rfl) hlen (by simp)
  generalize (nameB tt.data.toList && nn == 0) = b1 at *
  generalize (allB [] l) = b2 at *
  have N1 := Lib.hid M1; clear M1
  have N2 := Lib.hid M2; clear M2
  have HB0 : Hid (Below w.heap.size w (w.alloc (.cells #[.int .u8 25, .string tt, .int .i64 nn, .int .i64 aa, .slice p nk c, .bool d] 42))) := Lib.hid ((Below.refl w.heap.size w).alloc (Nat.le_refl _) _)
  have BX0 : Hid (BoxAt (w.alloc (.cells #[.int .u8 25, .string tt, .int .i64 nn, .int .i64 aa, .slice p nk c, .bool d] 42)) w.heap.size (.int .u8 25) (.string tt) (.int .i64 nn) (.int .i64 aa) (.slice p nk c) (.bool d)) := Lib.hid BoxAt.new
  have HNK := Lib.hid hnk2; clear hnk2 _hk _ht hlen
  go_enter Try.func34, Try.ntmps34
  go_upto_region 12 with fail
  have hb0 := HB0.out; have bx0 := BX0.out
  generalize w.alloc (.cells #[.int .u8 25, .string tt, .int .i64 nn, .int .i64 aa, .slice p nk c, .bool d] 42) = w0 at *
  clear HB0 BX0
  have HB0 := Lib.hid hb0; have BX0 := Lib.hid bx0; clear hb0
  obtain ⟨k0, k1, k2, k3, k4, k5⟩ := bx0
  go_wp2_with (first | (go_at_call 39; go_must (with_reducible refine (N1.out _ HB0.out).mono ?_; rintro e w1 ⟨rfl, hb⟩; have HB1 := Lib.hid (HB0.out.trans (hb.mono HB0.out.size)); have BX1 := Lib.hid (BX0.out.below hb); clear hb; cases b1; (· simp only [okOr_false]; exact panic_post rfl ⟨rfl, HB1.out⟩); simp only [okOr_true]; obtain ⟨k0, k1, k2, k3, k4, k5⟩ := BX1.out)) | (go_at_call 43; go_must (with_reducible refine (N2.out _ HB1.out).mono ?_; rintro e w2 ⟨rfl, hb⟩; have HB2 := Lib.hid (HB1.out.trans (hb.mono HB1.out.size)); have BX2 := Lib.hid (BX1.out.below hb); clear hb; cases b2; (· simp only [okOr_false]; exact panic_post rfl ⟨rfl, HB2.out⟩); simp only [okOr_true]; obtain ⟨k0, k1, k2, k3, k4, k5⟩ := BX2.out)))
  go_ret
  exact ⟨rfl, HB2.out⟩
set_option maxRecDepth 100000 in
set_option maxHeartbeats 4000000 in
theorem leaf_35 {tt : ByteArray} {nn aa : Int} {l : List Nd} {p : Option Addr} {c : Nat} {d : Bool} {w : World} (_hk : KidsV w p l) (hlen : l.length ≤ 1000000) (_ht : tt.size ≤ 1000000000) :
    Calls Try.prog 34 #[.agg (lookC (.mk 35 tt nn aa l) p c d)] w fun e w' => e = okB (shapeB d (.mk 35 tt nn aa l)) ∧ Below w.heap.size w w' := by
  rw [shape_35e]
  show Calls Try.prog 34 #[.agg #[.int .u8 35, .string tt, .int .i64 nn, .int .i64 aa, .slice p l.length c, .bool d]] w fun e w' => e = okB ((d && tt.toList.isEmpty && decide (0 ≤ nn) && decide (nn ≤ 99)) && allB [] l) ∧ Below w.heap.size w w'
  generalize hnk2 : l.length = nk at *
  generalize hE1 : (d && tt.toList.isEmpty && decide (0 ≤ nn) && decide (nn ≤ 99)) = b1
  have M1 : ∀ u, Below w.heap.size w u → Calls Try.prog 22 #[.slice (some ⟨u.heap.size, 0, none⟩) 4 4] (u.alloc (.cells #[.bool (d), .bool (tt.toList.isEmpty), .bool (decide (0 ≤ nn)), .bool (decide (nn ≤ 99))] 4)) fun e w' => e = okOr (b1) ∧ Below u.heap.size u w' := fun u _ => by rw [← hE1]; exact mustA4 (d) (tt.toList.isEmpty) (decide (0 ≤ nn)) (decide (nn ≤ 99)) u
  have HE1 := Lib.hid hE1; clear hE1
  have M2 : ∀ u, Below w.heap.size w u → Calls Try.prog 43 #[.agg #[.int .u8 35, .string tt, .int .i64 nn, .int .i64 aa, .slice p nk c, .bool d], .slice none 0 0] u fun e w' => e = okOr (allB [] l) ∧ Below u.heap.size u w' := by
    intro u hu; subst hnk2; exact all_any (x := .mk 35 tt nn aa l) (ps := []) (KidsV.below hu _hk) (Or.inl rfl) hlen (by simp)
  generalize (allB [] l) = b2 at *
  have N1 := Lib.hid M1; clear M1
  have N2 := Lib.hid M2; clear M2
  have HB0 : Hid (Below w.heap.size w (w.alloc (.cells #[.int .u8 35, .string tt, .int .i64 nn, .int .i64 aa, .slice p nk c, .bool d] 42))) := Lib.hid ((Below.refl w.heap.size w).alloc (Nat.le_refl _) _)
  have BX0 : Hid (BoxAt (w.alloc (.cells #[.int .u8 35, .string tt, .int .i64 nn, .int .i64 aa, .slice p nk c, .bool d] 42)) w.heap.size (.int .u8 35) (.string tt) (.int .i64 nn) (.int .i64 aa) (.slice p nk c) (.bool d)) := Lib.hid BoxAt.new
  have HNK := Lib.hid hnk2; clear hnk2 _hk _ht hlen
  go_enter Try.func34, Try.ntmps34
  go_upto_region 14 with fail
  have hb0 := HB0.out; have bx0 := BX0.out
  generalize w.alloc (.cells #[.int .u8 35, .string tt, .int .i64 nn, .int .i64 aa, .slice p nk c, .bool d] 42) = w0 at *
  clear HB0 BX0
  have HB0 := Lib.hid hb0; have BX0 := Lib.hid bx0; clear hb0
  obtain ⟨k0, k1, k2, k3, k4, k5⟩ := bx0
  go_wp2_with (first | (go_at_call 22; go_must (with_reducible refine (N1.out _ HB0.out).mono ?_; rintro e w1 ⟨rfl, hb⟩; have HB1 := Lib.hid (HB0.out.trans (hb.mono HB0.out.size)); have BX1 := Lib.hid (BX0.out.below hb); clear hb; cases b1; (· simp only [okOr_false]; exact panic_post rfl ⟨rfl, HB1.out⟩); simp only [okOr_true]; obtain ⟨k0, k1, k2, k3, k4, k5⟩ := BX1.out)) | (go_at_call 43; go_must (with_reducible refine (N2.out _ HB1.out).mono ?_; rintro e w2 ⟨rfl, hb⟩; have HB2 := Lib.hid (HB1.out.trans (hb.mono HB1.out.size)); have BX2 := Lib.hid (BX1.out.below hb); clear hb; cases b2; (· simp only [okOr_false]; exact panic_post rfl ⟨rfl, HB2.out⟩); simp only [okOr_true]; obtain ⟨k0, k1, k2, k3, k4, k5⟩ := BX2.out)))
  go_ret
  exact ⟨rfl, HB2.out⟩
set_option maxRecDepth 100000 in
set_option maxHeartbeats 4000000 in
theorem leaf_other {k : Nat} {tt : ByteArray} {nn aa : Int} {l : List Nd} {p : Option Addr} {c : Nat} {d : Bool} {w : World} (h : k ≤ 20 ∨ 26 ≤ k ∧ k ≠ 35) :
    Calls Try.prog 34 #[.agg (lookC (.mk k tt nn aa l) p c d)] w fun e w' => e = .returned (.bool false) ∧ Below w.heap.size w w' := by
  show Calls Try.prog 34 #[.agg #[.int .u8 (k : Int), .string tt, .int .i64 nn, .int .i64 aa, .slice p l.length c, .bool d]] w fun e w' => e = .returned (.bool false) ∧ Below w.heap.size w w'
  generalize l.length = nk
  have HB0 : Hid (Below w.heap.size w (w.alloc (.cells #[.int .u8 (k : Int), .string tt, .int .i64 nn, .int .i64 aa, .slice p nk c, .bool d] 42))) := Lib.hid ((Below.refl w.heap.size w).alloc (Nat.le_refl _) _)
  have BX0 : Hid (BoxAt (w.alloc (.cells #[.int .u8 (k : Int), .string tt, .int .i64 nn, .int .i64 aa, .slice p nk c, .bool d] 42)) w.heap.size (.int .u8 (k : Int)) (.string tt) (.int .i64 nn) (.int .i64 aa) (.slice p nk c) (.bool d)) := Lib.hid BoxAt.new
  have e21 : ((k : Int) == 21) = false := by simp; omega
  have e22 : ((k : Int) == 22) = false := by simp; omega
  have e23 : ((k : Int) == 23) = false := by simp; omega
  have e24 : ((k : Int) == 24) = false := by simp; omega
  have e25 : ((k : Int) == 25) = false := by simp; omega
  have e35 : ((k : Int) == 35) = false := by simp; omega
  clear h
  go_enter Try.func34, Try.ntmps34
  go_wp2
  go_ret
  exact ⟨rfl, HB0.out⟩
def leafK (k : Nat) : Bool := (21 ≤ k && k ≤ 25) || k == 35
theorem leaf_any {x : Nd} {p : Option Addr} {c : Nat} {d : Bool} {w : World} {mm : Int} (hk : KidsV w p x.kids) (hlen : x.kids.length ≤ 1000000) (ht : x.text.size ≤ 1000000000) (hm : w.cell? ⟨0, 0, none⟩ = some (.int .i64 mm)) :
    Calls Try.prog 34 #[.agg (lookC x p c d)] w fun e w' => e = (if leafK x.kind = true then okB (shapeB d x) else .returned (.bool false)) ∧ Below w.heap.size w w' := by
  obtain ⟨k, tt, nn, aa, l⟩ := x
  by_cases h : leafK k = true
  · rw [if_pos (show leafK (Nd.mk k tt nn aa l).kind = true from h)]
    simp [leafK] at h
    rcases (show k = 21 ∨ k = 22 ∨ k = 23 ∨ k = 24 ∨ k = 25 ∨ k = 35 by omega) with h | h | h | h | h | h <;> subst h
    · exact leaf_21 hk hlen ht hm
    · exact leaf_22 hk hlen ht hm
    · exact leaf_23 hk hlen ht
    · by_cases h0 : nn = 0
      · subst h0; exact leaf_24a hk hlen ht
      · exact leaf_24b hk hlen ht h0
    · exact leaf_25 hk hlen ht
    · exact leaf_35 hk hlen ht
  · rw [if_neg (show ¬ (leafK (Nd.mk k tt nn aa l).kind = true) from h)]
    simp [leafK] at h
    exact leaf_other (k := k) (by omega)
theorem statement_any {x : Nd} {p : Option Addr} {c : Nat} {d : Bool} {w : World} (hk : KidsV w p x.kids) (hlen : x.kids.length ≤ 1000000) (ht : x.text.size ≤ 1000000000) (hc : x.kids.length ≤ c) :
    Calls Try.prog 33 #[.agg (lookC x p c d)] w fun e w' => e = (if 9 ≤ x.kind ∧ x.kind ≤ 20 then okB (shapeB d x) else .returned (.bool false)) ∧ Below w.heap.size w w' := by
  obtain ⟨k, tt, nn, aa, l⟩ := x
  by_cases h : 9 ≤ k ∧ k ≤ 20
  · rw [if_pos (show 9 ≤ (Nd.mk k tt nn aa l).kind ∧ (Nd.mk k tt nn aa l).kind ≤ 20 from h)]
    obtain ⟨h1, h8⟩ := h
    rcases (show k = 9 ∨ k = 10 ∨ k = 11 ∨ k = 12 ∨ k = 13 ∨ k = 14 ∨ k = 15 ∨ k = 16 ∨ k = 17 ∨ k = 18 ∨ k = 19 ∨ k = 20 by omega) with h | h | h | h | h | h | h | h | h | h | h | h <;> subst h
    · exact statement_9 hk hlen ht
    · rcases l with _ | ⟨y0, _ | ⟨y1, _ | ⟨y2, l⟩⟩⟩
      · exact statement_10n hk hlen ht (by simp) (by simp)
      · exact statement_10a hk ht
      · exact statement_10b hk ht
      · exact statement_10n hk hlen ht (by simp) (by simp)
    · exact statement_11 hk hlen ht hc
    · exact statement_12 hk hlen ht hc
    · rcases l with _ | ⟨y0, _ | ⟨y1, _ | ⟨y2, _ | ⟨y3, l⟩⟩⟩⟩
      · exact statement_13n hk hlen ht (by simp) (by simp)
      · exact statement_13n hk hlen ht (by simp) (by simp)
      · exact statement_13a hk ht
      · exact statement_13b hk ht
      · exact statement_13n hk hlen ht (by simp) (by simp)
    · rcases l with _ | ⟨y0, _ | ⟨y1, _ | ⟨y2, l⟩⟩⟩
      · exact statement_14n hk hlen ht (by simp) (by simp)
      · exact statement_14a hk ht
      · exact statement_14b hk ht
      · exact statement_14n hk hlen ht (by simp) (by simp)
    · rcases l with _ | ⟨y0, l⟩
      · exact statement_15n hk ht
      · exact statement_15 hk hlen ht (by simp)
    · rcases l with _ | ⟨y0, l⟩
      · exact statement_16n hk ht
      · exact statement_16 hk hlen ht (by simp)
    · exact statement_17 hk hlen ht
    · exact statement_18 hk hlen ht
    · exact statement_19 hk hlen ht
    · exact statement_20 hk hlen ht
  · rw [if_neg (show ¬ (9 ≤ (Nd.mk k tt nn aa l).kind ∧ (Nd.mk k tt nn aa l).kind ≤ 20) from h)]
    exact statement_other (k := k) (by omega)
end Go.Proofs.Ytkjpdhnibfhaaaa.NodeQ
