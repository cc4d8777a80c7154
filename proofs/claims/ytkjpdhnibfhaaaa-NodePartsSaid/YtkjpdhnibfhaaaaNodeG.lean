/- node's looks: label. -/
import Derived.Test.YtkjpdhnibfhaaaaNodeF
import Derived.Test.YtkjpdhnibfhaaaaMixS
namespace Go.Proofs.Ytkjpdhnibfhaaaa.NodeG
open Go.RowKit Go.Proofs.Ytkjpdhnibfhaaaa.Nodey Go.Proofs.Ytkjpdhnibfhaaaa.NodeA Go.Proofs.Ytkjpdhnibfhaaaa.NodeB Go.Proofs.Ytkjpdhnibfhaaaa.NodeC Go.Proofs.Ytkjpdhnibfhaaaa.NodeD Go.Proofs.Ytkjpdhnibfhaaaa.NodeE Go.Proofs.Ytkjpdhnibfhaaaa.NodeF Go.Proofs.Ytkjpdhnibfhaaaa.Cut

set_option maxRecDepth 100000 in
set_option maxHeartbeats 2000000 in
theorem label_any {x : Nd} {p : Option Addr} {c : Nat} {d : Bool} {w : World} (ht : x.text.size ≤ 1000000000) :
    Calls Try.prog 48 #[.agg (lookC x p c d)] w fun e w' => e = okOr ((x.text.data.toList == [] || nameB x.text.data.toList) && x.num == 0) ∧ Below w.heap.size w w' := by
  unfold lookC
  generalize x.kids.length = nk
  generalize x.kind = kk
  generalize x.at_ = aa
  generalize x.num = nn
  generalize x.text = tt at *
  have h1 : (tt.data.toList == []) = tt.toList.isEmpty := by rw [ByteArray.toList_eq]; cases tt.data.toList <;> rfl
  rw [h1]; clear h1
  have hb := ((Below.refl w.heap.size w).alloc (Nat.le_refl _) (.cells #[.int .u8 (kk : Int), .string tt, .int .i64 nn, .int .i64 aa, .slice p nk c, .bool d] 42))
  have HB := Lib.hid hb; clear hb
  have HN := Lib.hid (fun w => name_any (w := w) ht)
  generalize nameB tt.data.toList = nb at *
  cases hem : tt.toList.isEmpty
  · cases hv : (nb && nn == 0)
    all_goals
      have HV := Lib.hid hv; clear hv
      go_enter Try.func48, Try.ntmps48
      go_wp2_with fail
      have c1 : (w.alloc (.cells #[.int .u8 (kk : Int), .string tt, .int .i64 nn, .int .i64 aa, .slice p nk c, .bool d] 42)).cell? ⟨w.heap.size, 1, none⟩ = some (.string tt) := kernel_cell
      have c2 : (w.alloc (.cells #[.int .u8 (kk : Int), .string tt, .int .i64 nn, .int .i64 aa, .slice p nk c, .bool d] 42)).cell? ⟨w.heap.size, 2, none⟩ = some (.int .i64 nn) := kernel_cell
      generalize w.alloc (.cells #[.int .u8 (kk : Int), .string tt, .int .i64 nn, .int .i64 aa, .slice p nk c, .bool d] 42) = W at *
      refine wp_region_mixS (l1 := [_, _, _, _, _, _, _, _, _, _, _, _, _, _, _]) (l2 := [_]) [(0, true), (1, true), (2, true), (3, true), (4, true), (5, true), (6, true), (7, true), (10, true), (11, true), (12, true), (13, true), (8, false), (9, true), (14, false)] (fun u => Below W.heap.size W u) (by kernel_rfl) (by kernel_rfl) (by repeat (first | refine loose_then ?_ | refine loose_block ?_ | exact loose_body (P := Try.prog) (fn := Try.f48))) ((Below.refl _ W).drew) ?_
      refine mixS_take (.pointer (some ⟨w.heap.size, 0, none⟩)) rfl rfl (fun u hu => by go_simp) ?_
      refine mixS_take (.pointer (some ⟨w.heap.size, 1, none⟩)) rfl rfl (fun u hu => by go_simp) ?_
      refine mixS_take (.string tt) rfl rfl (fun u hu => by have k1 := (hu.cell (World.block_lt_of_cell? _ _ c1)).trans c1; go_simp) ?_
      refine mixS_take (.bool false) rfl rfl (fun u hu => by go_simp) ?_
      refine mixS_take (.bool false) rfl rfl (fun u hu => by go_simp) ?_
      refine mixS_take (.pointer (some ⟨w.heap.size, 0, none⟩)) rfl (wanted_at (g := 4) (b := false) (t := 6) rfl rfl rfl) (fun u hu => by go_simp) ?_
      refine mixS_take (.pointer (some ⟨w.heap.size, 1, none⟩)) rfl (wanted_at (g := 4) (b := false) (t := 6) rfl rfl (by (iterate 1 (refine put_far (by decide) ?_)); rfl)) (fun u hu => by go_simp) ?_
      refine mixS_take (.string tt) rfl (wanted_at (g := 4) (b := false) (t := 6) rfl rfl (by (iterate 2 (refine put_far (by decide) ?_)); rfl)) (fun u hu => by have k1 := (hu.cell (World.block_lt_of_cell? _ _ c1)).trans c1; go_simp) ?_
      refine mixS_take (.pointer (some ⟨w.heap.size, 0, none⟩)) rfl rfl (fun u hu => by go_simp) ?_
      refine mixS_take (.pointer (some ⟨w.heap.size, 2, none⟩)) rfl rfl (fun u hu => by go_simp) ?_
      refine mixS_take (.int .i64 nn) rfl rfl (fun u hu => by have k1 := (hu.cell (World.block_lt_of_cell? _ _ c2)).trans c2; go_simp) ?_
      refine mixS_take (.bool (nn == 0)) rfl rfl (fun u hu => by go_simp) ?_
      refine mixS_go rfl (wanted_at (g := 4) (b := false) (t := 6) rfl rfl (by (iterate 7 (refine put_far (by decide) ?_)); rfl)) fun K hK => wp_go (f := 54) (args := #[.string tt]) (by go_simp) ((HN.out _).mono ?_)
      rintro e w1 ⟨rfl, hb1⟩
      have hb2 : Below W.heap.size W w1 := ((Below.refl _ W).drew).trans (hb1.mono (by simp))
      refine hK.out _ _ hb2 ?_
      clear hK
      refine mixS_take (.bool nb) rfl rfl (fun u hu => by go_simp) ?_
      refine mixS_go rfl rfl fun K hK => wp_val (v := .slice (some ⟨w1.heap.size, 0, none⟩) 2 2) (w' := w1.alloc (.cells #[.bool nb, .bool (nn == 0)] 4)) (by go_simp) ?_
      have hb4 := hb2.alloc hb2.size (.cells #[.bool nb, .bool (nn == 0)] 4)
      have k0 : (w1.alloc (.cells #[.bool nb, .bool (nn == 0)] 4)).cell? ⟨w1.heap.size, 0, none⟩ = some (.bool nb) := kernel_cell
      have k1 : (w1.alloc (.cells #[.bool nb, .bool (nn == 0)] 4)).cell? ⟨w1.heap.size, 1, none⟩ = some (.bool (nn == 0)) := kernel_cell
      refine hK.out _ _ hb4 ?_
      clear hK
      show wpList _ _ _ _ _ _
      have hb3 := HB.out.trans (hb4.mono HB.out.size)
      have HM := Lib.hid (must_two (c := 2) k0 k1)
      clear k0 k1 hb1 hb2 hb4 c1 c2
      generalize w1.alloc (.cells #[.bool nb, .bool (nn == 0)] 4) = W2 at *
      go_wp2_with (go_at_call 22; refine HM.out.mono ?_; rintro e w2 ⟨rfl, rfl⟩; rw [HV.out]; unfold okOr; simp only [Bool.false_eq_true, if_false, if_true])
    · exact ⟨rfl, by simp only [Bool.false_or]; rw [HV.out]; rfl, hb3⟩
    · go_end0
      exact ⟨by simp only [Bool.false_or]; rw [HV.out]; rfl, hb3⟩
  · cases hv : (nn == 0)
    all_goals
      have HV := Lib.hid hv
      go_enter Try.func48, Try.ntmps48
      go_wp2_with fail
      have c1 : (w.alloc (.cells #[.int .u8 (kk : Int), .string tt, .int .i64 nn, .int .i64 aa, .slice p nk c, .bool d] 42)).cell? ⟨w.heap.size, 1, none⟩ = some (.string tt) := kernel_cell
      have c2 : (w.alloc (.cells #[.int .u8 (kk : Int), .string tt, .int .i64 nn, .int .i64 aa, .slice p nk c, .bool d] 42)).cell? ⟨w.heap.size, 2, none⟩ = some (.int .i64 nn) := kernel_cell
      generalize w.alloc (.cells #[.int .u8 (kk : Int), .string tt, .int .i64 nn, .int .i64 aa, .slice p nk c, .bool d] 42) = W at *
      refine wp_region_mixS (l1 := [_, _, _, _, _, _, _, _, _, _, _, _, _, _, _]) (l2 := [_]) [(0, true), (1, true), (2, true), (3, true), (4, true), (5, true), (6, true), (7, true), (10, true), (11, true), (12, true), (13, true), (8, true), (9, true), (14, false)] (fun u => Below W.heap.size W u) (by kernel_rfl) (by kernel_rfl) (by repeat (first | refine loose_then ?_ | refine loose_block ?_ | exact loose_body (P := Try.prog) (fn := Try.f48))) ((Below.refl _ W).drew) ?_
      refine mixS_take (.pointer (some ⟨w.heap.size, 0, none⟩)) rfl rfl (fun u hu => by go_simp) ?_
      refine mixS_take (.pointer (some ⟨w.heap.size, 1, none⟩)) rfl rfl (fun u hu => by go_simp) ?_
      refine mixS_take (.string tt) rfl rfl (fun u hu => by have k1 := (hu.cell (World.block_lt_of_cell? _ _ c1)).trans c1; go_simp) ?_
      refine mixS_take (.bool true) rfl rfl (fun u hu => by go_simp) ?_
      refine mixS_take (.bool true) rfl rfl (fun u hu => by go_simp) ?_
      refine mixS_skip rfl (unwanted_at (g := 4) (b := false) (c := true) (t := 6) rfl rfl rfl (by decide)) ?_
      refine mixS_skip rfl (unwanted_at (g := 4) (b := false) (c := true) (t := 6) rfl rfl (by (iterate 1 (refine put_far (by decide) ?_)); rfl) (by decide)) ?_
      refine mixS_skip rfl (unwanted_at (g := 4) (b := false) (c := true) (t := 6) rfl rfl (by (iterate 2 (refine put_far (by decide) ?_)); rfl) (by decide)) ?_
      refine mixS_take (.pointer (some ⟨w.heap.size, 0, none⟩)) rfl rfl (fun u hu => by go_simp) ?_
      refine mixS_take (.pointer (some ⟨w.heap.size, 2, none⟩)) rfl rfl (fun u hu => by go_simp) ?_
      refine mixS_take (.int .i64 nn) rfl rfl (fun u hu => by have k1 := (hu.cell (World.block_lt_of_cell? _ _ c2)).trans c2; go_simp) ?_
      refine mixS_take (.bool (nn == 0)) rfl rfl (fun u hu => by rw [hv]; go_simp) ?_
      refine mixS_skip rfl (unwanted_at (g := 4) (b := false) (c := true) (t := 6) rfl rfl (by (iterate 7 (refine put_far (by decide) ?_)); rfl) (by decide)) ?_
      refine mixS_take (.bool true) rfl rfl (fun u hu => by go_simp) ?_
      have hb2 : Below W.heap.size W W.drew := (Below.refl _ W).drew
      refine mixS_go rfl rfl fun K hK => wp_val (v := .slice (some ⟨W.heap.size, 0, none⟩) 2 2) (w' := W.drew.alloc (.cells #[.bool true, .bool (nn == 0)] 4)) (by rw [hv]; go_simp) ?_
      have hb4 := hb2.alloc hb2.size (.cells #[.bool true, .bool (nn == 0)] 4)
      have k0 : (W.drew.alloc (.cells #[.bool true, .bool (nn == 0)] 4)).cell? ⟨W.heap.size, 0, none⟩ = some (.bool true) := kernel_cell
      have k1 : (W.drew.alloc (.cells #[.bool true, .bool (nn == 0)] 4)).cell? ⟨W.heap.size, 1, none⟩ = some (.bool (nn == 0)) := kernel_cell
      refine hK.out _ _ hb4 ?_
      clear hK
      show wpList _ _ _ _ _ _
      have hb3 := HB.out.trans (hb4.mono HB.out.size)
      have HM := Lib.hid (must_two (c := 2) k0 k1)
      clear k0 k1 hb2 hb4 c1 c2 hv
      generalize W.drew.alloc (.cells #[.bool true, .bool (nn == 0)] 4) = W2 at *
      go_wp2_with (go_at_call 22; refine HM.out.mono ?_; rintro e w2 ⟨rfl, rfl⟩; rw [HV.out]; unfold okOr; simp only [Bool.and_false, Bool.and_true, Bool.false_eq_true, if_false, if_true])
    · exact ⟨rfl, by simp [okOr], hb3⟩
    · go_end0
      exact ⟨by simp [okOr], hb3⟩
end Go.Proofs.Ytkjpdhnibfhaaaa.NodeG
