/- The law's trees, made. (Printed by build_gen.py.) -/
import Derived.Test.YtkjpdhnibfhaaaaNodeW
import Derived.Test.YtkjpdhnibfhaaaaBuildG
import Derived.Test.YtkjpdhnibfhaaaaBuildN
import Derived.Deep.Cut
namespace Go.Proofs.Ytkjpdhnibfhaaaa.NodeX
open Go Go.RowKit Go.Proofs.Ytkjpdhnibfhaaaa.Nodey Go.Proofs.Ytkjpdhnibfhaaaa.NodeA Go.Proofs.Ytkjpdhnibfhaaaa.NodeB Go.Proofs.Ytkjpdhnibfhaaaa.NodeF Go.Proofs.Ytkjpdhnibfhaaaa.NodeI Go.Proofs.Ytkjpdhnibfhaaaa.NodeK Go.Proofs.Ytkjpdhnibfhaaaa.NodeM Go.Proofs.Ytkjpdhnibfhaaaa.NodeS Go.Proofs.Ytkjpdhnibfhaaaa.NodeT Go.Proofs.Ytkjpdhnibfhaaaa.NodeU Go.Proofs.Ytkjpdhnibfhaaaa.Cut Go.Proofs.Ytkjpdhnibfhaaaa.Build Go.Proofs.Ytkjpdhnibfhaaaa.NodeV Go.Proofs.Ytkjpdhnibfhaaaa.NodeW

def awV1 : Nd := (.mk 12 { data := #[] } 1 0 [(.mk 35 { data := #[] } 0 0 []), (.mk 27 { data := #[43] } 0 0 [(.mk 35 { data := #[] } 1 0 []), (.mk 21 { data := #[50] } 0 0 [])])])
def awV2 : Nd := (.mk 1 { data := #[109, 97, 105, 110] } 0 0 [(.mk 4 { data := #[102] } 0 0 [(.mk 5 { data := #[] } 0 0 []), (.mk 6 { data := #[] } 0 0 []), (.mk 9 { data := #[] } 0 0 [awV1])])])
def awV3 : Nd := (.mk 12 { data := #[] } 1 0 [(.mk 28 { data := #[102] } 0 0 []), (.mk 21 { data := #[50] } 0 0 [])])
set_option maxRecDepth 100000 in
set_option maxHeartbeats 4000000 in
theorem awake_any {w : World} {mm : Int} (hm : w.cell? ⟨0, 0, none⟩ = some (.int .i64 mm)) :
    Calls Try.prog 10 #[] w fun e w' => e = .returned (.bool true) ∧ Below w.heap.size w w' := by
  have HE1 := Lib.hid (EnvV.start w)
  go_enter Try.func10, Try.ntmps10
  go_upto_region 1 with fail
  refine wp_region_inrow (l1 := [_, _, _, _, _, _, _]) (l2 := [_, _]) [4, 5, 6, 7, 8, 9, 10] (fun u => Below w.heap.size w u) (FS [.node (.mk 35 { data := #[] } 0 0 []), .node (.mk 35 { data := #[] } 1 0 []), .node (.mk 21 { data := #[50] } 0 0 []), .kids [(.mk 35 { data := #[] } 1 0 []), (.mk 21 { data := #[50] } 0 0 [])], .node (.mk 27 { data := #[43] } 0 0 [(.mk 35 { data := #[] } 1 0 []), (.mk 21 { data := #[50] } 0 0 [])]), .kids [(.mk 35 { data := #[] } 0 0 []), (.mk 27 { data := #[43] } 0 0 [(.mk 35 { data := #[] } 1 0 []), (.mk 21 { data := #[50] } 0 0 [])])], .node (.mk 12 { data := #[] } 1 0 [(.mk 35 { data := #[] } 0 0 []), (.mk 27 { data := #[43] } 0 0 [(.mk 35 { data := #[] } 1 0 []), (.mk 21 { data := #[50] } 0 0 [])])])] w) (by kernel_rfl) (by kernel_rfl) FS.below (Below.refl _ _) ⟨?_, ?_, ?_, ?_, ?_, ?_, ?_, trivial⟩ ?_
  · exact st_num (k := 35) (n := 0) rfl (X := (.const (.slice none 0 0))) .none rfl
  · exact st_num (k := 35) (n := 1) rfl (X := (.const (.slice none 0 0))) .none rfl
  · exact st_of (k := 21) (t := { data := #[50] }) rfl (X := (.const (.slice none 0 0))) .none rfl (by decide)
  · exact st_build2 (j0 := 1) (j1 := 2) rfl rfl (by decide) rfl rfl (by decide) rfl rfl
  · exact st_of (k := 27) (t := { data := #[43] }) rfl (X := (.tmp 7)) (.tmp (j := 3) (by decide) rfl rfl) rfl (by decide)
  · exact st_build2 (j0 := 0) (j1 := 4) rfl rfl (by decide) rfl rfl (by decide) rfl rfl
  · exact st_num (k := 12) (n := 1) rfl (X := (.tmp 9)) (.tmp (j := 5) (by decide) rfl rfl) rfl
  rintro wx hx v0 g0 v1 g1 v2 g2 v3 g3 v4 g4 v5 g5 v6 g6
  show wpList _ _ _ _ (putAll _ [(4, _), (5, _), (6, _), (7, _), (8, _), (9, _), (10, _)]) _
  simp only [putAll, Act.put, List.setIfInBounds_toArray, List.set_cons_succ, List.set_cons_zero]
  refine fin_alloc rfl rfl fun b1 wa1 hb1 ha1 hz1 hn1 => ?_
  simp only [putAll, Act.put, List.setIfInBounds_toArray, List.set_cons_succ, List.set_cons_zero]
  have hx1 := hx.trans (ha1.mono hx.size)
  have zz1 := hz1
  have hev := HE1.out.below hx1
  have hxs := hx.size
  have hv10 := (IsNode.below ha1 (FS.of g6 rfl))
  refine fin_store (x := awV1) rfl rfl rfl (b := b1) (v := v6) rfl rfl zz1 hv10 (by decide) fun ws1 hs1 => ?_
  have he1 := hev.store zz1 hs1 (by have := HE1.out.on.size; omega) (fun e he => by (have := (HE1.out.vars e he).1.lt; omega)) (x := awV1) (by decide)
  refine wpList_nil ?_
  have HE2 := Lib.hid he1
  clear he1 zz1 hs1 ha1 hz1 hx1 hx hxs hev HE1 g0 g1 g2 g3 g4 g5 g6 hv10
  clear hb1 hn1
  go_upto_region 2 with fail
  generalize ws1 = w2 at *
  refine wp_region_typed (l1 := [_, _, _, _, _, _, _, _, _, _]) (l2 := [_]) [11, 12, 13, 14, 15, 16, 17, 18, 19, 2] (fun u => Below w2.heap.size w2 u) (FS [.node (.mk 5 { data := #[] } 0 0 []), .node (.mk 6 { data := #[] } 0 0 []), .node awV1, .kids [awV1], .node (.mk 9 { data := #[] } 0 0 [awV1]), .kids [(.mk 5 { data := #[] } 0 0 []), (.mk 6 { data := #[] } 0 0 []), (.mk 9 { data := #[] } 0 0 [awV1])], .node (.mk 4 { data := #[102] } 0 0 [(.mk 5 { data := #[] } 0 0 []), (.mk 6 { data := #[] } 0 0 []), (.mk 9 { data := #[] } 0 0 [awV1])]), .kids [(.mk 4 { data := #[102] } 0 0 [(.mk 5 { data := #[] } 0 0 []), (.mk 6 { data := #[] } 0 0 []), (.mk 9 { data := #[] } 0 0 [awV1])])], .node (.mk 1 { data := #[109, 97, 105, 110] } 0 0 [(.mk 4 { data := #[102] } 0 0 [(.mk 5 { data := #[] } 0 0 []), (.mk 6 { data := #[] } 0 0 []), (.mk 9 { data := #[] } 0 0 [awV1])])]), .fresh] w2) (by kernel_rfl) (by kernel_rfl) (by kernel_rfl) FS.below ((Below.refl _ _).drew) ⟨?_, ?_, ?_, ?_, ?_, ?_, ?_, ?_, ?_, ?_, trivial⟩ ?_
  · exact st_of (k := 5) (t := { data := #[] }) rfl (X := (.const (.slice none 0 0))) .none rfl (by decide)
  · exact st_of (k := 6) (t := { data := #[] }) rfl (X := (.const (.slice none 0 0))) .none rfl (by decide)
  · exact st_load rfl rfl rfl (b := b1) rfl (HE2.out.get (by simp))
  · exact st_build1 (j0 := 2) rfl rfl (by decide) rfl rfl
  · exact st_action rfl (X := (.tmp 14)) (.tmp (j := 3) (by decide) rfl rfl) rfl (by decide)
  · exact st_build3 (j0 := 0) (j1 := 1) (j2 := 4) rfl rfl (by decide) rfl rfl (by decide) rfl rfl (by decide) rfl rfl
  · exact st_of (k := 4) (t := { data := #[102] }) rfl (X := (.tmp 16)) (.tmp (j := 5) (by decide) rfl rfl) rfl (by decide)
  · exact st_build1 (j0 := 6) rfl rfl (by decide) rfl rfl
  · exact st_of (k := 1) (t := { data := #[109, 97, 105, 110] }) rfl (X := (.tmp 18)) (.tmp (j := 7) (by decide) rfl rfl) rfl (by decide)
  · exact st_alloc rfl rfl
  rintro wx hx v0 g0 v1 g1 v2 g2 v3 g3 v4 g4 v5 g5 v6 g6 v7 g7 v8 g8 v9 g9
  show wpList _ _ _ _ (putAll _ [(11, _), (12, _), (13, _), (14, _), (15, _), (16, _), (17, _), (18, _), (19, _), (2, _)]) _
  simp only [putAll, Act.put, List.setIfInBounds_toArray, List.set_cons_succ, List.set_cons_zero]
  obtain ⟨b2, rfl, hle, hz⟩ := FS.of g9 rfl
  refine fin_store (x := awV2) rfl rfl rfl (b := b2) (v := v8) rfl rfl hz (FS.of g8 rfl) (by decide) fun w3 hs => wpList_nil ?_
  have HE3 := Lib.hid (HE2.out.after hx hz hle hs (by decide))
  clear hx hz hle hs HE2 g0 g1 g2 g3 g4 g5 g6 g7 g8 g9
  go_upto_region 3 with fail
  refine wp_region_inrow (l1 := [_, _, _, _]) (l2 := [_, _]) [20, 21, 22, 23] (fun u => Below w3.heap.size w3 u) (FS [.node (.mk 28 { data := #[102] } 0 0 []), .node (.mk 21 { data := #[50] } 0 0 []), .kids [(.mk 28 { data := #[102] } 0 0 []), (.mk 21 { data := #[50] } 0 0 [])], .node (.mk 12 { data := #[] } 1 0 [(.mk 28 { data := #[102] } 0 0 []), (.mk 21 { data := #[50] } 0 0 [])])] w3) (by kernel_rfl) (by kernel_rfl) FS.below (Below.refl _ _) ⟨?_, ?_, ?_, ?_, trivial⟩ ?_
  · exact st_of (k := 28) (t := { data := #[102] }) rfl (X := (.const (.slice none 0 0))) .none rfl (by decide)
  · exact st_of (k := 21) (t := { data := #[50] }) rfl (X := (.const (.slice none 0 0))) .none rfl (by decide)
  · exact st_build2 (j0 := 0) (j1 := 1) rfl rfl (by decide) rfl rfl (by decide) rfl rfl
  · exact st_num (k := 12) (n := 1) rfl (X := (.tmp 22)) (.tmp (j := 2) (by decide) rfl rfl) rfl
  rintro wx hx v0 g0 v1 g1 v2 g2 v3 g3
  show wpList _ _ _ _ (putAll _ [(20, _), (21, _), (22, _), (23, _)]) _
  simp only [putAll, Act.put, List.setIfInBounds_toArray, List.set_cons_succ, List.set_cons_zero]
  refine fin_alloc rfl rfl fun b3 wa3 hb3 ha3 hz3 hn3 => ?_
  simp only [putAll, Act.put, List.setIfInBounds_toArray, List.set_cons_succ, List.set_cons_zero]
  have hx3 := hx.trans (ha3.mono hx.size)
  have zz3 := hz3
  have hev := HE3.out.below hx3
  have hxs := hx.size
  have hv23 := (IsNode.below ha3 (FS.of g3 rfl))
  refine fin_store (x := awV3) rfl rfl rfl (b := b3) (v := v3) rfl rfl zz3 hv23 (by decide) fun ws3 hs3 => ?_
  have he3 := hev.store zz3 hs3 (by have := HE3.out.on.size; omega) (fun e he => by (have := (HE3.out.vars e he).1.lt; omega)) (x := awV3) (by decide)
  refine wpList_nil ?_
  have HE4 := Lib.hid he3
  clear he3 zz3 hs3 ha3 hz3 hx3 hx hxs hev HE3 g0 g1 g2 g3 hv23
  clear hb3 hn3
  go_upto_region 4 with fail
  generalize ws3 = w4 at *
  refine wp_region_guarded (l1 := [_, _, _, _, _, _, _, _, _, _, _, _, _, _, _, _, _, _, _, _, _, _, _, _, _, _, _, _, _, _, _, _, _, _, _, _, _, _, _, _, _, _, _, _, _, _, _, _, _]) (l2 := [_]) [24, 25, 26, 27, 28, 29, 30, 31, 32, 33, 34, 35, 36, 37, 38, 39, 40, 41, 42, 43, 44, 45, 46, 47, 48, 49, 50, 51, 52, 53, 54, 55, 56, 57, 58, 59, 60, 61, 62, 63, 64, 65, 66, 67, 68, 69, 70, 71, 72] (fun u => Below w4.heap.size w4 u) [.node (.mk 1 { data := #[109, 97, 105, 110] } 0 0 []), .val (.bool true), .val (.bool true), .node (.mk 9 { data := #[] } 0 0 []), .val (.bool true), .val (.bool true), .val (.bool true), .node awV1, .kids [awV1], .node (.mk 9 { data := #[] } 0 0 [awV1]), .val (.bool true), .val (.bool true), .val (.bool true), .node fileN, .val (.bool true), .val (.bool true), .val (.bool true), .node awV1, .val (.bool false), .val (.bool true), .val (.bool true), .val (.bool true), .node awV2, .val (.bool false), .val (.bool true), .val (.bool true), .val (.bool true), .node (.mk 21 { data := #[48, 48, 55] } 0 0 []), .kids [(.mk 21 { data := #[48, 48, 55] } 0 0 [])], .node (.mk 17 { data := #[] } 0 0 [(.mk 21 { data := #[48, 48, 55] } 0 0 [])]), .kids [(.mk 17 { data := #[] } 0 0 [(.mk 21 { data := #[48, 48, 55] } 0 0 [])])], .node (.mk 9 { data := #[] } 0 0 [(.mk 17 { data := #[] } 0 0 [(.mk 21 { data := #[48, 48, 55] } 0 0 [])])]), .val (.bool false), .val (.bool true), .val (.bool true), .val (.bool true), .node awV3, .kids [awV3], .node (.mk 9 { data := #[] } 0 0 [awV3]), .val (.bool false), .val (.bool true), .val (.bool true), .val (.bool true), .node awV1, .kids [awV1], .node (.mk 9 { data := #[] } 0 0 [awV1]), .val (.int .i64 4), .val (.bool true), .val (.bool true)] (by kernel_rfl) ⟨?_, ?_, ?_, ?_, ?_, ?_, ?_, ?_, ?_, ?_, ?_, ?_, ?_, ?_, ?_, ?_, ?_, ?_, ?_, ?_, ?_, ?_, ?_, ?_, ?_, ?_, ?_, ?_, ?_, ?_, ?_, ?_, ?_, ?_, ?_, ?_, ?_, ?_, ?_, ?_, ?_, ?_, ?_, ?_, ?_, ?_, ?_, ?_, ?_, trivial⟩ (by kernel_rfl) (Below.refl _ _) ⟨?_, ?_, ?_, ?_, ?_, ?_, ?_, ?_, ?_, ?_, ?_, ?_, ?_, ?_, ?_, ?_, ?_, ?_, ?_, ?_, ?_, ?_, ?_, ?_, ?_, ?_, ?_, ?_, ?_, ?_, ?_, ?_, ?_, ?_, ?_, ?_, ?_, ?_, ?_, ?_, ?_, ?_, ?_, ?_, ?_, ?_, ?_, ?_, ?_, trivial⟩ ?_
  · exact guard_no rfl
  · exact guard_no rfl
  · exact guard_no rfl
  · exact guard_yes (g := 2) (b := true) rfl (by decide) rfl
  · exact guard_yes (g := 2) (b := true) rfl (by decide) rfl
  · exact guard_no rfl
  · exact guard_no rfl
  · exact guard_yes (g := 6) (b := true) rfl (by decide) rfl
  · exact guard_yes (g := 6) (b := true) rfl (by decide) rfl
  · exact guard_yes (g := 6) (b := true) rfl (by decide) rfl
  · exact guard_yes (g := 6) (b := true) rfl (by decide) rfl
  · exact guard_no rfl
  · exact guard_no rfl
  · exact guard_yes (g := 12) (b := true) rfl (by decide) rfl
  · exact guard_yes (g := 12) (b := true) rfl (by decide) rfl
  · exact guard_no rfl
  · exact guard_no rfl
  · exact guard_yes (g := 16) (b := true) rfl (by decide) rfl
  · exact guard_yes (g := 16) (b := true) rfl (by decide) rfl
  · exact guard_yes (g := 16) (b := true) rfl (by decide) rfl
  · exact guard_no rfl
  · exact guard_no rfl
  · exact guard_yes (g := 21) (b := true) rfl (by decide) rfl
  · exact guard_yes (g := 21) (b := true) rfl (by decide) rfl
  · exact guard_yes (g := 21) (b := true) rfl (by decide) rfl
  · exact guard_no rfl
  · exact guard_no rfl
  · exact guard_yes (g := 26) (b := true) rfl (by decide) rfl
  · exact guard_yes (g := 26) (b := true) rfl (by decide) rfl
  · exact guard_yes (g := 26) (b := true) rfl (by decide) rfl
  · exact guard_yes (g := 26) (b := true) rfl (by decide) rfl
  · exact guard_yes (g := 26) (b := true) rfl (by decide) rfl
  · exact guard_yes (g := 26) (b := true) rfl (by decide) rfl
  · exact guard_yes (g := 26) (b := true) rfl (by decide) rfl
  · exact guard_no rfl
  · exact guard_no rfl
  · exact guard_yes (g := 35) (b := true) rfl (by decide) rfl
  · exact guard_yes (g := 35) (b := true) rfl (by decide) rfl
  · exact guard_yes (g := 35) (b := true) rfl (by decide) rfl
  · exact guard_yes (g := 35) (b := true) rfl (by decide) rfl
  · exact guard_yes (g := 35) (b := true) rfl (by decide) rfl
  · exact guard_no rfl
  · exact guard_no rfl
  · exact guard_yes (g := 42) (b := true) rfl (by decide) rfl
  · exact guard_yes (g := 42) (b := true) rfl (by decide) rfl
  · exact guard_yes (g := 42) (b := true) rfl (by decide) rfl
  · exact guard_yes (g := 42) (b := true) rfl (by decide) rfl
  · exact guard_yes (g := 42) (b := true) rfl (by decide) rfl
  · exact guard_no rfl
  · exact st_of (k := 1) (t := { data := #[109, 97, 105, 110] }) rfl (X := (.const (.slice none 0 0))) .none rfl (by decide)
  · exact st_right (j := 0) (cell_on HE4.out.on hm) rfl (by decide) rfl rfl rfl (by kernel_rfl)
  · exact st_movev (j := 1) rfl (by decide) rfl rfl rfl
  · exact st_action rfl (X := (.const (.slice none 0 0))) .none rfl (by decide)
  · exact st_right (j := 3) (cell_on HE4.out.on hm) rfl (by decide) rfl rfl rfl (by kernel_rfl)
  · exact st_pick (j1 := 2) (j2 := 4) rfl (by decide) rfl rfl (by decide) rfl rfl rfl
  · exact st_movev (j := 5) rfl (by decide) rfl rfl rfl
  · exact st_load rfl rfl rfl (b := b1) rfl (HE4.out.get (by simp))
  · exact st_build1 (j0 := 7) rfl rfl (by decide) rfl rfl
  · exact st_action rfl (X := (.tmp 32)) (.tmp (j := 8) (by decide) rfl rfl) rfl (by decide)
  · exact st_right (j := 9) (cell_on HE4.out.on hm) rfl (by decide) rfl rfl rfl (by kernel_rfl)
  · exact st_pick (j1 := 6) (j2 := 10) rfl (by decide) rfl rfl (by decide) rfl rfl rfl
  · exact st_movev (j := 11) rfl (by decide) rfl rfl rfl
  · exact st_call rfl (args := fun _ => #[]) (fun a w => by go_simp) fun a w _ _ _ => file_any
  · exact st_right (j := 13) (cell_on HE4.out.on hm) rfl (by decide) rfl rfl rfl (by kernel_rfl)
  · exact st_pick (j1 := 12) (j2 := 14) rfl (by decide) rfl rfl (by decide) rfl rfl rfl
  · exact st_movev (j := 15) rfl (by decide) rfl rfl rfl
  · exact st_load rfl rfl rfl (b := b1) rfl (HE4.out.get (by simp))
  · exact st_right (j := 17) (cell_on HE4.out.on hm) rfl (by decide) rfl rfl rfl (by kernel_rfl)
  · exact st_not (j := 18) rfl (by decide) rfl rfl rfl rfl
  · exact st_pick (j1 := 16) (j2 := 19) rfl (by decide) rfl rfl (by decide) rfl rfl rfl
  · exact st_movev (j := 20) rfl (by decide) rfl rfl rfl
  · exact st_load rfl rfl rfl (b := b2) rfl (HE4.out.get (by simp))
  · exact st_right (j := 22) (cell_on HE4.out.on hm) rfl (by decide) rfl rfl rfl (by kernel_rfl)
  · exact st_not (j := 23) rfl (by decide) rfl rfl rfl rfl
  · exact st_pick (j1 := 21) (j2 := 24) rfl (by decide) rfl rfl (by decide) rfl rfl rfl
  · exact st_movev (j := 25) rfl (by decide) rfl rfl rfl
  · exact st_of (k := 21) (t := { data := #[48, 48, 55] }) rfl (X := (.const (.slice none 0 0))) .none rfl (by decide)
  · exact st_build1 (j0 := 27) rfl rfl (by decide) rfl rfl
  · exact st_of (k := 17) (t := { data := #[] }) rfl (X := (.tmp 52)) (.tmp (j := 28) (by decide) rfl rfl) rfl (by decide)
  · exact st_build1 (j0 := 29) rfl rfl (by decide) rfl rfl
  · exact st_action rfl (X := (.tmp 54)) (.tmp (j := 30) (by decide) rfl rfl) rfl (by decide)
  · exact st_right (j := 31) (cell_on HE4.out.on hm) rfl (by decide) rfl rfl rfl (by kernel_rfl)
  · exact st_not (j := 32) rfl (by decide) rfl rfl rfl rfl
  · exact st_pick (j1 := 26) (j2 := 33) rfl (by decide) rfl rfl (by decide) rfl rfl rfl
  · exact st_movev (j := 34) rfl (by decide) rfl rfl rfl
  · exact st_load rfl rfl rfl (b := b3) rfl (HE4.out.get (by simp))
  · exact st_build1 (j0 := 36) rfl rfl (by decide) rfl rfl
  · exact st_action rfl (X := (.tmp 61)) (.tmp (j := 37) (by decide) rfl rfl) rfl (by decide)
  · exact st_right (j := 38) (cell_on HE4.out.on hm) rfl (by decide) rfl rfl rfl (by kernel_rfl)
  · exact st_not (j := 39) rfl (by decide) rfl rfl rfl rfl
  · exact st_pick (j1 := 35) (j2 := 40) rfl (by decide) rfl rfl (by decide) rfl rfl rfl
  · exact st_movev (j := 41) rfl (by decide) rfl rfl rfl
  · exact st_load rfl rfl rfl (b := b1) rfl (HE4.out.get (by simp))
  · exact st_build1 (j0 := 43) rfl rfl (by decide) rfl rfl
  · exact st_action rfl (X := (.tmp 68)) (.tmp (j := 44) (by decide) rfl rfl) rfl (by decide)
  · exact st_deep (j := 45) rfl (by decide) rfl rfl rfl (by kernel_rfl) (by decide)
  · exact st_eql (j := 46) rfl (by decide) rfl rfl rfl rfl
  · exact st_pick (j1 := 42) (j2 := 47) rfl (by decide) rfl rfl (by decide) rfl rfl rfl
  rintro a wx hx hdf hsz hfr hsl
  obtain ⟨vx, hvx, gx⟩ := hsl 48 72 rfl
  have e1 : vx = .bool true := FS.of gx rfl
  subst e1
  have hb := HE4.out.on.trans (hx.mono HE4.out.on.size)
  have hev := eval_tmp hvx
  refine list_step rfl (wp_val (v := .bool true) (w' := wx) (by simp only [execOp, hev]; go_simp) (wpList_nil ?_))
  have hz : (a.put (some 0) (.bool true)).tmps[0]? = some (.bool true) := by
    show (a.tmps.setIfInBounds 0 (.bool true))[0]? = _
    have h0 : 0 < a.tmps.size := by rw [hsz]; simp
    simp [h0]
  have HZ := Lib.hid hz; have HD := Lib.hid hdf; have HB := Lib.hid hb
  clear hx hsz hfr hsl hvx gx hev hz hdf hb HE4
  show Exit.then _ _ .normal _ _
  have HD2 : Hid ((a.put (some 0) (.bool true)).defers = []) := HD
  generalize (a.put (some 0) (.bool true)) = a2 at *
  go_wp2_with fail
  have hz := HZ.out
  refine bodyPost_ret (v := .bool true) ?_ HD2.out ⟨rfl, HB.out⟩
  obtain ⟨hz1, hz2⟩ := Array.getElem?_eq_some_iff.1 hz
  simp [results, Try.results10, go_sem, hz1, hz2]
end Go.Proofs.Ytkjpdhnibfhaaaa.NodeX
