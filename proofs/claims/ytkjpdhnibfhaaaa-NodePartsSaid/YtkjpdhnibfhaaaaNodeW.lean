/- The law's trees, made. (Printed by build_gen.py.) -/
import Derived.Test.YtkjpdhnibfhaaaaNodeV
import Derived.Test.YtkjpdhnibfhaaaaBuildN
import Derived.Deep.Cut
namespace Go.Proofs.Ytkjpdhnibfhaaaa.NodeW
open Go Go.RowKit Go.Proofs.Ytkjpdhnibfhaaaa.Nodey Go.Proofs.Ytkjpdhnibfhaaaa.NodeA Go.Proofs.Ytkjpdhnibfhaaaa.NodeB Go.Proofs.Ytkjpdhnibfhaaaa.NodeF Go.Proofs.Ytkjpdhnibfhaaaa.NodeI Go.Proofs.Ytkjpdhnibfhaaaa.NodeK Go.Proofs.Ytkjpdhnibfhaaaa.NodeM Go.Proofs.Ytkjpdhnibfhaaaa.NodeS Go.Proofs.Ytkjpdhnibfhaaaa.NodeT Go.Proofs.Ytkjpdhnibfhaaaa.NodeU Go.Proofs.Ytkjpdhnibfhaaaa.Cut Go.Proofs.Ytkjpdhnibfhaaaa.Build Go.Proofs.Ytkjpdhnibfhaaaa.NodeV

def fullV1 : Nd := (.mk 25 { data := #[120] } 0 0 [])
def fullV2 : Nd := (.mk 21 { data := #[49, 48] } 0 0 [])
def fullV3 : Nd := (.mk 8 { data := #[] } 0 0 [(.mk 7 { data := #[105, 110, 116] } 0 0 [])])
def fullV4 : Nd := (.mk 28 { data := #[102] } 0 0 [fullV2, (.mk 23 { data := #[255] } 0 0 [])])
def fullV5 : Nd := (.mk 27 { data := #[60, 61] } 0 0 [(.mk 26 { data := #[45] } 0 0 [fullV1]), (.mk 22 { data := #[48, 46, 53, 48] } 0 0 [])])
def fullV6 : Nd := (.mk 31 { data := #[112] } 0 0 [(.mk 29 { data := #[] } 0 0 [fullV1, fullV2])])
def fullV7 : Nd := (.mk 32 { data := #[] } 0 0 [fullV3, fullV2, (.mk 30 { data := #[] } 0 0 [fullV1, fullV2])])
def fullV8 : Nd := (.mk 33 { data := #[84] } 0 0 [(.mk 34 { data := #[97] } 0 0 [(.mk 24 { data := #[] } 1 0 [])]), (.mk 34 { data := #[98] } 0 0 [(.mk 24 { data := #[] } 0 0 [])])])
def fullV9 : Nd := (.mk 15 { data := #[] } 0 0 [fullV1, (.mk 16 { data := #[] } 0 0 [fullV2, fullV1, (.mk 9 { data := #[] } 0 0 [])]), (.mk 16 { data := #[] } 0 0 [(.mk 9 { data := #[] } 0 0 [(.mk 18 { data := #[] } 0 0 [])])])])
def fullV10 : Nd := (.mk 14 { data := #[76] } 0 0 [fullV5, (.mk 9 { data := #[] } 0 0 [(.mk 18 { data := #[76] } 0 0 []), (.mk 19 { data := #[] } 0 0 [])])])
def fullV11 : Nd := (.mk 13 { data := #[] } 0 0 [fullV5, (.mk 9 { data := #[] } 0 0 []), (.mk 13 { data := #[] } 0 0 [fullV1, (.mk 9 { data := #[] } 0 0 []), (.mk 9 { data := #[] } 0 0 [])])])
def fullN : Nd := (.mk 9 { data := #[] } 0 0 [(.mk 10 { data := #[118] } 0 0 [fullV3]), (.mk 10 { data := #[119] } 0 0 [fullV3, fullV7]), (.mk 11 { data := #[] } 1 0 [fullV1, fullV8]), (.mk 11 { data := #[] } 2 0 [fullV1, fullV1, fullV4]), (.mk 12 { data := #[] } 1 0 [fullV6, fullV2]), (.mk 12 { data := #[] } 2 0 [fullV1, fullV6, fullV2, fullV5]), (.mk 12 { data := #[] } 2 0 [fullV1, fullV1, fullV4]), fullV11, fullV10, (.mk 14 { data := #[] } 0 0 [(.mk 9 { data := #[] } 0 0 [])]), fullV9, (.mk 17 { data := #[] } 0 0 [fullV2, fullV1]), (.mk 20 { data := #[] } 0 0 [fullV4]), (.mk 9 { data := #[] } 0 0 [])])
set_option maxRecDepth 100000 in
set_option maxHeartbeats 4000000 in
theorem full_any {w : World} :
    Calls Try.prog 36 #[] w fun e w' => ∃ u, e = .returned u ∧ IsNode w' u fullN ∧ Below w.heap.size w w' := by
  have HE1 := Lib.hid (Env.start w)
  unfold zeros at HE1
  go_enter Try.func36, Try.ntmps36
  go_upto_region 1 with fail
  generalize w.alloc (.cells #[.int .u8 0, .string { data := #[] }, .int .i64 0, .int .i64 0, .slice none 0 0] 25) = w1 at *
  refine wp_region_inrow (l1 := [_, _, _, _, _]) (l2 := [_, _, _, _, _, _]) [12, 13, 14, 15, 16] (fun u => Below w1.heap.size w1 u) (FS [.node (.mk 25 { data := #[120] } 0 0 []), .node (.mk 21 { data := #[49, 48] } 0 0 []), .node (.mk 7 { data := #[105, 110, 116] } 0 0 []), .kids [(.mk 7 { data := #[105, 110, 116] } 0 0 [])], .node (.mk 8 { data := #[] } 0 0 [(.mk 7 { data := #[105, 110, 116] } 0 0 [])])] w1) (by kernel_rfl) (by kernel_rfl) FS.below (Below.refl _ _) ⟨?_, ?_, ?_, ?_, ?_, trivial⟩ ?_
  · exact st_of (k := 25) (t := { data := #[120] }) rfl (X := (.const (.slice none 0 0))) .none rfl (by decide)
  · exact st_of (k := 21) (t := { data := #[49, 48] }) rfl (X := (.const (.slice none 0 0))) .none rfl (by decide)
  · exact st_of (k := 7) (t := { data := #[105, 110, 116] }) rfl (X := (.const (.slice none 0 0))) .none rfl (by decide)
  · exact st_build1 (j0 := 2) rfl rfl (by decide) rfl rfl
  · exact st_of (k := 8) (t := { data := #[] }) rfl (X := (.tmp 15)) (.tmp (j := 3) (by decide) rfl rfl) rfl (by decide)
  rintro wx hx v0 g0 v1 g1 v2 g2 v3 g3 v4 g4
  show wpList _ _ _ _ (putAll _ [(12, _), (13, _), (14, _), (15, _), (16, _)]) _
  simp only [putAll, Act.put, List.setIfInBounds_toArray, List.set_cons_succ, List.set_cons_zero]
  refine fin_alloc rfl rfl fun b1 wa1 hb1 ha1 hz1 hn1 => ?_
  simp only [putAll, Act.put, List.setIfInBounds_toArray, List.set_cons_succ, List.set_cons_zero]
  refine fin_alloc rfl rfl fun b2 wa2 hb2 ha2 hz2 hn2 => ?_
  simp only [putAll, Act.put, List.setIfInBounds_toArray, List.set_cons_succ, List.set_cons_zero]
  refine fin_alloc rfl rfl fun b3 wa3 hb3 ha3 hz3 hn3 => ?_
  simp only [putAll, Act.put, List.setIfInBounds_toArray, List.set_cons_succ, List.set_cons_zero]
  have hx1 := hx.trans (ha1.mono hx.size)
  have hx2 := hx1.trans (ha2.mono hx1.size)
  have hx3 := hx2.trans (ha3.mono hx2.size)
  have zz1 := (hz1.below ha2).below ha3
  have zz2 := hz2.below ha3
  have zz3 := hz3
  have hev := HE1.out.below hx3
  have hxs := hx.size
  have hv12 := (IsNode.below ha3 (IsNode.below ha2 (IsNode.below ha1 (FS.of g0 rfl))))
  have hv13 := (IsNode.below ha3 (IsNode.below ha2 (IsNode.below ha1 (FS.of g1 rfl))))
  have hv16 := (IsNode.below ha3 (IsNode.below ha2 (IsNode.below ha1 (FS.of g4 rfl))))
  refine fin_store (x := fullV1) rfl rfl rfl (b := b1) (v := v0) rfl rfl zz1 hv12 (by decide) fun ws1 hs1 => ?_
  have he1 := hev.store zz1 hs1 (by have := HE1.out.on.size; omega) (by have := HE1.out.zero.lt; omega) (fun e he => by (have := (HE1.out.vars e he).1.lt; omega)) (x := fullV1) (by decide)
  replace hv13 := IsNode.set hs1 zz1 hv13 (by decide)
  replace zz2 := ZeroAt.set hs1 zz2 (by omega)
  replace hv16 := IsNode.set hs1 zz1 hv16 (by decide)
  replace zz3 := ZeroAt.set hs1 zz3 (by omega)
  refine fin_store (x := fullV2) rfl rfl rfl (b := b2) (v := v1) rfl rfl zz2 hv13 (by decide) fun ws2 hs2 => ?_
  have he2 := he1.store zz2 hs2 (by have := HE1.out.on.size; omega) (by have := HE1.out.zero.lt; omega) (fun e he => by (rcases List.mem_cons.1 he with rfl | he; (· show b1 ≠ b2; omega); (have := (HE1.out.vars e he).1.lt; omega))) (x := fullV2) (by decide)
  replace hv16 := IsNode.set hs2 zz2 hv16 (by decide)
  replace zz3 := ZeroAt.set hs2 zz3 (by omega)
  refine fin_store (x := fullV3) rfl rfl rfl (b := b3) (v := v4) rfl rfl zz3 hv16 (by decide) fun ws3 hs3 => ?_
  have he3 := he2.store zz3 hs3 (by have := HE1.out.on.size; omega) (by have := HE1.out.zero.lt; omega) (fun e he => by (rcases List.mem_cons.1 he with rfl | he; (· show b2 ≠ b3; omega); (rcases List.mem_cons.1 he with rfl | he; (· show b1 ≠ b3; omega); (have := (HE1.out.vars e he).1.lt; omega)))) (x := fullV3) (by decide)
  refine wpList_nil ?_
  have HE2 := Lib.hid he3
  clear he1 zz1 hs1 ha1 hz1 hx1 he2 zz2 hs2 ha2 hz2 hx2 he3 zz3 hs3 ha3 hz3 hx3 hx hxs hev HE1 g0 g1 g2 g3 g4 hv12 hv13 hv16
  clear hb1 hn1 hb2 hn2 hb3 hn3
  go_upto_region 2 with fail
  generalize ws3 = w2 at *
  refine wp_region_typed (l1 := [_, _, _, _, _]) (l2 := [_]) [17, 18, 19, 20, 4] (fun u => Below w2.heap.size w2 u) (FS [.node fullV2, .node (.mk 23 { data := #[255] } 0 0 []), .kids [fullV2, (.mk 23 { data := #[255] } 0 0 [])], .node (.mk 28 { data := #[102] } 0 0 [fullV2, (.mk 23 { data := #[255] } 0 0 [])]), .fresh] w2) (by kernel_rfl) (by kernel_rfl) (by kernel_rfl) FS.below ((Below.refl _ _).drew) ⟨?_, ?_, ?_, ?_, ?_, trivial⟩ ?_
  · exact st_load rfl rfl rfl (b := b2) rfl (HE2.out.get (by simp))
  · exact st_of (k := 23) (t := { data := #[255] }) rfl (X := (.const (.slice none 0 0))) .none rfl (by decide)
  · exact st_build2 (j0 := 0) (j1 := 1) rfl rfl (by decide) rfl rfl (by decide) rfl rfl
  · exact st_of (k := 28) (t := { data := #[102] }) rfl (X := (.tmp 19)) (.tmp (j := 2) (by decide) rfl rfl) rfl (by decide)
  · exact st_alloc rfl rfl
  rintro wx hx v0 g0 v1 g1 v2 g2 v3 g3 v4 g4
  show wpList _ _ _ _ (putAll _ [(17, _), (18, _), (19, _), (20, _), (4, _)]) _
  simp only [putAll, Act.put, List.setIfInBounds_toArray, List.set_cons_succ, List.set_cons_zero]
  obtain ⟨b4, rfl, hle, hz⟩ := FS.of g4 rfl
  refine fin_store (x := fullV4) rfl rfl rfl (b := b4) (v := v3) rfl rfl hz (FS.of g3 rfl) (by decide) fun w3 hs => wpList_nil ?_
  have HE3 := Lib.hid (HE2.out.after hx hz hle hs (by decide))
  clear hx hz hle hs HE2 g0 g1 g2 g3 g4
  go_upto_region 3 with fail
  refine wp_region_inrow (l1 := [_, _, _, _, _, _]) (l2 := [_, _]) [21, 22, 23, 24, 25, 26] (fun u => Below w3.heap.size w3 u) (FS [.node fullV1, .kids [fullV1], .node (.mk 26 { data := #[45] } 0 0 [fullV1]), .node (.mk 22 { data := #[48, 46, 53, 48] } 0 0 []), .kids [(.mk 26 { data := #[45] } 0 0 [fullV1]), (.mk 22 { data := #[48, 46, 53, 48] } 0 0 [])], .node (.mk 27 { data := #[60, 61] } 0 0 [(.mk 26 { data := #[45] } 0 0 [fullV1]), (.mk 22 { data := #[48, 46, 53, 48] } 0 0 [])])] w3) (by kernel_rfl) (by kernel_rfl) FS.below (Below.refl _ _) ⟨?_, ?_, ?_, ?_, ?_, ?_, trivial⟩ ?_
  · exact st_load rfl rfl rfl (b := b1) rfl (HE3.out.get (by simp))
  · exact st_build1 (j0 := 0) rfl rfl (by decide) rfl rfl
  · exact st_of (k := 26) (t := { data := #[45] }) rfl (X := (.tmp 22)) (.tmp (j := 1) (by decide) rfl rfl) rfl (by decide)
  · exact st_of (k := 22) (t := { data := #[48, 46, 53, 48] }) rfl (X := (.const (.slice none 0 0))) .none rfl (by decide)
  · exact st_build2 (j0 := 2) (j1 := 3) rfl rfl (by decide) rfl rfl (by decide) rfl rfl
  · exact st_of (k := 27) (t := { data := #[60, 61] }) rfl (X := (.tmp 25)) (.tmp (j := 4) (by decide) rfl rfl) rfl (by decide)
  rintro wx hx v0 g0 v1 g1 v2 g2 v3 g3 v4 g4 v5 g5
  show wpList _ _ _ _ (putAll _ [(21, _), (22, _), (23, _), (24, _), (25, _), (26, _)]) _
  simp only [putAll, Act.put, List.setIfInBounds_toArray, List.set_cons_succ, List.set_cons_zero]
  refine fin_alloc rfl rfl fun b5 wa5 hb5 ha5 hz5 hn5 => ?_
  simp only [putAll, Act.put, List.setIfInBounds_toArray, List.set_cons_succ, List.set_cons_zero]
  have hx5 := hx.trans (ha5.mono hx.size)
  have zz5 := hz5
  have hev := HE3.out.below hx5
  have hxs := hx.size
  have hv26 := (IsNode.below ha5 (FS.of g5 rfl))
  refine fin_store (x := fullV5) rfl rfl rfl (b := b5) (v := v5) rfl rfl zz5 hv26 (by decide) fun ws5 hs5 => ?_
  have he5 := hev.store zz5 hs5 (by have := HE3.out.on.size; omega) (by have := HE3.out.zero.lt; omega) (fun e he => by (have := (HE3.out.vars e he).1.lt; omega)) (x := fullV5) (by decide)
  refine wpList_nil ?_
  have HE4 := Lib.hid he5
  clear he5 zz5 hs5 ha5 hz5 hx5 hx hxs hev HE3 g0 g1 g2 g3 g4 g5 hv26
  clear hb5 hn5
  go_upto_region 4 with fail
  generalize ws5 = w4 at *
  refine wp_region_inrow (l1 := [_, _, _, _, _, _]) (l2 := [_, _]) [27, 28, 29, 30, 31, 32] (fun u => Below w4.heap.size w4 u) (FS [.node fullV1, .node fullV2, .kids [fullV1, fullV2], .node (.mk 29 { data := #[] } 0 0 [fullV1, fullV2]), .kids [(.mk 29 { data := #[] } 0 0 [fullV1, fullV2])], .node (.mk 31 { data := #[112] } 0 0 [(.mk 29 { data := #[] } 0 0 [fullV1, fullV2])])] w4) (by kernel_rfl) (by kernel_rfl) FS.below (Below.refl _ _) ⟨?_, ?_, ?_, ?_, ?_, ?_, trivial⟩ ?_
  · exact st_load rfl rfl rfl (b := b1) rfl (HE4.out.get (by simp))
  · exact st_load rfl rfl rfl (b := b2) rfl (HE4.out.get (by simp))
  · exact st_build2 (j0 := 0) (j1 := 1) rfl rfl (by decide) rfl rfl (by decide) rfl rfl
  · exact st_of (k := 29) (t := { data := #[] }) rfl (X := (.tmp 29)) (.tmp (j := 2) (by decide) rfl rfl) rfl (by decide)
  · exact st_build1 (j0 := 3) rfl rfl (by decide) rfl rfl
  · exact st_of (k := 31) (t := { data := #[112] }) rfl (X := (.tmp 31)) (.tmp (j := 4) (by decide) rfl rfl) rfl (by decide)
  rintro wx hx v0 g0 v1 g1 v2 g2 v3 g3 v4 g4 v5 g5
  show wpList _ _ _ _ (putAll _ [(27, _), (28, _), (29, _), (30, _), (31, _), (32, _)]) _
  simp only [putAll, Act.put, List.setIfInBounds_toArray, List.set_cons_succ, List.set_cons_zero]
  refine fin_alloc rfl rfl fun b6 wa6 hb6 ha6 hz6 hn6 => ?_
  simp only [putAll, Act.put, List.setIfInBounds_toArray, List.set_cons_succ, List.set_cons_zero]
  have hx6 := hx.trans (ha6.mono hx.size)
  have zz6 := hz6
  have hev := HE4.out.below hx6
  have hxs := hx.size
  have hv32 := (IsNode.below ha6 (FS.of g5 rfl))
  refine fin_store (x := fullV6) rfl rfl rfl (b := b6) (v := v5) rfl rfl zz6 hv32 (by decide) fun ws6 hs6 => ?_
  have he6 := hev.store zz6 hs6 (by have := HE4.out.on.size; omega) (by have := HE4.out.zero.lt; omega) (fun e he => by (have := (HE4.out.vars e he).1.lt; omega)) (x := fullV6) (by decide)
  refine wpList_nil ?_
  have HE5 := Lib.hid he6
  clear he6 zz6 hs6 ha6 hz6 hx6 hx hxs hev HE4 g0 g1 g2 g3 g4 g5 hv32
  clear hb6 hn6
  go_upto_region 5 with fail
  generalize ws6 = w5 at *
  refine wp_region_typed (l1 := [_, _, _, _, _, _, _, _, _]) (l2 := [_]) [33, 34, 35, 36, 37, 38, 39, 40, 7] (fun u => Below w5.heap.size w5 u) (FS [.node fullV3, .node fullV2, .node fullV1, .node fullV2, .kids [fullV1, fullV2], .node (.mk 30 { data := #[] } 0 0 [fullV1, fullV2]), .kids [fullV3, fullV2, (.mk 30 { data := #[] } 0 0 [fullV1, fullV2])], .node (.mk 32 { data := #[] } 0 0 [fullV3, fullV2, (.mk 30 { data := #[] } 0 0 [fullV1, fullV2])]), .fresh] w5) (by kernel_rfl) (by kernel_rfl) (by kernel_rfl) FS.below ((Below.refl _ _).drew) ⟨?_, ?_, ?_, ?_, ?_, ?_, ?_, ?_, ?_, trivial⟩ ?_
  · exact st_load rfl rfl rfl (b := b3) rfl (HE5.out.get (by simp))
  · exact st_load rfl rfl rfl (b := b2) rfl (HE5.out.get (by simp))
  · exact st_load rfl rfl rfl (b := b1) rfl (HE5.out.get (by simp))
  · exact st_load rfl rfl rfl (b := b2) rfl (HE5.out.get (by simp))
  · exact st_build2 (j0 := 2) (j1 := 3) rfl rfl (by decide) rfl rfl (by decide) rfl rfl
  · exact st_of (k := 30) (t := { data := #[] }) rfl (X := (.tmp 37)) (.tmp (j := 4) (by decide) rfl rfl) rfl (by decide)
  · exact st_build3 (j0 := 0) (j1 := 1) (j2 := 5) rfl rfl (by decide) rfl rfl (by decide) rfl rfl (by decide) rfl rfl
  · exact st_of (k := 32) (t := { data := #[] }) rfl (X := (.tmp 39)) (.tmp (j := 6) (by decide) rfl rfl) rfl (by decide)
  · exact st_alloc rfl rfl
  rintro wx hx v0 g0 v1 g1 v2 g2 v3 g3 v4 g4 v5 g5 v6 g6 v7 g7 v8 g8
  show wpList _ _ _ _ (putAll _ [(33, _), (34, _), (35, _), (36, _), (37, _), (38, _), (39, _), (40, _), (7, _)]) _
  simp only [putAll, Act.put, List.setIfInBounds_toArray, List.set_cons_succ, List.set_cons_zero]
  obtain ⟨b7, rfl, hle, hz⟩ := FS.of g8 rfl
  refine fin_store (x := fullV7) rfl rfl rfl (b := b7) (v := v7) rfl rfl hz (FS.of g7 rfl) (by decide) fun w6 hs => wpList_nil ?_
  have HE6 := Lib.hid (HE5.out.after hx hz hle hs (by decide))
  clear hx hz hle hs HE5 g0 g1 g2 g3 g4 g5 g6 g7 g8
  go_upto_region 6 with fail
  refine wp_region_inrow (l1 := [_, _, _, _, _, _, _, _]) (l2 := [_, _]) [41, 42, 43, 44, 45, 46, 47, 48] (fun u => Below w6.heap.size w6 u) (FS [.node (.mk 24 { data := #[] } 1 0 []), .kids [(.mk 24 { data := #[] } 1 0 [])], .node (.mk 34 { data := #[97] } 0 0 [(.mk 24 { data := #[] } 1 0 [])]), .node (.mk 24 { data := #[] } 0 0 []), .kids [(.mk 24 { data := #[] } 0 0 [])], .node (.mk 34 { data := #[98] } 0 0 [(.mk 24 { data := #[] } 0 0 [])]), .kids [(.mk 34 { data := #[97] } 0 0 [(.mk 24 { data := #[] } 1 0 [])]), (.mk 34 { data := #[98] } 0 0 [(.mk 24 { data := #[] } 0 0 [])])], .node (.mk 33 { data := #[84] } 0 0 [(.mk 34 { data := #[97] } 0 0 [(.mk 24 { data := #[] } 1 0 [])]), (.mk 34 { data := #[98] } 0 0 [(.mk 24 { data := #[] } 0 0 [])])])] w6) (by kernel_rfl) (by kernel_rfl) FS.below (Below.refl _ _) ⟨?_, ?_, ?_, ?_, ?_, ?_, ?_, ?_, trivial⟩ ?_
  · exact st_num (k := 24) (n := 1) rfl (X := (.const (.slice none 0 0))) .none rfl
  · exact st_build1 (j0 := 0) rfl rfl (by decide) rfl rfl
  · exact st_of (k := 34) (t := { data := #[97] }) rfl (X := (.tmp 42)) (.tmp (j := 1) (by decide) rfl rfl) rfl (by decide)
  · exact st_num (k := 24) (n := 0) rfl (X := (.const (.slice none 0 0))) .none rfl
  · exact st_build1 (j0 := 3) rfl rfl (by decide) rfl rfl
  · exact st_of (k := 34) (t := { data := #[98] }) rfl (X := (.tmp 45)) (.tmp (j := 4) (by decide) rfl rfl) rfl (by decide)
  · exact st_build2 (j0 := 2) (j1 := 5) rfl rfl (by decide) rfl rfl (by decide) rfl rfl
  · exact st_of (k := 33) (t := { data := #[84] }) rfl (X := (.tmp 47)) (.tmp (j := 6) (by decide) rfl rfl) rfl (by decide)
  rintro wx hx v0 g0 v1 g1 v2 g2 v3 g3 v4 g4 v5 g5 v6 g6 v7 g7
  show wpList _ _ _ _ (putAll _ [(41, _), (42, _), (43, _), (44, _), (45, _), (46, _), (47, _), (48, _)]) _
  simp only [putAll, Act.put, List.setIfInBounds_toArray, List.set_cons_succ, List.set_cons_zero]
  refine fin_alloc rfl rfl fun b8 wa8 hb8 ha8 hz8 hn8 => ?_
  simp only [putAll, Act.put, List.setIfInBounds_toArray, List.set_cons_succ, List.set_cons_zero]
  have hx8 := hx.trans (ha8.mono hx.size)
  have zz8 := hz8
  have hev := HE6.out.below hx8
  have hxs := hx.size
  have hv48 := (IsNode.below ha8 (FS.of g7 rfl))
  refine fin_store (x := fullV8) rfl rfl rfl (b := b8) (v := v7) rfl rfl zz8 hv48 (by decide) fun ws8 hs8 => ?_
  have he8 := hev.store zz8 hs8 (by have := HE6.out.on.size; omega) (by have := HE6.out.zero.lt; omega) (fun e he => by (have := (HE6.out.vars e he).1.lt; omega)) (x := fullV8) (by decide)
  refine wpList_nil ?_
  have HE7 := Lib.hid he8
  clear he8 zz8 hs8 ha8 hz8 hx8 hx hxs hev HE6 g0 g1 g2 g3 g4 g5 g6 g7 hv48
  clear hb8 hn8
  go_upto_region 7 with fail
  generalize ws8 = w7 at *
  refine wp_region_typed (l1 := [_, _, _, _, _, _, _, _, _, _, _, _, _, _]) (l2 := [_]) [49, 50, 51, 52, 53, 54, 55, 56, 57, 58, 59, 60, 61, 9] (fun u => Below w7.heap.size w7 u) (FS [.node fullV1, .node fullV2, .node fullV1, .node (.mk 9 { data := #[] } 0 0 []), .kids [fullV2, fullV1, (.mk 9 { data := #[] } 0 0 [])], .node (.mk 16 { data := #[] } 0 0 [fullV2, fullV1, (.mk 9 { data := #[] } 0 0 [])]), .node (.mk 18 { data := #[] } 0 0 []), .kids [(.mk 18 { data := #[] } 0 0 [])], .node (.mk 9 { data := #[] } 0 0 [(.mk 18 { data := #[] } 0 0 [])]), .kids [(.mk 9 { data := #[] } 0 0 [(.mk 18 { data := #[] } 0 0 [])])], .node (.mk 16 { data := #[] } 0 0 [(.mk 9 { data := #[] } 0 0 [(.mk 18 { data := #[] } 0 0 [])])]), .kids [fullV1, (.mk 16 { data := #[] } 0 0 [fullV2, fullV1, (.mk 9 { data := #[] } 0 0 [])]), (.mk 16 { data := #[] } 0 0 [(.mk 9 { data := #[] } 0 0 [(.mk 18 { data := #[] } 0 0 [])])])], .node (.mk 15 { data := #[] } 0 0 [fullV1, (.mk 16 { data := #[] } 0 0 [fullV2, fullV1, (.mk 9 { data := #[] } 0 0 [])]), (.mk 16 { data := #[] } 0 0 [(.mk 9 { data := #[] } 0 0 [(.mk 18 { data := #[] } 0 0 [])])])]), .fresh] w7) (by kernel_rfl) (by kernel_rfl) (by kernel_rfl) FS.below ((Below.refl _ _).drew) ⟨?_, ?_, ?_, ?_, ?_, ?_, ?_, ?_, ?_, ?_, ?_, ?_, ?_, ?_, trivial⟩ ?_
  · exact st_load rfl rfl rfl (b := b1) rfl (HE7.out.get (by simp))
  · exact st_load rfl rfl rfl (b := b2) rfl (HE7.out.get (by simp))
  · exact st_load rfl rfl rfl (b := b1) rfl (HE7.out.get (by simp))
  · exact st_action rfl (X := (.const (.slice none 0 0))) .none rfl (by decide)
  · exact st_build3 (j0 := 1) (j1 := 2) (j2 := 3) rfl rfl (by decide) rfl rfl (by decide) rfl rfl (by decide) rfl rfl
  · exact st_of (k := 16) (t := { data := #[] }) rfl (X := (.tmp 53)) (.tmp (j := 4) (by decide) rfl rfl) rfl (by decide)
  · exact st_of (k := 18) (t := { data := #[] }) rfl (X := (.const (.slice none 0 0))) .none rfl (by decide)
  · exact st_build1 (j0 := 6) rfl rfl (by decide) rfl rfl
  · exact st_action rfl (X := (.tmp 56)) (.tmp (j := 7) (by decide) rfl rfl) rfl (by decide)
  · exact st_build1 (j0 := 8) rfl rfl (by decide) rfl rfl
  · exact st_of (k := 16) (t := { data := #[] }) rfl (X := (.tmp 58)) (.tmp (j := 9) (by decide) rfl rfl) rfl (by decide)
  · exact st_build3 (j0 := 0) (j1 := 5) (j2 := 10) rfl rfl (by decide) rfl rfl (by decide) rfl rfl (by decide) rfl rfl
  · exact st_of (k := 15) (t := { data := #[] }) rfl (X := (.tmp 60)) (.tmp (j := 11) (by decide) rfl rfl) rfl (by decide)
  · exact st_alloc rfl rfl
  rintro wx hx v0 g0 v1 g1 v2 g2 v3 g3 v4 g4 v5 g5 v6 g6 v7 g7 v8 g8 v9 g9 v10 g10 v11 g11 v12 g12 v13 g13
  show wpList _ _ _ _ (putAll _ [(49, _), (50, _), (51, _), (52, _), (53, _), (54, _), (55, _), (56, _), (57, _), (58, _), (59, _), (60, _), (61, _), (9, _)]) _
  simp only [putAll, Act.put, List.setIfInBounds_toArray, List.set_cons_succ, List.set_cons_zero]
  obtain ⟨b9, rfl, hle, hz⟩ := FS.of g13 rfl
  refine fin_store (x := fullV9) rfl rfl rfl (b := b9) (v := v12) rfl rfl hz (FS.of g12 rfl) (by decide) fun w8 hs => wpList_nil ?_
  have HE8 := Lib.hid (HE7.out.after hx hz hle hs (by decide))
  clear hx hz hle hs HE7 g0 g1 g2 g3 g4 g5 g6 g7 g8 g9 g10 g11 g12 g13
  go_upto_region 8 with fail
  refine wp_region_typed (l1 := [_, _, _, _, _, _, _, _]) (l2 := [_]) [62, 63, 64, 65, 66, 67, 68, 10] (fun u => Below w8.heap.size w8 u) (FS [.node fullV5, .node (.mk 18 { data := #[76] } 0 0 []), .node (.mk 19 { data := #[] } 0 0 []), .kids [(.mk 18 { data := #[76] } 0 0 []), (.mk 19 { data := #[] } 0 0 [])], .node (.mk 9 { data := #[] } 0 0 [(.mk 18 { data := #[76] } 0 0 []), (.mk 19 { data := #[] } 0 0 [])]), .kids [fullV5, (.mk 9 { data := #[] } 0 0 [(.mk 18 { data := #[76] } 0 0 []), (.mk 19 { data := #[] } 0 0 [])])], .node (.mk 14 { data := #[76] } 0 0 [fullV5, (.mk 9 { data := #[] } 0 0 [(.mk 18 { data := #[76] } 0 0 []), (.mk 19 { data := #[] } 0 0 [])])]), .fresh] w8) (by kernel_rfl) (by kernel_rfl) (by kernel_rfl) FS.below ((Below.refl _ _).drew) ⟨?_, ?_, ?_, ?_, ?_, ?_, ?_, ?_, trivial⟩ ?_
  · exact st_load rfl rfl rfl (b := b5) rfl (HE8.out.get (by simp))
  · exact st_of (k := 18) (t := { data := #[76] }) rfl (X := (.const (.slice none 0 0))) .none rfl (by decide)
  · exact st_of (k := 19) (t := { data := #[] }) rfl (X := (.const (.slice none 0 0))) .none rfl (by decide)
  · exact st_build2 (j0 := 1) (j1 := 2) rfl rfl (by decide) rfl rfl (by decide) rfl rfl
  · exact st_action rfl (X := (.tmp 65)) (.tmp (j := 3) (by decide) rfl rfl) rfl (by decide)
  · exact st_build2 (j0 := 0) (j1 := 4) rfl rfl (by decide) rfl rfl (by decide) rfl rfl
  · exact st_of (k := 14) (t := { data := #[76] }) rfl (X := (.tmp 67)) (.tmp (j := 5) (by decide) rfl rfl) rfl (by decide)
  · exact st_alloc rfl rfl
  rintro wx hx v0 g0 v1 g1 v2 g2 v3 g3 v4 g4 v5 g5 v6 g6 v7 g7
  show wpList _ _ _ _ (putAll _ [(62, _), (63, _), (64, _), (65, _), (66, _), (67, _), (68, _), (10, _)]) _
  simp only [putAll, Act.put, List.setIfInBounds_toArray, List.set_cons_succ, List.set_cons_zero]
  obtain ⟨b10, rfl, hle, hz⟩ := FS.of g7 rfl
  refine fin_store (x := fullV10) rfl rfl rfl (b := b10) (v := v6) rfl rfl hz (FS.of g6 rfl) (by decide) fun w9 hs => wpList_nil ?_
  have HE9 := Lib.hid (HE8.out.after hx hz hle hs (by decide))
  clear hx hz hle hs HE8 g0 g1 g2 g3 g4 g5 g6 g7
  go_upto_region 9 with fail
  refine wp_region_typed (l1 := [_, _, _, _, _, _, _, _, _, _]) (l2 := [_]) [69, 70, 71, 72, 73, 74, 75, 76, 77, 11] (fun u => Below w9.heap.size w9 u) (FS [.node fullV5, .node (.mk 9 { data := #[] } 0 0 []), .node fullV1, .node (.mk 9 { data := #[] } 0 0 []), .node (.mk 9 { data := #[] } 0 0 []), .kids [fullV1, (.mk 9 { data := #[] } 0 0 []), (.mk 9 { data := #[] } 0 0 [])], .node (.mk 13 { data := #[] } 0 0 [fullV1, (.mk 9 { data := #[] } 0 0 []), (.mk 9 { data := #[] } 0 0 [])]), .kids [fullV5, (.mk 9 { data := #[] } 0 0 []), (.mk 13 { data := #[] } 0 0 [fullV1, (.mk 9 { data := #[] } 0 0 []), (.mk 9 { data := #[] } 0 0 [])])], .node (.mk 13 { data := #[] } 0 0 [fullV5, (.mk 9 { data := #[] } 0 0 []), (.mk 13 { data := #[] } 0 0 [fullV1, (.mk 9 { data := #[] } 0 0 []), (.mk 9 { data := #[] } 0 0 [])])]), .fresh] w9) (by kernel_rfl) (by kernel_rfl) (by kernel_rfl) FS.below ((Below.refl _ _).drew) ⟨?_, ?_, ?_, ?_, ?_, ?_, ?_, ?_, ?_, ?_, trivial⟩ ?_
  · exact st_load rfl rfl rfl (b := b5) rfl (HE9.out.get (by simp))
  · exact st_action rfl (X := (.const (.slice none 0 0))) .none rfl (by decide)
  · exact st_load rfl rfl rfl (b := b1) rfl (HE9.out.get (by simp))
  · exact st_action rfl (X := (.const (.slice none 0 0))) .none rfl (by decide)
  · exact st_action rfl (X := (.const (.slice none 0 0))) .none rfl (by decide)
  · exact st_build3 (j0 := 2) (j1 := 3) (j2 := 4) rfl rfl (by decide) rfl rfl (by decide) rfl rfl (by decide) rfl rfl
  · exact st_of (k := 13) (t := { data := #[] }) rfl (X := (.tmp 74)) (.tmp (j := 5) (by decide) rfl rfl) rfl (by decide)
  · exact st_build3 (j0 := 0) (j1 := 1) (j2 := 6) rfl rfl (by decide) rfl rfl (by decide) rfl rfl (by decide) rfl rfl
  · exact st_of (k := 13) (t := { data := #[] }) rfl (X := (.tmp 76)) (.tmp (j := 7) (by decide) rfl rfl) rfl (by decide)
  · exact st_alloc rfl rfl
  rintro wx hx v0 g0 v1 g1 v2 g2 v3 g3 v4 g4 v5 g5 v6 g6 v7 g7 v8 g8 v9 g9
  show wpList _ _ _ _ (putAll _ [(69, _), (70, _), (71, _), (72, _), (73, _), (74, _), (75, _), (76, _), (77, _), (11, _)]) _
  simp only [putAll, Act.put, List.setIfInBounds_toArray, List.set_cons_succ, List.set_cons_zero]
  obtain ⟨b11, rfl, hle, hz⟩ := FS.of g9 rfl
  refine fin_store (x := fullV11) rfl rfl rfl (b := b11) (v := v8) rfl rfl hz (FS.of g8 rfl) (by decide) fun w10 hs => wpList_nil ?_
  have HE10 := Lib.hid (HE9.out.after hx hz hle hs (by decide))
  clear hx hz hle hs HE9 g0 g1 g2 g3 g4 g5 g6 g7 g8 g9
  go_upto_region 10 with fail
  refine wp_region_typed' (l1 := [_, _, _, _, _, _, _, _, _, _, _, _, _, _, _, _, _, _, _, _, _, _, _, _, _, _, _, _, _, _, _, _, _, _, _, _, _, _, _, _, _, _, _, _, _, _, _]) (l2 := [_]) [78, 79, 80, 81, 82, 83, 84, 85, 86, 87, 88, 89, 90, 91, 92, 93, 94, 95, 96, 97, 98, 99, 100, 101, 102, 103, 104, 105, 106, 107, 108, 109, 110, 111, 112, 113, 114, 115, 116, 117, 118, 119, 120, 121, 122, 123, 124] (fun u => Below w10.heap.size w10 u) (FS [.node fullV3, .kids [fullV3], .node (.mk 10 { data := #[118] } 0 0 [fullV3]), .node fullV3, .node fullV7, .kids [fullV3, fullV7], .node (.mk 10 { data := #[119] } 0 0 [fullV3, fullV7]), .node fullV1, .node fullV8, .kids [fullV1, fullV8], .node (.mk 11 { data := #[] } 1 0 [fullV1, fullV8]), .node fullV1, .node fullV1, .node fullV4, .kids [fullV1, fullV1, fullV4], .node (.mk 11 { data := #[] } 2 0 [fullV1, fullV1, fullV4]), .node fullV6, .node fullV2, .kids [fullV6, fullV2], .node (.mk 12 { data := #[] } 1 0 [fullV6, fullV2]), .node fullV1, .node fullV6, .node fullV2, .node fullV5, .kids [fullV1, fullV6, fullV2, fullV5], .node (.mk 12 { data := #[] } 2 0 [fullV1, fullV6, fullV2, fullV5]), .node fullV1, .node fullV1, .node fullV4, .kids [fullV1, fullV1, fullV4], .node (.mk 12 { data := #[] } 2 0 [fullV1, fullV1, fullV4]), .node fullV11, .node fullV10, .node (.mk 9 { data := #[] } 0 0 []), .kids [(.mk 9 { data := #[] } 0 0 [])], .node (.mk 14 { data := #[] } 0 0 [(.mk 9 { data := #[] } 0 0 [])]), .node fullV9, .node fullV2, .node fullV1, .kids [fullV2, fullV1], .node (.mk 17 { data := #[] } 0 0 [fullV2, fullV1]), .node fullV4, .kids [fullV4], .node (.mk 20 { data := #[] } 0 0 [fullV4]), .node (.mk 9 { data := #[] } 0 0 []), .kids [(.mk 10 { data := #[118] } 0 0 [fullV3]), (.mk 10 { data := #[119] } 0 0 [fullV3, fullV7]), (.mk 11 { data := #[] } 1 0 [fullV1, fullV8]), (.mk 11 { data := #[] } 2 0 [fullV1, fullV1, fullV4]), (.mk 12 { data := #[] } 1 0 [fullV6, fullV2]), (.mk 12 { data := #[] } 2 0 [fullV1, fullV6, fullV2, fullV5]), (.mk 12 { data := #[] } 2 0 [fullV1, fullV1, fullV4]), fullV11, fullV10, (.mk 14 { data := #[] } 0 0 [(.mk 9 { data := #[] } 0 0 [])]), fullV9, (.mk 17 { data := #[] } 0 0 [fullV2, fullV1]), (.mk 20 { data := #[] } 0 0 [fullV4]), (.mk 9 { data := #[] } 0 0 [])], .node (.mk 9 { data := #[] } 0 0 [(.mk 10 { data := #[118] } 0 0 [fullV3]), (.mk 10 { data := #[119] } 0 0 [fullV3, fullV7]), (.mk 11 { data := #[] } 1 0 [fullV1, fullV8]), (.mk 11 { data := #[] } 2 0 [fullV1, fullV1, fullV4]), (.mk 12 { data := #[] } 1 0 [fullV6, fullV2]), (.mk 12 { data := #[] } 2 0 [fullV1, fullV6, fullV2, fullV5]), (.mk 12 { data := #[] } 2 0 [fullV1, fullV1, fullV4]), fullV11, fullV10, (.mk 14 { data := #[] } 0 0 [(.mk 9 { data := #[] } 0 0 [])]), fullV9, (.mk 17 { data := #[] } 0 0 [fullV2, fullV1]), (.mk 20 { data := #[] } 0 0 [fullV4]), (.mk 9 { data := #[] } 0 0 [])])] w10) (by kernel_rfl) (by kernel_rfl) (by kernel_rfl) FS.below ((Below.refl _ _).drew) ⟨?_, ?_, ?_, ?_, ?_, ?_, ?_, ?_, ?_, ?_, ?_, ?_, ?_, ?_, ?_, ?_, ?_, ?_, ?_, ?_, ?_, ?_, ?_, ?_, ?_, ?_, ?_, ?_, ?_, ?_, ?_, ?_, ?_, ?_, ?_, ?_, ?_, ?_, ?_, ?_, ?_, ?_, ?_, ?_, ?_, ?_, ?_, trivial⟩ ?_
  · exact st_load rfl rfl rfl (b := b3) rfl (HE10.out.get (by simp))
  · exact st_build1 (j0 := 0) rfl rfl (by decide) rfl rfl
  · exact st_of (k := 10) (t := { data := #[118] }) rfl (X := (.tmp 79)) (.tmp (j := 1) (by decide) rfl rfl) rfl (by decide)
  · exact st_load rfl rfl rfl (b := b3) rfl (HE10.out.get (by simp))
  · exact st_load rfl rfl rfl (b := b7) rfl (HE10.out.get (by simp))
  · exact st_build2 (j0 := 3) (j1 := 4) rfl rfl (by decide) rfl rfl (by decide) rfl rfl
  · exact st_of (k := 10) (t := { data := #[119] }) rfl (X := (.tmp 83)) (.tmp (j := 5) (by decide) rfl rfl) rfl (by decide)
  · exact st_load rfl rfl rfl (b := b1) rfl (HE10.out.get (by simp))
  · exact st_load rfl rfl rfl (b := b8) rfl (HE10.out.get (by simp))
  · exact st_build2 (j0 := 7) (j1 := 8) rfl rfl (by decide) rfl rfl (by decide) rfl rfl
  · exact st_num (k := 11) (n := 1) rfl (X := (.tmp 87)) (.tmp (j := 9) (by decide) rfl rfl) rfl
  · exact st_load rfl rfl rfl (b := b1) rfl (HE10.out.get (by simp))
  · exact st_load rfl rfl rfl (b := b1) rfl (HE10.out.get (by simp))
  · exact st_load rfl rfl rfl (b := b4) rfl (HE10.out.get (by simp))
  · exact st_build3 (j0 := 11) (j1 := 12) (j2 := 13) rfl rfl (by decide) rfl rfl (by decide) rfl rfl (by decide) rfl rfl
  · exact st_num (k := 11) (n := 2) rfl (X := (.tmp 92)) (.tmp (j := 14) (by decide) rfl rfl) rfl
  · exact st_load rfl rfl rfl (b := b6) rfl (HE10.out.get (by simp))
  · exact st_load rfl rfl rfl (b := b2) rfl (HE10.out.get (by simp))
  · exact st_build2 (j0 := 16) (j1 := 17) rfl rfl (by decide) rfl rfl (by decide) rfl rfl
  · exact st_num (k := 12) (n := 1) rfl (X := (.tmp 96)) (.tmp (j := 18) (by decide) rfl rfl) rfl
  · exact st_load rfl rfl rfl (b := b1) rfl (HE10.out.get (by simp))
  · exact st_load rfl rfl rfl (b := b6) rfl (HE10.out.get (by simp))
  · exact st_load rfl rfl rfl (b := b2) rfl (HE10.out.get (by simp))
  · exact st_load rfl rfl rfl (b := b5) rfl (HE10.out.get (by simp))
  · exact st_build4 (j0 := 20) (j1 := 21) (j2 := 22) (j3 := 23) rfl rfl (by decide) rfl rfl (by decide) rfl rfl (by decide) rfl rfl (by decide) rfl rfl
  · exact st_num (k := 12) (n := 2) rfl (X := (.tmp 102)) (.tmp (j := 24) (by decide) rfl rfl) rfl
  · exact st_load rfl rfl rfl (b := b1) rfl (HE10.out.get (by simp))
  · exact st_load rfl rfl rfl (b := b1) rfl (HE10.out.get (by simp))
  · exact st_load rfl rfl rfl (b := b4) rfl (HE10.out.get (by simp))
  · exact st_build3 (j0 := 26) (j1 := 27) (j2 := 28) rfl rfl (by decide) rfl rfl (by decide) rfl rfl (by decide) rfl rfl
  · exact st_num (k := 12) (n := 2) rfl (X := (.tmp 107)) (.tmp (j := 29) (by decide) rfl rfl) rfl
  · exact st_load rfl rfl rfl (b := b11) rfl (HE10.out.get (by simp))
  · exact st_load rfl rfl rfl (b := b10) rfl (HE10.out.get (by simp))
  · exact st_action rfl (X := (.const (.slice none 0 0))) .none rfl (by decide)
  · exact st_build1 (j0 := 33) rfl rfl (by decide) rfl rfl
  · exact st_of (k := 14) (t := { data := #[] }) rfl (X := (.tmp 112)) (.tmp (j := 34) (by decide) rfl rfl) rfl (by decide)
  · exact st_load rfl rfl rfl (b := b9) rfl (HE10.out.get (by simp))
  · exact st_load rfl rfl rfl (b := b2) rfl (HE10.out.get (by simp))
  · exact st_load rfl rfl rfl (b := b1) rfl (HE10.out.get (by simp))
  · exact st_build2 (j0 := 37) (j1 := 38) rfl rfl (by decide) rfl rfl (by decide) rfl rfl
  · exact st_of (k := 17) (t := { data := #[] }) rfl (X := (.tmp 117)) (.tmp (j := 39) (by decide) rfl rfl) rfl (by decide)
  · exact st_load rfl rfl rfl (b := b4) rfl (HE10.out.get (by simp))
  · exact st_build1 (j0 := 41) rfl rfl (by decide) rfl rfl
  · exact st_of (k := 20) (t := { data := #[] }) rfl (X := (.tmp 120)) (.tmp (j := 42) (by decide) rfl rfl) rfl (by decide)
  · exact st_action rfl (X := (.const (.slice none 0 0))) .none rfl (by decide)
  · exact st_build14 (j0 := 2) (j1 := 6) (j2 := 10) (j3 := 15) (j4 := 19) (j5 := 25) (j6 := 30) (j7 := 31) (j8 := 32) (j9 := 35) (j10 := 36) (j11 := 40) (j12 := 43) (j13 := 44) rfl rfl (by decide) rfl rfl (by decide) rfl rfl (by decide) rfl rfl (by decide) rfl rfl (by decide) rfl rfl (by decide) rfl rfl (by decide) rfl rfl (by decide) rfl rfl (by decide) rfl rfl (by decide) rfl rfl (by decide) rfl rfl (by decide) rfl rfl (by decide) rfl rfl (by decide) rfl rfl
  · exact st_action rfl (X := (.tmp 123)) (.tmp (j := 45) (by decide) rfl rfl) rfl (by decide)
  rintro a wx hx hdf hsz hfr hsl
  obtain ⟨vx, hvx, gx⟩ := hsl 46 124 rfl
  have h0 := (hfr 0 (by decide)).trans rfl
  refine fin_store (x := fullN) rfl rfl rfl (b := w.heap.size) (v := vx) (eval_tmp h0) (eval_tmp hvx) (HE10.out.zero.below hx) (FS.of gx rfl) (by decide) fun w' hs => wpList_nil ?_
  obtain ⟨p, c, hbx, hr⟩ := hs.box
  have hfin := (HE10.out.below hx).on.trans (hs.below _ (Nat.le_refl _))
  clear hs hx HE10 gx hvx hsl hfr
  have HBX := Lib.hid hbx; have HR := Lib.hid hr; have HF := Lib.hid hfin; have H0 := Lib.hid h0; have HD := Lib.hid hdf
  clear hbx hr hfin h0 hdf hsz
  go_wp2_with fail
  refine bodyPost_ret (res_node rfl HBX.out (by rw [H0.out]; rfl)) HD.out ⟨_, rfl, ⟨p, c, rfl, HR.out⟩, HF.out⟩
def fileV1 : Nd := (.mk 7 { data := #[105, 110, 116] } 0 0 [])
def fileV2 : Nd := (.mk 4 { data := #[102] } 0 0 [(.mk 5 { data := #[] } 0 0 [(.mk 3 { data := #[112] } 0 0 [fileV1]), (.mk 3 { data := #[113] } 0 0 [(.mk 8 { data := #[] } 0 0 [fileV1])])]), (.mk 6 { data := #[] } 0 0 [fileV1, fileV1]), fullN])
def fileN : Nd := (.mk 1 { data := #[109, 97, 105, 110] } 0 0 [(.mk 2 { data := #[84] } 0 0 [(.mk 3 { data := #[97] } 0 0 [fileV1])]), fileV2, (.mk 2 { data := #[69] } 0 0 []), (.mk 4 { data := #[103] } 0 0 [(.mk 5 { data := #[] } 0 0 []), (.mk 6 { data := #[] } 0 0 []), (.mk 9 { data := #[] } 0 0 [])])])
set_option maxRecDepth 100000 in
set_option maxHeartbeats 4000000 in
theorem file_any {w : World} :
    Calls Try.prog 25 #[] w fun e w' => ∃ u, e = .returned u ∧ IsNode w' u fileN ∧ Below w.heap.size w w' := by
  have HE1 := Lib.hid (Env.start w)
  unfold zeros at HE1
  go_enter Try.func25, Try.ntmps25
  go_upto_region 1 with fail
  generalize w.alloc (.cells #[.int .u8 0, .string { data := #[] }, .int .i64 0, .int .i64 0, .slice none 0 0] 25) = w1 at *
  refine wp_region_inrow (l1 := [_]) (l2 := [_, _]) [3] (fun u => Below w1.heap.size w1 u) (FS [.node (.mk 7 { data := #[105, 110, 116] } 0 0 [])] w1) (by kernel_rfl) (by kernel_rfl) FS.below (Below.refl _ _) ⟨?_, trivial⟩ ?_
  · exact st_of (k := 7) (t := { data := #[105, 110, 116] }) rfl (X := (.const (.slice none 0 0))) .none rfl (by decide)
  rintro wx hx v0 g0
  show wpList _ _ _ _ (putAll _ [(3, _)]) _
  simp only [putAll, Act.put, List.setIfInBounds_toArray, List.set_cons_succ, List.set_cons_zero]
  refine fin_alloc rfl rfl fun b1 wa1 hb1 ha1 hz1 hn1 => ?_
  simp only [putAll, Act.put, List.setIfInBounds_toArray, List.set_cons_succ, List.set_cons_zero]
  have hx1 := hx.trans (ha1.mono hx.size)
  have zz1 := hz1
  have hev := HE1.out.below hx1
  have hxs := hx.size
  have hv3 := (IsNode.below ha1 (FS.of g0 rfl))
  refine fin_store (x := fileV1) rfl rfl rfl (b := b1) (v := v0) rfl rfl zz1 hv3 (by decide) fun ws1 hs1 => ?_
  have he1 := hev.store zz1 hs1 (by have := HE1.out.on.size; omega) (by have := HE1.out.zero.lt; omega) (fun e he => by (have := (HE1.out.vars e he).1.lt; omega)) (x := fileV1) (by decide)
  refine wpList_nil ?_
  have HE2 := Lib.hid he1
  clear he1 zz1 hs1 ha1 hz1 hx1 hx hxs hev HE1 g0 hv3
  clear hb1 hn1
  go_upto_region 2 with fail
  generalize ws1 = w2 at *
  refine wp_region_typed (l1 := [_, _, _, _, _, _, _, _, _, _, _, _, _, _, _, _, _, _]) (l2 := [_]) [4, 5, 6, 7, 8, 9, 10, 11, 12, 13, 14, 15, 16, 17, 18, 19, 20, 2] (fun u => Below w2.heap.size w2 u) (FS [.node fileV1, .kids [fileV1], .node (.mk 3 { data := #[112] } 0 0 [fileV1]), .node fileV1, .kids [fileV1], .node (.mk 8 { data := #[] } 0 0 [fileV1]), .kids [(.mk 8 { data := #[] } 0 0 [fileV1])], .node (.mk 3 { data := #[113] } 0 0 [(.mk 8 { data := #[] } 0 0 [fileV1])]), .kids [(.mk 3 { data := #[112] } 0 0 [fileV1]), (.mk 3 { data := #[113] } 0 0 [(.mk 8 { data := #[] } 0 0 [fileV1])])], .node (.mk 5 { data := #[] } 0 0 [(.mk 3 { data := #[112] } 0 0 [fileV1]), (.mk 3 { data := #[113] } 0 0 [(.mk 8 { data := #[] } 0 0 [fileV1])])]), .node fileV1, .node fileV1, .kids [fileV1, fileV1], .node (.mk 6 { data := #[] } 0 0 [fileV1, fileV1]), .node fullN, .kids [(.mk 5 { data := #[] } 0 0 [(.mk 3 { data := #[112] } 0 0 [fileV1]), (.mk 3 { data := #[113] } 0 0 [(.mk 8 { data := #[] } 0 0 [fileV1])])]), (.mk 6 { data := #[] } 0 0 [fileV1, fileV1]), fullN], .node (.mk 4 { data := #[102] } 0 0 [(.mk 5 { data := #[] } 0 0 [(.mk 3 { data := #[112] } 0 0 [fileV1]), (.mk 3 { data := #[113] } 0 0 [(.mk 8 { data := #[] } 0 0 [fileV1])])]), (.mk 6 { data := #[] } 0 0 [fileV1, fileV1]), fullN]), .fresh] w2) (by kernel_rfl) (by kernel_rfl) (by kernel_rfl) FS.below ((Below.refl _ _).drew) ⟨?_, ?_, ?_, ?_, ?_, ?_, ?_, ?_, ?_, ?_, ?_, ?_, ?_, ?_, ?_, ?_, ?_, ?_, trivial⟩ ?_
  · exact st_load rfl rfl rfl (b := b1) rfl (HE2.out.get (by simp))
  · exact st_build1 (j0 := 0) rfl rfl (by decide) rfl rfl
  · exact st_of (k := 3) (t := { data := #[112] }) rfl (X := (.tmp 5)) (.tmp (j := 1) (by decide) rfl rfl) rfl (by decide)
  · exact st_load rfl rfl rfl (b := b1) rfl (HE2.out.get (by simp))
  · exact st_build1 (j0 := 3) rfl rfl (by decide) rfl rfl
  · exact st_of (k := 8) (t := { data := #[] }) rfl (X := (.tmp 8)) (.tmp (j := 4) (by decide) rfl rfl) rfl (by decide)
  · exact st_build1 (j0 := 5) rfl rfl (by decide) rfl rfl
  · exact st_of (k := 3) (t := { data := #[113] }) rfl (X := (.tmp 10)) (.tmp (j := 6) (by decide) rfl rfl) rfl (by decide)
  · exact st_build2 (j0 := 2) (j1 := 7) rfl rfl (by decide) rfl rfl (by decide) rfl rfl
  · exact st_of (k := 5) (t := { data := #[] }) rfl (X := (.tmp 12)) (.tmp (j := 8) (by decide) rfl rfl) rfl (by decide)
  · exact st_load rfl rfl rfl (b := b1) rfl (HE2.out.get (by simp))
  · exact st_load rfl rfl rfl (b := b1) rfl (HE2.out.get (by simp))
  · exact st_build2 (j0 := 10) (j1 := 11) rfl rfl (by decide) rfl rfl (by decide) rfl rfl
  · exact st_of (k := 6) (t := { data := #[] }) rfl (X := (.tmp 16)) (.tmp (j := 12) (by decide) rfl rfl) rfl (by decide)
  · exact st_call rfl (args := fun _ => #[]) (fun a w => by go_simp) fun a w _ _ _ => full_any
  · exact st_build3 (j0 := 9) (j1 := 13) (j2 := 14) rfl rfl (by decide) rfl rfl (by decide) rfl rfl (by decide) rfl rfl
  · exact st_of (k := 4) (t := { data := #[102] }) rfl (X := (.tmp 19)) (.tmp (j := 15) (by decide) rfl rfl) rfl (by decide)
  · exact st_alloc rfl rfl
  rintro wx hx v0 g0 v1 g1 v2 g2 v3 g3 v4 g4 v5 g5 v6 g6 v7 g7 v8 g8 v9 g9 v10 g10 v11 g11 v12 g12 v13 g13 v14 g14 v15 g15 v16 g16 v17 g17
  show wpList _ _ _ _ (putAll _ [(4, _), (5, _), (6, _), (7, _), (8, _), (9, _), (10, _), (11, _), (12, _), (13, _), (14, _), (15, _), (16, _), (17, _), (18, _), (19, _), (20, _), (2, _)]) _
  simp only [putAll, Act.put, List.setIfInBounds_toArray, List.set_cons_succ, List.set_cons_zero]
  obtain ⟨b2, rfl, hle, hz⟩ := FS.of g17 rfl
  refine fin_store (x := fileV2) rfl rfl rfl (b := b2) (v := v16) rfl rfl hz (FS.of g16 rfl) (by decide) fun w3 hs => wpList_nil ?_
  have HE3 := Lib.hid (HE2.out.after hx hz hle hs (by decide))
  clear hx hz hle hs HE2 g0 g1 g2 g3 g4 g5 g6 g7 g8 g9 g10 g11 g12 g13 g14 g15 g16 g17
  go_upto_region 3 with fail
  refine wp_region_typed' (l1 := [_, _, _, _, _, _, _, _, _, _, _, _, _, _]) (l2 := [_]) [21, 22, 23, 24, 25, 26, 27, 28, 29, 30, 31, 32, 33, 34] (fun u => Below w3.heap.size w3 u) (FS [.node fileV1, .kids [fileV1], .node (.mk 3 { data := #[97] } 0 0 [fileV1]), .kids [(.mk 3 { data := #[97] } 0 0 [fileV1])], .node (.mk 2 { data := #[84] } 0 0 [(.mk 3 { data := #[97] } 0 0 [fileV1])]), .node fileV2, .node (.mk 2 { data := #[69] } 0 0 []), .node (.mk 5 { data := #[] } 0 0 []), .node (.mk 6 { data := #[] } 0 0 []), .node (.mk 9 { data := #[] } 0 0 []), .kids [(.mk 5 { data := #[] } 0 0 []), (.mk 6 { data := #[] } 0 0 []), (.mk 9 { data := #[] } 0 0 [])], .node (.mk 4 { data := #[103] } 0 0 [(.mk 5 { data := #[] } 0 0 []), (.mk 6 { data := #[] } 0 0 []), (.mk 9 { data := #[] } 0 0 [])]), .kids [(.mk 2 { data := #[84] } 0 0 [(.mk 3 { data := #[97] } 0 0 [fileV1])]), fileV2, (.mk 2 { data := #[69] } 0 0 []), (.mk 4 { data := #[103] } 0 0 [(.mk 5 { data := #[] } 0 0 []), (.mk 6 { data := #[] } 0 0 []), (.mk 9 { data := #[] } 0 0 [])])], .node (.mk 1 { data := #[109, 97, 105, 110] } 0 0 [(.mk 2 { data := #[84] } 0 0 [(.mk 3 { data := #[97] } 0 0 [fileV1])]), fileV2, (.mk 2 { data := #[69] } 0 0 []), (.mk 4 { data := #[103] } 0 0 [(.mk 5 { data := #[] } 0 0 []), (.mk 6 { data := #[] } 0 0 []), (.mk 9 { data := #[] } 0 0 [])])])] w3) (by kernel_rfl) (by kernel_rfl) (by kernel_rfl) FS.below ((Below.refl _ _).drew) ⟨?_, ?_, ?_, ?_, ?_, ?_, ?_, ?_, ?_, ?_, ?_, ?_, ?_, ?_, trivial⟩ ?_
  · exact st_load rfl rfl rfl (b := b1) rfl (HE3.out.get (by simp))
  · exact st_build1 (j0 := 0) rfl rfl (by decide) rfl rfl
  · exact st_of (k := 3) (t := { data := #[97] }) rfl (X := (.tmp 22)) (.tmp (j := 1) (by decide) rfl rfl) rfl (by decide)
  · exact st_build1 (j0 := 2) rfl rfl (by decide) rfl rfl
  · exact st_of (k := 2) (t := { data := #[84] }) rfl (X := (.tmp 24)) (.tmp (j := 3) (by decide) rfl rfl) rfl (by decide)
  · exact st_load rfl rfl rfl (b := b2) rfl (HE3.out.get (by simp))
  · exact st_of (k := 2) (t := { data := #[69] }) rfl (X := (.const (.slice none 0 0))) .none rfl (by decide)
  · exact st_of (k := 5) (t := { data := #[] }) rfl (X := (.const (.slice none 0 0))) .none rfl (by decide)
  · exact st_of (k := 6) (t := { data := #[] }) rfl (X := (.const (.slice none 0 0))) .none rfl (by decide)
  · exact st_action rfl (X := (.const (.slice none 0 0))) .none rfl (by decide)
  · exact st_build3 (j0 := 7) (j1 := 8) (j2 := 9) rfl rfl (by decide) rfl rfl (by decide) rfl rfl (by decide) rfl rfl
  · exact st_of (k := 4) (t := { data := #[103] }) rfl (X := (.tmp 31)) (.tmp (j := 10) (by decide) rfl rfl) rfl (by decide)
  · exact st_build4 (j0 := 4) (j1 := 5) (j2 := 6) (j3 := 11) rfl rfl (by decide) rfl rfl (by decide) rfl rfl (by decide) rfl rfl (by decide) rfl rfl
  · exact st_of (k := 1) (t := { data := #[109, 97, 105, 110] }) rfl (X := (.tmp 33)) (.tmp (j := 12) (by decide) rfl rfl) rfl (by decide)
  rintro a wx hx hdf hsz hfr hsl
  obtain ⟨vx, hvx, gx⟩ := hsl 13 34 rfl
  have h0 := (hfr 0 (by decide)).trans rfl
  refine fin_store (x := fileN) rfl rfl rfl (b := w.heap.size) (v := vx) (eval_tmp h0) (eval_tmp hvx) (HE3.out.zero.below hx) (FS.of gx rfl) (by decide) fun w' hs => wpList_nil ?_
  obtain ⟨p, c, hbx, hr⟩ := hs.box
  have hfin := (HE3.out.below hx).on.trans (hs.below _ (Nat.le_refl _))
  clear hs hx HE3 gx hvx hsl hfr
  have HBX := Lib.hid hbx; have HR := Lib.hid hr; have HF := Lib.hid hfin; have H0 := Lib.hid h0; have HD := Lib.hid hdf
  clear hbx hr hfin h0 hdf hsz
  go_wp2_with fail
  refine bodyPost_ret (res_node rfl HBX.out (by rw [H0.out]; rfl)) HD.out ⟨_, rfl, ⟨p, c, rfl, HR.out⟩, HF.out⟩
end Go.Proofs.Ytkjpdhnibfhaaaa.NodeW
