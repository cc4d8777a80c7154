/- The document's Same. -/
import Derived.Test.YtkjpdhnibfhaaaaKitB
namespace Go.Proofs.Ytkjpdhnibfhaaaa.KitF
open Go Go.RowKit Go.Proofs.Ytkjpdhnibfhaaaa.Nodey Go.Proofs.Ytkjpdhnibfhaaaa.NodeA Go.Proofs.Ytkjpdhnibfhaaaa.NodeB Go.Proofs.Ytkjpdhnibfhaaaa.NodeF Go.Proofs.Ytkjpdhnibfhaaaa.NodeI Go.Proofs.Ytkjpdhnibfhaaaa.NodeK Go.Proofs.Ytkjpdhnibfhaaaa.NodeS Go.Proofs.Ytkjpdhnibfhaaaa.NodeT Go.Proofs.Ytkjpdhnibfhaaaa.NodeU Go.Proofs.Ytkjpdhnibfhaaaa.Cut
def RefOK (x : Nd) : Prop := ∀ (y : Nd) (p : Option Addr) (c : Nat) (p2 : Option Addr) (c2 : Nat) (w : World), Ready w p c x → Ready w p2 c2 y → Calls Try.prog 14 #[.agg (nodeC x p c), .agg (nodeC y p2 c2)] w fun e w' => e = .returned (.bool (sameN x y)) ∧ Below w.heap.size w w'
set_option maxRecDepth 100000 in
set_option maxHeartbeats 4000000 in
theorem ref_step {k : Nat} {t : ByteArray} {n a : Int} {l : List Nd} (ih : ∀ y ∈ l, RefOK y) : RefOK (.mk k t n a l) := by
  intro y p c p2 c2 w hr hr2
  obtain ⟨k', t', n', a', l'⟩ := y
  have HS := Lib.hid (show sameN (.mk k t n a l) (.mk k' t' n' a' l') = (k == k' && t.data.toList == t'.data.toList && n == n' && sameL l l') by simp only [sameN])
  show Calls Try.prog 14 #[.agg #[.int .u8 (k : Int), .string t, .int .i64 n, .int .i64 a, .slice p l.length c], .agg #[.int .u8 (k' : Int), .string t', .int .i64 n', .int .i64 a', .slice p2 l'.length c2]] w _
  have HB := Lib.hid (((Below.refl w.heap.size w).alloc (Nat.le_refl _) (.cells #[.int .u8 (k : Int), .string t, .int .i64 n, .int .i64 a, .slice p l.length c] 25)).alloc (by simp) (.cells #[.int .u8 (k' : Int), .string t', .int .i64 n', .int .i64 a', .slice p2 l'.length c2] 25))
  have HK1 := Lib.hid (show KidsV w p l from hr.kids); have HK2 := Lib.hid (show KidsV w p2 l' from hr2.kids)
  have HIH := Lib.hid ih
  have HLN := Lib.hid (fun (h : l.length ≠ l'.length) => sameL_len h)
  have hl : l.length ≤ 1000000 := hr.len
  have hl2 : l'.length ≤ 1000000 := hr2.len
  have HKK := Lib.hid (show ((k : Int) == (k' : Int)) = (k == k') by rw [Bool.eq_iff_iff]; simp; omega)
  have HKM := Lib.hid (show ((k : Int) != (k' : Int)) = !(k == k') by rw [bne, HKK.out])
  have HTT := Lib.hid (show (t.toList == t'.toList) = (t.data.toList == t'.data.toList) by rw [ByteArray.toList_eq, ByteArray.toList_eq])
  have HTM := Lib.hid (show (t.toList != t'.toList) = !(t.data.toList == t'.data.toList) by rw [bne, HTT.out])
  generalize sameN (.mk k t n a l) (.mk k' t' n' a' l') = res at *
  generalize (k == k') = bk at *
  generalize (t.data.toList == t'.data.toList) = bt at *
  have HNM := Lib.hid (show (n != n') = !(n == n') from rfl)
  generalize hbn : (n == n') = bn at *
  have HBN := Lib.hid hbn; clear hbn
  generalize hnk : l.length = nk at *
  generalize hnk2 : l'.length = nk' at *
  have HNK := Lib.hid hnk; have HNK2 := Lib.hid hnk2; clear hnk hnk2
  clear hr hr2 ih
  have HA := Lib.hid ((Box5.new (w := w) (v0 := .int .u8 (k : Int)) (v1 := .string t) (v2 := .int .i64 n) (v3 := .int .i64 a) (v4 := .slice p nk c) (T := 25)).below ((Below.refl _ _).alloc (Nat.le_refl _) (.cells #[.int .u8 (k' : Int), .string t', .int .i64 n', .int .i64 a', .slice p2 nk' c2] 25)))
  have HA2 := Lib.hid (Box5.new (w := w.alloc (.cells #[.int .u8 (k : Int), .string t, .int .i64 n, .int .i64 a, .slice p nk c] 25)) (v0 := .int .u8 (k' : Int)) (v1 := .string t') (v2 := .int .i64 n') (v3 := .int .i64 a') (v4 := .slice p2 nk' c2) (T := 25))
  rw [show (w.alloc (.cells #[.int .u8 (k : Int), .string t, .int .i64 n, .int .i64 a, .slice p nk c] 25)).heap.size = w.heap.size + 1 by simp] at HA2
  cases bk
  · go_enter Try.func14, Try.ntmps14
    go_upto_region 1 with fail
    generalize ((w.alloc (.cells #[.int .u8 (k : Int), .string t, .int .i64 n, .int .i64 a, .slice p nk c] 25)).alloc (.cells #[.int .u8 (k' : Int), .string t', .int .i64 n', .int .i64 a', .slice p2 nk' c2] 25)) = W at *
    obtain ⟨a0, a1, a2, a3, a4⟩ := HA.out
    obtain ⟨b0, b1, b2, b3, b4⟩ := HA2.out
    have hkk := HKK.out
    have hkm := HKM.out
    go_wp2
    go_ret
    exact ⟨by rw [HS.out]; simp, HB.out⟩
  cases bt
  · go_enter Try.func14, Try.ntmps14
    go_upto_region 1 with fail
    generalize ((w.alloc (.cells #[.int .u8 (k : Int), .string t, .int .i64 n, .int .i64 a, .slice p nk c] 25)).alloc (.cells #[.int .u8 (k' : Int), .string t', .int .i64 n', .int .i64 a', .slice p2 nk' c2] 25)) = W at *
    obtain ⟨a0, a1, a2, a3, a4⟩ := HA.out
    obtain ⟨b0, b1, b2, b3, b4⟩ := HA2.out
    have hkk := HKK.out
    have hkm := HKM.out
    have htt := HTT.out
    have htm := HTM.out
    go_wp2
    go_ret
    exact ⟨by rw [HS.out]; simp, HB.out⟩
  cases bn
  · go_enter Try.func14, Try.ntmps14
    go_upto_region 1 with fail
    generalize ((w.alloc (.cells #[.int .u8 (k : Int), .string t, .int .i64 n, .int .i64 a, .slice p nk c] 25)).alloc (.cells #[.int .u8 (k' : Int), .string t', .int .i64 n', .int .i64 a', .slice p2 nk' c2] 25)) = W at *
    obtain ⟨a0, a1, a2, a3, a4⟩ := HA.out
    obtain ⟨b0, b1, b2, b3, b4⟩ := HA2.out
    have hkk := HKK.out
    have hkm := HKM.out
    have htt := HTT.out
    have htm := HTM.out
    have hbn := HBN.out
    have hnm := HNM.out
    go_wp2
    go_ret
    exact ⟨by rw [HS.out]; simp, HB.out⟩
  by_cases he : nk = nk'
  case neg =>
    have he2 : ((nk : Int) != (nk' : Int)) = true := by simp; omega
    have he3 : ((nk : Int) == (nk' : Int)) = false := by simp; omega
    have HSL := Lib.hid (HLN.out he)
    clear HLN
    go_enter Try.func14, Try.ntmps14
    go_upto_region 1 with fail
    generalize ((w.alloc (.cells #[.int .u8 (k : Int), .string t, .int .i64 n, .int .i64 a, .slice p nk c] 25)).alloc (.cells #[.int .u8 (k' : Int), .string t', .int .i64 n', .int .i64 a', .slice p2 nk' c2] 25)) = W at *
    obtain ⟨a0, a1, a2, a3, a4⟩ := HA.out
    obtain ⟨b0, b1, b2, b3, b4⟩ := HA2.out
    have hkk := HKK.out
    have hkm := HKM.out
    have htt := HTT.out
    have htm := HTM.out
    have hbn := HBN.out
    have hnm := HNM.out
    go_wp2
    go_ret
    exact ⟨by rw [HS.out, HSL.out]; simp, HB.out⟩
  subst he
  go_enter Try.func14, Try.ntmps14
  go_upto_region 1 with fail
  generalize ((w.alloc (.cells #[.int .u8 (k : Int), .string t, .int .i64 n, .int .i64 a, .slice p nk c] 25)).alloc (.cells #[.int .u8 (k' : Int), .string t', .int .i64 n', .int .i64 a', .slice p2 nk c2] 25)) = W at *
  obtain ⟨a0, a1, a2, a3, a4⟩ := HA.out
  obtain ⟨b0, b1, b2, b3, b4⟩ := HA2.out
  have hkk := HKK.out
  have hkm := HKM.out
  have htt := HTT.out
  have htm := HTM.out
  have hbn := HBN.out
  have hnm := HNM.out
  go_wp2_with fail
  go_loopg [5] nk (fun gk i wr => ∃ q : Nat, q ≤ nk ∧ gk = nk - q ∧ i = .int .i64 (q : Int) ∧ sameL l l' = sameL (l.drop q) (l'.drop q) ∧ Below W.heap.size W wr)
  case atStart => exact ⟨0, by omega, by omega, rfl, by simp, Below.refl _ _⟩
  case round =>
    obtain ⟨q, hq, rfl, rfl, hab, hbw⟩ := hrel
    have HAB := Lib.hid hab; have HBV := Lib.hid hbw; have HBW := Lib.hid (HB.out.trans (hbw.mono HB.out.size)); clear hab hbw
    have x4 := cell_on HBV.out a4; have z4' := cell_on HBV.out b4
    by_cases hlt : q < nk
    · have hql : q < l.length := by have := HNK.out; omega
      have hql2 : q < l'.length := by have := HNK2.out; omega
      obtain ⟨g, o, p', c', hp, hkr, d0, d1, d2, d3, d4⟩ := kids_kid HK1.out q hql
      obtain ⟨g2, o2, p2', c2', hp2, hkr2, f0, f1, f2, f3, f4⟩ := kids_kid HK2.out q hql2
      subst hp hp2
      have hmem : l[q]'hql ∈ l := List.getElem_mem hql
      have HST := Lib.hid (sameL_drop q hql hql2)
      have hy := fun u hu hu2 => HIH.out _ hmem (l'[q]'hql2) p' c' p2' c2' u hu hu2
      clear hmem
      generalize l[q]'hql = y at *
      generalize l'[q]'hql2 = z at *
      have HKR := Lib.hid hkr; have HKR2 := Lib.hid hkr2; clear hkr hkr2
      unfold nodeC at hy
      generalize y.kids.length = yn at *
      generalize z.kids.length = zn at *
      generalize hsm : sameN y z = sm at *
      generalize y.kind = y0 at *
      generalize y.text = y1 at *
      generalize y.num = y2 at *
      generalize y.at_ = y3 at *
      generalize z.kind = z0 at *
      generalize z.text = z1 at *
      generalize z.num = z2 at *
      generalize z.at_ = z3 at *
      have HY := Lib.hid hy; clear hy hsm
      have j0 : (0 : Int) ≤ (q : Int) := by omega
      have j1 : (q : Int) < (nk : Int) := by omega
      have m0 := cell_on HBW.out d0; have m1 := cell_on HBW.out d1; have m2 := cell_on HBW.out d2; have m3 := cell_on HBW.out d3; have m4 := cell_on HBW.out d4
      have n0 := cell_on HBW.out f0; have n1 := cell_on HBW.out f1; have n2 := cell_on HBW.out f2; have n3 := cell_on HBW.out f3; have n4 := cell_on HBW.out f4
      clear d0 d1 d2 d3 d4 f0 f1 f2 f3 f4
      go_wp2_with fail
      refine wp_region_mixI (l1 := [_, _, _, _, _, _, _, _, _, _, _]) (l2 := [_]) [(0, true), (1, true), (2, true), (3, true), (4, true), (5, true), (6, true), (7, true), (8, true), (9, true), (10, false)] (fun u => Below wr.heap.size wr u) (by kernel_rfl) (by kernel_rfl) (by repeat (first | refine loose_then ?_ | refine loose_block ?_ | exact loose_body (P := Try.prog) (fn := Try.f14))) ((Below.refl _ wr).drew) ?_
      refine mixI_take (.pointer (some ⟨w.heap.size, 4, none⟩)) rfl rfl (fun u hu => by go_simp) ?_
      refine mixI_take (.slice (some ⟨g, o, none⟩) nk c) rfl rfl (fun u hu => by have e0 := cell_on hu x4; go_simp) ?_
      refine mixI_take (.int .i64 (q : Int)) rfl rfl (fun u hu => by go_simp) ?_
      refine mixI_take (.pointer (some ⟨g, o + q * 5, none⟩)) rfl rfl (fun u hu => by go_simp) ?_
      refine mixI_take (.agg #[.int .u8 (y0 : Int), .string y1, .int .i64 y2, .int .i64 y3, .slice p' yn c']) rfl rfl (fun u hu => by have e0 := cell_on hu m0; have e1 := cell_on hu m1; have e2 := cell_on hu m2; have e3 := cell_on hu m3; have e4 := cell_on hu m4; go_simp) ?_
      refine mixI_take (.pointer (some ⟨w.heap.size + 1, 4, none⟩)) rfl rfl (fun u hu => by go_simp) ?_
      refine mixI_take (.slice (some ⟨g2, o2, none⟩) nk c2) rfl rfl (fun u hu => by have e0 := cell_on hu z4'; go_simp) ?_
      refine mixI_take (.int .i64 (q : Int)) rfl rfl (fun u hu => by go_simp) ?_
      refine mixI_take (.pointer (some ⟨g2, o2 + q * 5, none⟩)) rfl rfl (fun u hu => by go_simp) ?_
      refine mixI_take (.agg #[.int .u8 (z0 : Int), .string z1, .int .i64 z2, .int .i64 z3, .slice p2' zn c2']) rfl rfl (fun u hu => by have e0 := cell_on hu n0; have e1 := cell_on hu n1; have e2 := cell_on hu n2; have e3 := cell_on hu n3; have e4 := cell_on hu n4; go_simp) ?_
      have HBD := Lib.hid (HBW.out.drew)
      have HVD := Lib.hid (HBV.out.drew)
      clear m0 m1 m2 m3 m4 n0 n1 n2 n3 n4
      refine mixI_go rfl rfl fun K hK => wp_go (f := 14) (args := #[.agg #[.int .u8 (y0 : Int), .string y1, .int .i64 y2, .int .i64 y3, .slice p' yn c'], .agg #[.int .u8 (z0 : Int), .string z1, .int .i64 z2, .int .i64 z3, .slice p2' zn c2']]) (by go_simp) ((HY.out _ (HKR.out.below HBD.out) (HKR2.out.below HBD.out)).mono ?_)
      rintro e w2 ⟨rfl, hb⟩
      have HB2 := Lib.hid (HBD.out.trans (hb.mono HBD.out.size))
      have HV2 := Lib.hid (HVD.out.trans (hb.mono HVD.out.size))
      refine hK.out _ _ (((Below.refl _ wr).drew).trans (hb.mono (by simp))) ?_
      clear hK hb
      show wpList _ _ _ _ _ _
      cases sm
      all_goals
        go_wp2
      · go_ret
        exact ⟨by rw [HS.out, HAB.out, HST.out]; rfl, HB2.out⟩
      · go_roundg (nk - (q + 1))
        case measure => omega
        case rel => exact ⟨q + 1, by omega, rfl, by go_num, by rw [HAB.out, HST.out]; rfl, HV2.out⟩
    · obtain rfl : q = nk := by omega
      go_wp2
      go_ret
      exact ⟨by rw [HS.out, HAB.out, List.drop_eq_nil_of_le (by have := HNK.out; omega), List.drop_eq_nil_of_le (by have := HNK2.out; omega)]; rfl, HBW.out⟩
theorem ref_any : ∀ x : Nd, RefOK x
  | .mk k t n a l => ref_step fun y _hy => ref_any y
  termination_by x => SizeOf.sizeOf x
  decreasing_by have := List.sizeOf_lt_of_mem _hy; simp; omega
end Go.Proofs.Ytkjpdhnibfhaaaa.KitF
