/- gristmillkit.SameNode, the document's Same, walked. -/
import Derived.Test.YtkjpdhnibfhaaaaNodeU
import Derived.Deep.Cut
namespace Go.Proofs.Ytkjpdhnibfhaaaa.KitB
open Go Go.RowKit Go.Proofs.Ytkjpdhnibfhaaaa.Nodey Go.Proofs.Ytkjpdhnibfhaaaa.NodeA Go.Proofs.Ytkjpdhnibfhaaaa.NodeB Go.Proofs.Ytkjpdhnibfhaaaa.NodeF Go.Proofs.Ytkjpdhnibfhaaaa.NodeI Go.Proofs.Ytkjpdhnibfhaaaa.NodeK Go.Proofs.Ytkjpdhnibfhaaaa.NodeS Go.Proofs.Ytkjpdhnibfhaaaa.NodeT Go.Proofs.Ytkjpdhnibfhaaaa.NodeU Go.Proofs.Ytkjpdhnibfhaaaa.Cut

mutual
def allN : Nd → Nd → Bool
  | .mk k t n a l, .mk k' t' n' a' l' => k == k' && t.data.toList == t'.data.toList && n == n' && a == a' && allL l l'
def allL : List Nd → List Nd → Bool
  | [], [] => true
  | x :: l, y :: l' => allN x y && allL l l'
  | _, _ => false
end
theorem allL_drop {l l2 : List Nd} (q : Nat) (h1 : q < l.length) (h2 : q < l2.length) : allL (l.drop q) (l2.drop q) = (allN (l[q]'h1) (l2[q]'h2) && allL (l.drop (q + 1)) (l2.drop (q + 1))) := by
  rw [List.drop_eq_getElem_cons h1, List.drop_eq_getElem_cons h2, allL]
theorem allL_len : ∀ {l l2 : List Nd}, l.length ≠ l2.length → allL l l2 = false
  | [], [], h => absurd rfl h
  | [], _ :: _, _ => rfl
  | _ :: _, [], _ => rfl
  | x :: l, y :: l2, h => by rw [allL, allL_len (l := l) (l2 := l2) (by simpa using h)]; simp
def AllOK (x : Nd) : Prop := ∀ (y : Nd) (p : Option Addr) (c : Nat) (p2 : Option Addr) (c2 : Nat) (w : World), Ready w p c x → Ready w p2 c2 y → Calls Try.prog 20 #[.agg (nodeC x p c), .agg (nodeC y p2 c2)] w fun e w' => e = .returned (.bool (allN x y)) ∧ Below w.heap.size w w'
set_option maxRecDepth 100000 in
set_option maxHeartbeats 4000000 in
theorem nodes_all {l l2 : List Nd} {p p2 : Option Addr} {c c2 : Nat} {w : World} (ih : ∀ y ∈ l, AllOK y) (h1 : KidsV w p l) (h2 : KidsV w p2 l2) (hl : l.length ≤ 1000000) :
    Calls Try.prog 30 #[.slice p l.length c, .slice p2 l2.length c2] w fun e w' => e = .returned (.bool (allL l l2)) ∧ Below w.heap.size w w' := by
  by_cases he : l.length = l2.length
  · have HE := Lib.hid he
    have H1 := Lib.hid h1; have H2 := Lib.hid h2; have HIH := Lib.hid ih; clear h1 h2 ih
    rw [← he]
    generalize hnk : l.length = nk at *
    have HNK := Lib.hid hnk; clear hnk he
    go_enter Try.func30, Try.ntmps30
    go_wp2_with fail
    go_loopg [5] nk (fun gk i wr => ∃ q : Nat, q ≤ nk ∧ gk = nk - q ∧ i = .int .i64 (q : Int) ∧ allL l l2 = allL (l.drop q) (l2.drop q) ∧ Below w.heap.size w wr)
    case atStart => exact ⟨0, by omega, by omega, rfl, by simp, Below.refl _ _⟩
    case round =>
      obtain ⟨q, hq, rfl, rfl, hab, hbw⟩ := hrel
      have HAB := Lib.hid hab; have HBW := Lib.hid hbw; clear hab hbw
      by_cases hlt : q < nk
      · have hql : q < l.length := by have := HNK.out; omega
        have hql2 : q < l2.length := by have := HNK.out; have := HE.out; omega
        obtain ⟨g, o, p', c', hp, hkr, d0, d1, d2, d3, d4⟩ := kids_kid H1.out q hql
        obtain ⟨g2, o2, p2', c2', hp2, hkr2, f0, f1, f2, f3, f4⟩ := kids_kid H2.out q hql2
        subst hp hp2
        have hmem : l[q]'hql ∈ l := List.getElem_mem hql
        have HST := Lib.hid (allL_drop q hql hql2)
        have hy := fun u hu hu2 => HIH.out _ hmem (l2[q]'hql2) p' c' p2' c2' u hu hu2
        clear hmem
        generalize l[q]'hql = y at *
        generalize l2[q]'hql2 = z at *
        have HKR := Lib.hid hkr; have HKR2 := Lib.hid hkr2; clear hkr hkr2
        unfold nodeC at hy
        generalize y.kids.length = yn at *
        generalize z.kids.length = zn at *
        generalize hsm : allN y z = sm at *
        generalize y.kind = y0 at *
        generalize y.text = y1 at *
        generalize y.num = y2 at *
        generalize y.at_ = y3 at *
        generalize z.kind = z0 at *
        generalize z.text = z1 at *
        generalize z.num = z2 at *
        generalize z.at_ = z3 at *
        have HY := Lib.hid hy; clear hy hsm
        have j0 : (0 : Int) ≤ (q : Int) := by omega
        have j1 : (q : Int) < (nk : Int) := by omega
        have m0 := cell_on HBW.out d0; have m1 := cell_on HBW.out d1; have m2 := cell_on HBW.out d2; have m3 := cell_on HBW.out d3; have m4 := cell_on HBW.out d4
        have n0 := cell_on HBW.out f0; have n1 := cell_on HBW.out f1; have n2 := cell_on HBW.out f2; have n3 := cell_on HBW.out f3; have n4 := cell_on HBW.out f4
        clear d0 d1 d2 d3 d4 f0 f1 f2 f3 f4
        go_wp2_with fail
        refine wp_region_mixI (l1 := [_, _, _, _, _, _, _, _, _]) (l2 := [_]) [(0, true), (1, true), (2, true), (3, true), (4, true), (5, true), (6, true), (7, true), (8, false)] (fun u => Below wr.heap.size wr u) (by kernel_rfl) (by kernel_rfl) (by repeat (first | refine loose_then ?_ | refine loose_block ?_ | exact loose_body (P := Try.prog) (fn := Try.f30))) ((Below.refl _ wr).drew) ?_
        refine mixI_take (.slice (some ⟨g, o, none⟩) nk c) rfl rfl (fun u hu => by go_simp) ?_
        refine mixI_take (.int .i64 (q : Int)) rfl rfl (fun u hu => by go_simp) ?_
        refine mixI_take (.pointer (some ⟨g, o + q * 5, none⟩)) rfl rfl (fun u hu => by go_simp) ?_
        refine mixI_take (.agg #[.int .u8 (y0 : Int), .string y1, .int .i64 y2, .int .i64 y3, .slice p' yn c']) rfl rfl (fun u hu => by have e0 := cell_on hu m0; have e1 := cell_on hu m1; have e2 := cell_on hu m2; have e3 := cell_on hu m3; have e4 := cell_on hu m4; go_simp) ?_
        refine mixI_take (.slice (some ⟨g2, o2, none⟩) nk c2) rfl rfl (fun u hu => by go_simp) ?_
        refine mixI_take (.int .i64 (q : Int)) rfl rfl (fun u hu => by go_simp) ?_
        refine mixI_take (.pointer (some ⟨g2, o2 + q * 5, none⟩)) rfl rfl (fun u hu => by go_simp) ?_
        refine mixI_take (.agg #[.int .u8 (z0 : Int), .string z1, .int .i64 z2, .int .i64 z3, .slice p2' zn c2']) rfl rfl (fun u hu => by have e0 := cell_on hu n0; have e1 := cell_on hu n1; have e2 := cell_on hu n2; have e3 := cell_on hu n3; have e4 := cell_on hu n4; go_simp) ?_
        have HBD := Lib.hid (HBW.out.drew)
        clear m0 m1 m2 m3 m4 n0 n1 n2 n3 n4
        refine mixI_go rfl rfl fun K hK => wp_go (f := 20) (args := #[.agg #[.int .u8 (y0 : Int), .string y1, .int .i64 y2, .int .i64 y3, .slice p' yn c'], .agg #[.int .u8 (z0 : Int), .string z1, .int .i64 z2, .int .i64 z3, .slice p2' zn c2']]) (by go_simp) ((HY.out _ (HKR.out.below HBD.out) (HKR2.out.below HBD.out)).mono ?_)
        rintro e w2 ⟨rfl, hb⟩
        have HB2 := Lib.hid (HBD.out.trans (hb.mono HBD.out.size))
        refine hK.out _ _ (((Below.refl _ wr).drew).trans (hb.mono (by simp))) ?_
        clear hK hb
        show wpList _ _ _ _ _ _
        cases sm
        all_goals
          go_wp2
        · go_ret
          exact ⟨by rw [HAB.out, HST.out]; rfl, HB2.out⟩
        · go_roundg (nk - (q + 1))
          case measure => omega
          case rel => exact ⟨q + 1, by omega, rfl, by go_num, by rw [HAB.out, HST.out]; rfl, HB2.out⟩
      · obtain rfl : q = nk := by omega
        go_wp2
        go_ret
        exact ⟨by rw [HAB.out, List.drop_eq_nil_of_le (by have := HNK.out; omega), List.drop_eq_nil_of_le (by have := HNK.out; have := HE.out; omega)]; rfl, HBW.out⟩
  · have he2 : ((l.length : Int) != (l2.length : Int)) = true := by simp; omega
    rw [allL_len he]
    generalize l.length = nk at *
    generalize l2.length = nk2 at *
    clear h1 h2 ih he
    go_enter Try.func30, Try.ntmps30
    go_wp2
    go_ret
    exact ⟨rfl, Below.refl _ _⟩
set_option maxRecDepth 100000 in
set_option maxHeartbeats 4000000 in
theorem all_step {k : Nat} {t : ByteArray} {n a : Int} {l : List Nd} (ih : ∀ y ∈ l, AllOK y) : AllOK (.mk k t n a l) := by
  intro y p c p2 c2 w hr hr2
  obtain ⟨k', t', n', a', l'⟩ := y
  have HS := Lib.hid (show allN (.mk k t n a l) (.mk k' t' n' a' l') = (k == k' && t.data.toList == t'.data.toList && n == n' && a == a' && allL l l') by simp only [allN])
  show Calls Try.prog 20 #[.agg #[.int .u8 (k : Int), .string t, .int .i64 n, .int .i64 a, .slice p l.length c], .agg #[.int .u8 (k' : Int), .string t', .int .i64 n', .int .i64 a', .slice p2 l'.length c2]] w _
  have HB := Lib.hid (((Below.refl w.heap.size w).alloc (Nat.le_refl _) (.cells #[.int .u8 (k : Int), .string t, .int .i64 n, .int .i64 a, .slice p l.length c] 25)).alloc (by simp) (.cells #[.int .u8 (k' : Int), .string t', .int .i64 n', .int .i64 a', .slice p2 l'.length c2] 25))
  have HEQ := Lib.hid (fun u hu => nodes_all (l := l) (l2 := l') (c := c) (c2 := c2) (w := u) ih (KidsV.below hu hr.kids) (KidsV.below hu hr2.kids) hr.len)
  have hk : ((k : Int) == (k' : Int)) = (k == k') := by rw [Bool.eq_iff_iff]; simp; omega
  have ht : (t.toList == t'.toList) = (t.data.toList == t'.data.toList) := by rw [ByteArray.toList_eq, ByteArray.toList_eq]
  generalize allN (.mk k t n a l) (.mk k' t' n' a' l') = res at *
  generalize (k == k') = bk at *
  generalize (t.data.toList == t'.data.toList) = bt at *
  generalize hbn : (n == n') = bn at *
  generalize hba : (a == a') = ba at *
  generalize allL l l' = bl at *
  generalize l.length = nk at *
  generalize l'.length = nk' at *
  clear hr hr2 ih
  have HA := Lib.hid ((Box5.new (w := w) (v0 := .int .u8 (k : Int)) (v1 := .string t) (v2 := .int .i64 n) (v3 := .int .i64 a) (v4 := .slice p nk c) (T := 25)).below ((Below.refl _ _).alloc (Nat.le_refl _) (.cells #[.int .u8 (k' : Int), .string t', .int .i64 n', .int .i64 a', .slice p2 nk' c2] 25)))
  have HA2 := Lib.hid (Box5.new (w := w.alloc (.cells #[.int .u8 (k : Int), .string t, .int .i64 n, .int .i64 a, .slice p nk c] 25)) (v0 := .int .u8 (k' : Int)) (v1 := .string t') (v2 := .int .i64 n') (v3 := .int .i64 a') (v4 := .slice p2 nk' c2) (T := 25))
  have hsz : (w.alloc (.cells #[.int .u8 (k : Int), .string t, .int .i64 n, .int .i64 a, .slice p nk c] 25)).heap.size = w.heap.size + 1 := by simp
  rw [hsz] at HA2
  have HT := Lib.hid ht; have HBN := Lib.hid hbn; have HBA := Lib.hid hba; have HKK := Lib.hid hk
  clear hsz ht hbn hba hk
  cases bk
  · go_enter Try.func20, Try.ntmps20
    go_upto_region 1 with fail
    generalize ((w.alloc (.cells #[.int .u8 (k : Int), .string t, .int .i64 n, .int .i64 a, .slice p nk c] 25)).alloc (.cells #[.int .u8 (k' : Int), .string t', .int .i64 n', .int .i64 a', .slice p2 nk' c2] 25)) = W at *
    obtain ⟨a0, a1, a2, a3, a4⟩ := HA.out
    obtain ⟨b0, b1, b2, b3, b4⟩ := HA2.out
    have hk := HKK.out
    go_wp2
    go_ret
    exact ⟨by rw [HS.out]; rfl, HB.out⟩
  cases bt
  · go_enter Try.func20, Try.ntmps20
    go_upto_region 1 with fail
    generalize ((w.alloc (.cells #[.int .u8 (k : Int), .string t, .int .i64 n, .int .i64 a, .slice p nk c] 25)).alloc (.cells #[.int .u8 (k' : Int), .string t', .int .i64 n', .int .i64 a', .slice p2 nk' c2] 25)) = W at *
    obtain ⟨a0, a1, a2, a3, a4⟩ := HA.out
    obtain ⟨b0, b1, b2, b3, b4⟩ := HA2.out
    have hk := HKK.out
    have ht := HT.out
    go_wp2
    go_ret
    exact ⟨by rw [HS.out]; rfl, HB.out⟩
  cases bn
  · go_enter Try.func20, Try.ntmps20
    go_upto_region 1 with fail
    generalize ((w.alloc (.cells #[.int .u8 (k : Int), .string t, .int .i64 n, .int .i64 a, .slice p nk c] 25)).alloc (.cells #[.int .u8 (k' : Int), .string t', .int .i64 n', .int .i64 a', .slice p2 nk' c2] 25)) = W at *
    obtain ⟨a0, a1, a2, a3, a4⟩ := HA.out
    obtain ⟨b0, b1, b2, b3, b4⟩ := HA2.out
    have hk := HKK.out
    have ht := HT.out
    have hbn := HBN.out
    go_wp2
    go_ret
    exact ⟨by rw [HS.out]; rfl, HB.out⟩
  cases ba
  · go_enter Try.func20, Try.ntmps20
    go_upto_region 1 with fail
    generalize ((w.alloc (.cells #[.int .u8 (k : Int), .string t, .int .i64 n, .int .i64 a, .slice p nk c] 25)).alloc (.cells #[.int .u8 (k' : Int), .string t', .int .i64 n', .int .i64 a', .slice p2 nk' c2] 25)) = W at *
    obtain ⟨a0, a1, a2, a3, a4⟩ := HA.out
    obtain ⟨b0, b1, b2, b3, b4⟩ := HA2.out
    have hk := HKK.out
    have ht := HT.out
    have hbn := HBN.out
    have hba := HBA.out
    go_wp2
    go_ret
    exact ⟨by rw [HS.out]; rfl, HB.out⟩
  go_enter Try.func20, Try.ntmps20
  go_upto_region 1 with fail
  generalize ((w.alloc (.cells #[.int .u8 (k : Int), .string t, .int .i64 n, .int .i64 a, .slice p nk c] 25)).alloc (.cells #[.int .u8 (k' : Int), .string t', .int .i64 n', .int .i64 a', .slice p2 nk' c2] 25)) = W at *
  obtain ⟨a0, a1, a2, a3, a4⟩ := HA.out
  obtain ⟨b0, b1, b2, b3, b4⟩ := HA2.out
  have hk := HKK.out
  have ht := HT.out
  have hbn := HBN.out
  have hba := HBA.out
  go_wp2_with (go_at_call 30; go_must (refine (HEQ.out _ HB.out).mono ?_; rintro e w2 ⟨rfl, hb⟩; have HB2 := Lib.hid (HB.out.trans (hb.mono HB.out.size)); clear hb))
  go_ret
  exact ⟨by rw [HS.out]; rfl, HB2.out⟩
theorem all_any : ∀ x : Nd, AllOK x
  | .mk k t n a l => all_step fun y _hy => all_any y
  termination_by x => SizeOf.sizeOf x
  decreasing_by have := List.sizeOf_lt_of_mem _hy; simp; omega
end Go.Proofs.Ytkjpdhnibfhaaaa.KitB
