/- The law NodeSame, walked. -/
import Derived.Test.YtkjpdhnibfhaaaaKitI
import Derived.Test.YtkjpdhnibfhaaaaKitE
import Derived.Test.YtkjpdhnibfhaaaaKitF
import Derived.Test.YtkjpdhnibfhaaaaKitP
import Derived.Test.YtkjpdhnibfhaaaaNodeX
import Derived.Deep.Cut
namespace Go.Proofs.Ytkjpdhnibfhaaaa.KitJ
open Go Go.RowKit Go.Proofs.Ytkjpdhnibfhaaaa.Heap Go.Proofs.Ytkjpdhnibfhaaaa.Dat Go.Proofs.Ytkjpdhnibfhaaaa.Nodey Go.Proofs.Ytkjpdhnibfhaaaa.NodeA Go.Proofs.Ytkjpdhnibfhaaaa.NodeB Go.Proofs.Ytkjpdhnibfhaaaa.NodeF Go.Proofs.Ytkjpdhnibfhaaaa.NodeI Go.Proofs.Ytkjpdhnibfhaaaa.NodeK Go.Proofs.Ytkjpdhnibfhaaaa.NodeM Go.Proofs.Ytkjpdhnibfhaaaa.NodeS Go.Proofs.Ytkjpdhnibfhaaaa.NodeT Go.Proofs.Ytkjpdhnibfhaaaa.NodeU Go.Proofs.Ytkjpdhnibfhaaaa.Cut Go.Proofs.Ytkjpdhnibfhaaaa.Build Go.Proofs.Ytkjpdhnibfhaaaa.KitA Go.Proofs.Ytkjpdhnibfhaaaa.KitC Go.Proofs.Ytkjpdhnibfhaaaa.KitE Go.Proofs.Ytkjpdhnibfhaaaa.KitF Go.Proofs.Ytkjpdhnibfhaaaa.KitH Go.Proofs.Ytkjpdhnibfhaaaa.KitI

/-- what was there is as it was -/
structure On (B : Nat) (w u : World) : Prop where
  b : Below B w u
  s : B ≤ u.heap.size
theorem On.next {B : Nat} {w u v : World} (h : On B w u) (k : Below u.heap.size u v) : On B w v := ⟨h.b.trans (k.mono h.s), Nat.le_trans h.s k.size⟩
theorem many_at {x : Nd} {p : Option Addr} {c : Nat} {w u : World} (h : Big w p c x) (hb : Below w.heap.size w u) : Calls Try.prog 11 #[.agg (nodeC x p c), .int .i64 40000] u fun e w' => e = .returned (.int .i64 ((min (wtN x) 40001 : Nat) : Int)) ∧ Below u.heap.size u w' := many_any x p c 40000 u (h.below hb) (Nat.le_refl _)
theorem box_same {w w' : World} {b : Nat} {v0 v1 v2 v3 v4 : Value} (h : Box5 w b v0 v1 v2 v3 v4) (hw : w'.heap[b]? = w.heap[b]?) : Box5 w' b v0 v1 v2 v3 v4 :=
  ⟨(World.cell?_of_block hw).trans h.c0, (World.cell?_of_block hw).trans h.c1, (World.cell?_of_block hw).trans h.c2, (World.cell?_of_block hw).trans h.c3, (World.cell?_of_block hw).trans h.c4⟩
theorem same_bared {a : Nd} {pa : Option Addr} {ca : Nat} {u : World} {v : Value} (ha : Ready u pa ca a) (h : IsNode u v (bareN a)) : Calls Try.prog 13 #[.agg (nodeC a pa ca), v] u fun e w' => e = .returned (.bool true) ∧ Below u.heap.size u w' := by
  obtain ⟨p, c, rfl, hr⟩ := h
  have := same_any a (bareN a) _ _ _ _ u ha hr
  rwa [KitP.same_bare] at this
set_option maxRecDepth 100000 in
set_option maxHeartbeats 8000000 in
theorem same_law {a b : Nd} {pa pb : Option Addr} {ca cb : Nat} {w : World} {mm : Int} (hm : w.cell? ⟨0, 0, none⟩ = some (.int .i64 mm)) (ha : Big w pa ca a) (hb : Big w pb cb b) :
    Calls Try.prog 4 #[.agg (nodeC a pa ca), .agg (nodeC b pb cb)] w fun e w' => e = .returned (.bool true) ∧ Below w.heap.size w w' := by
  have HAW := Lib.hid (fun (u : World) (hu : Below w.heap.size w u) => NodeX.awake_any (w := u) (cell_on hu hm))
  have HMA := Lib.hid (fun (u : World) (hu : Below w.heap.size w u) => many_at ha hu)
  have HMB := Lib.hid (fun (u : World) (hu : Below w.heap.size w u) => many_at hb hu)
  have HRA := Lib.hid (fun (h : wtN a ≤ 40000) => ha.ready h)
  have HRB := Lib.hid (fun (h : wtN b ≤ 40000) => hb.ready h)
  clear ha hb hm
  have hsz : ((w.alloc (.cells (nodeC a pa ca) 25)).alloc (.cells (nodeC b pb cb) 25)).heap.size = w.heap.size + 2 := by simp
  have HB : Hid (On w.heap.size w ((w.alloc (.cells (nodeC a pa ca) 25)).alloc (.cells (nodeC b pb cb) 25))) := Lib.hid ⟨((Below.refl w.heap.size w).alloc (Nat.le_refl _) (.cells (nodeC a pa ca) 25)).alloc (by simp) (.cells (nodeC b pb cb) 25), by omega⟩
  clear hsz
  have HA := Lib.hid ((Box5.new (w := w) (v0 := .int .u8 (a.kind : Int)) (v1 := .string a.text) (v2 := .int .i64 a.num) (v3 := .int .i64 a.at_) (v4 := .slice pa a.kids.length ca) (T := 25)).below ((Below.refl _ _).alloc (Nat.le_refl _) (.cells (nodeC b pb cb) 25)))
  have HA2 := Lib.hid (Box5.new (w := w.alloc (.cells (nodeC a pa ca) 25)) (v0 := .int .u8 (b.kind : Int)) (v1 := .string b.text) (v2 := .int .i64 b.num) (v3 := .int .i64 b.at_) (v4 := .slice pb b.kids.length cb) (T := 25))
  rw [show (w.alloc (.cells (nodeC a pa ca) 25)).heap.size = w.heap.size + 1 by simp] at HA2
  unfold nodeC at HA HA2 HB HMA HMB ⊢
  go_enter Try.func4, Try.ntmps4
  go_upto_region 1 with fail
  generalize ((w.alloc (.cells #[.int .u8 (a.kind : Int), .string a.text, .int .i64 a.num, .int .i64 a.at_, .slice pa a.kids.length ca] 25)).alloc (.cells #[.int .u8 (b.kind : Int), .string b.text, .int .i64 b.num, .int .i64 b.at_, .slice pb b.kids.length cb] 25)) = W at *
  generalize hH : w.heap.size = H at *
  have HHH := Lib.hid hH; clear hH
  obtain ⟨a0, a1, a2, a3, a4⟩ := HA.out
  obtain ⟨b0, b1, b2, b3, b4⟩ := HA2.out
  by_cases h1 : wtN a ≤ 40000
  · have e1 : min (wtN a) 40001 = wtN a := by omega
    rw [e1] at HMA
    have RA := Lib.hid (HRA.out h1)
    have l1 : ((wtN a : Nat) : Int) ≤ 40000 := by omega
    generalize wtN a = na at *
    by_cases h2 : wtN b ≤ 40000
    · have e2 : min (wtN b) 40001 = wtN b := by omega
      rw [e2] at HMB
      have RB := Lib.hid (HRB.out h2)
      have l2 : ((wtN b : Nat) : Int) ≤ 40000 := by omega
      generalize wtN b = nb at *
      go_upto_region 3 with (first
        | (go_at_call 11; (with_reducible refine (HMA.out _ HB.out.b).mono ?_); go_must (rintro e w2 ⟨rfl, hb⟩; clear a0 a1 a2 a3 a4 b0 b1 b2 b3 b4; have HA3 := Lib.hid (HA.out.below hb); obtain ⟨a0, a1, a2, a3, a4⟩ := HA3.out; have HB3 := Lib.hid (HA2.out.below hb); obtain ⟨b0, b1, b2, b3, b4⟩ := HB3.out; have HW2 := Lib.hid (HB.out.next hb); clear hb))
        | (go_at_call 11; (with_reducible refine (HMB.out _ HW2.out.b).mono ?_); go_must (rintro e w3 ⟨rfl, hb⟩; have HBA := Lib.hid (HA3.out.below hb); have HBD := Lib.hid (HB3.out.below hb); have HW3 := Lib.hid (HW2.out.next hb); clear hb)))
      have RA3 := Lib.hid (RA.out.below (HHH.out ▸ HW3.out.b)); have RB3 := Lib.hid (RB.out.below (HHH.out ▸ HW3.out.b))
      refine wp_region_typedE (l1 := [_, _, _, _, _, _]) (l2 := [_, _]) [4, 5] [16, 17, 18, 19, 5, 6] (fun u => Below w3.heap.size w3 u) (TwoF (.agg #[.int .u8 (a.kind : Int), .string a.text, .int .i64 a.num, .int .i64 a.at_, .slice pa a.kids.length ca]) (.agg #[.int .u8 (b.kind : Int), .string b.text, .int .i64 b.num, .int .i64 b.at_, .slice pb b.kids.length cb]) a b w3.heap.size) (by kernel_rfl) (by kernel_rfl) (no_guards (by kernel_rfl)) (by kernel_rfl) TwoF.below ((Below.refl _ _).drew) ⟨?_, ?_, ?_, ?_, ?_, ?_, trivial⟩ TwoF.old ?_
      · exact (sf_load (fun _ _ => rfl) rfl rfl (b := H) rfl HBA.out).toA rfl
      · refine (sf_call (f := 12) (j := 0) (t := 16) (by decide) rfl (fun w v h => h) (fun a w h1 => by have e1 := eval_tmp h1; simp only [execOp]; go_simp) fun u hu => ?_).toA rfl
        refine (lent_any a pa ca u (RA3.out.below hu)).mono ?_
        rintro e w' ⟨g, rfl, hv, hb⟩
        exact ⟨_, rfl, ⟨g, rfl, hv.base hu.size⟩, hb⟩
      · exact (sf_load (fun _ _ => rfl) rfl rfl (b := H + 1) rfl HBD.out).toA rfl
      · refine (sf_call (f := 12) (j := 2) (t := 18) (by decide) rfl (fun w v h => h) (fun a w h1 => by have e1 := eval_tmp h1; simp only [execOp]; go_simp) fun u hu => ?_).toA rfl
        refine (lent_any b pb cb u (RB3.out.below hu)).mono ?_
        rintro e w' ⟨g, rfl, hv, hb⟩
        exact ⟨_, rfl, ⟨g, rfl, hv.base hu.size⟩, hb⟩
      · exact sf_alloc (fun w q _ hq hz => ⟨q, rfl, hq, hz⟩) rfl
      · exact sf_alloc (fun w q _ hq hz => ⟨q, rfl, hq, hz⟩) rfl
      intro vs wx hlen hx hF hD
      obtain ⟨v0, v1, v2, v3, v4, v5, rfl⟩ := list6 hlen
      have g1 : Lent wx w3.heap.size v1 a := hF 1 v1 rfl
      have g3 : Lent wx w3.heap.size v3 b := hF 3 v3 rfl
      have g4 : ∃ q, v4 = .pointer (some ⟨q, 0, none⟩) ∧ w3.heap.size ≤ q ∧ ZeroAt wx q := hF 4 v4 rfl
      have g5 : ∃ q, v5 = .pointer (some ⟨q, 0, none⟩) ∧ w3.heap.size ≤ q ∧ ZeroAt wx q := hF 5 v5 rfl
      have hne := hD 4 5 v4 v5 (by simp) (by simp) (by decide) rfl rfl
      obtain ⟨q1, rfl, hv1⟩ := g1
      obtain ⟨q2, rfl, hv2⟩ := g3
      obtain ⟨b5, rfl, hb5, hz5⟩ := g4
      obtain ⟨b6, rfl, hb6, hz6⟩ := g5
      have hne : b5 ≠ b6 := fun e => hne (congrArg some e)
      clear hF hD hlen
      show wpList _ _ _ _ (putAll _ [(16, _), (17, _), (18, _), (19, _), (5, _), (6, _)]) _
      simp only [putAll, Act.put, List.setIfInBounds_toArray, List.set_cons_succ, List.set_cons_zero]
      refine fin_set (x := a) (p := some ⟨q1, 0, none⟩) (c := a.kids.length + 12) rfl rfl rfl (b := b5) rfl rfl hz5 fun w5 L5 => ?_
      have hz6' : ZeroAt w5 b6 := (L5.other b6 (Ne.symm hne)).trans hz6
      refine fin_set (x := b) (p := some ⟨q2, 0, none⟩) (c := b.kids.length + 12) rfl rfl rfl (b := b6) rfl rfl hz6' fun w4 L6 => wpList_nil ?_
      have hv1' := KitI.LentV.set hz6' L6.other (KitI.LentV.set hz5 L5.other hv1)
      have hv2' := KitI.LentV.set hz6' L6.other (KitI.LentV.set hz5 L5.other hv2)
      have h34 : Below w3.heap.size w3 w4 := (hx.trans (L5.below _ hb5)).trans (L6.below _ hb6)
      have HV1 := Lib.hid hv1'; have HV2 := Lib.hid hv2'
      have HB5 := Lib.hid (box_same (show Box5 w5 b5 (.int .u8 (a.kind : Int)) (.string a.text) (.int .i64 a.num) (.int .i64 a.at_) (.slice (some ⟨q1, 0, none⟩) a.kids.length (a.kids.length + 12)) from L5.box) (L6.other b5 hne))
      have HB6 := Lib.hid (show Box5 w4 b6 (.int .u8 (b.kind : Int)) (.string b.text) (.int .i64 b.num) (.int .i64 b.at_) (.slice (some ⟨q2, 0, none⟩) b.kids.length (b.kids.length + 12)) from L6.box)
      have HW4 := Lib.hid (HW3.out.next h34)
      have RA4 := Lib.hid (RA3.out.below h34); have RB4 := Lib.hid (RB3.out.below h34)
      have HBA4 := Lib.hid (HBA.out.below h34); have HBD4 := Lib.hid (HBD.out.below h34)
      clear hv1 hv2 hv1' hv2' L5 L6 hz5 hz6 hz6' h34 hx hne hb5 hb6 HBA HBD RA3 RB3 HW3 RA RB HRA HRB
      have HBA := HBA4; have HBD := HBD4; clear HBA4 HBD4
      have RX := Lib.hid (LentV.ready (x := a) HV1.out RA4.out.len RA4.out.text)
      have RY := Lib.hid (LentV.ready (x := b) HV2.out RB4.out.len RB4.out.text)
      have HAW4 := Lib.hid (fun u (hu : Below w4.heap.size w4 u) => HAW.out u (HW4.out.next hu).b)
      clear HAW; have HAW := HAW4; clear HAW4
      have HSXY := Lib.hid (fun u (hu : Below w4.heap.size w4 u) => same_any a b _ _ _ _ u (RX.out.below hu) (RY.out.below hu))
      have HREF := Lib.hid (fun u (hu : Below w4.heap.size w4 u) => ref_any a b _ _ _ _ u (RA4.out.below hu) (RB4.out.below hu))
      have HKX := Lib.hid (fun u (hu : Below w4.heap.size w4 u) => kept_any a _ _ _ _ u (RA4.out.below hu) (HV1.out.below hu))
      have HKY := Lib.hid (fun u (hu : Below w4.heap.size w4 u) => kept_any b _ _ _ _ u (RB4.out.below hu) (HV2.out.below hu))
      have HSAA := Lib.hid (fun u (hu : Below w4.heap.size w4 u) => same_any a a _ _ _ _ u (RA4.out.below hu) (RA4.out.below hu))
      rw [KitP.same_self] at HSAA
      have HBARE := Lib.hid (fun u (hu : Below w4.heap.size w4 u) => bare_node (RA4.out.below hu))
      have HSAB := Lib.hid (fun (u : World) (v : Value) (hu : Below w4.heap.size w4 u) (hn : IsNode u v (bareN a)) => same_bared (RA4.out.below hu) hn)
      go_upto_region 4 with fail
      refine wp_region_typedG (l1 := [_, _, _, _, _, _, _, _, _, _, _, _, _, _, _, _, _, _, _, _, _, _, _, _, _, _, _, _, _, _, _]) (l2 := [_]) [] [20, 21, 22, 23, 24, 25, 26, 27, 28, 29, 30, 31, 32, 33, 34, 35, 36, 37, 38, 39, 40, 41, 42, 43, 44, 45, 46, 47, 48, 49, 50] (fun u => Below w4.heap.size w4 u) (FS [.val (.agg #[.int .u8 (a.kind : Int), .string a.text, .int .i64 a.num, .int .i64 a.at_, .slice (some ⟨q1, 0, none⟩) a.kids.length (a.kids.length + 12)]), .val (.agg #[.int .u8 (b.kind : Int), .string b.text, .int .i64 b.num, .int .i64 b.at_, .slice (some ⟨q2, 0, none⟩) b.kids.length (b.kids.length + 12)]), .val (.bool (sameN a b)), .val (.agg #[.int .u8 (a.kind : Int), .string a.text, .int .i64 a.num, .int .i64 a.at_, .slice pa a.kids.length ca]), .val (.agg #[.int .u8 (b.kind : Int), .string b.text, .int .i64 b.num, .int .i64 b.at_, .slice pb b.kids.length cb]), .val (.bool (sameN a b)), .val (.bool true), .val (.bool true), .val (.agg #[.int .u8 (a.kind : Int), .string a.text, .int .i64 a.num, .int .i64 a.at_, .slice (some ⟨q1, 0, none⟩) a.kids.length (a.kids.length + 12)]), .val (.agg #[.int .u8 (a.kind : Int), .string a.text, .int .i64 a.num, .int .i64 a.at_, .slice pa a.kids.length ca]), .val (.bool true), .val (.bool true), .val (.bool true), .val (.agg #[.int .u8 (b.kind : Int), .string b.text, .int .i64 b.num, .int .i64 b.at_, .slice (some ⟨q2, 0, none⟩) b.kids.length (b.kids.length + 12)]), .val (.agg #[.int .u8 (b.kind : Int), .string b.text, .int .i64 b.num, .int .i64 b.at_, .slice pb b.kids.length cb]), .val (.bool true), .val (.bool true), .val (.bool true), .val (.agg #[.int .u8 (a.kind : Int), .string a.text, .int .i64 a.num, .int .i64 a.at_, .slice pa a.kids.length ca]), .val (.agg #[.int .u8 (a.kind : Int), .string a.text, .int .i64 a.num, .int .i64 a.at_, .slice pa a.kids.length ca]), .val (.bool true), .val (.bool true), .val (.bool true), .val (.agg #[.int .u8 (a.kind : Int), .string a.text, .int .i64 a.num, .int .i64 a.at_, .slice pa a.kids.length ca]), .val (.agg #[.int .u8 (a.kind : Int), .string a.text, .int .i64 a.num, .int .i64 a.at_, .slice pa a.kids.length ca]), .node (bareN a), .val (.bool true), .val (.bool true), .val (.bool true), .val (.bool true), .val (.bool true)] w4) (by kernel_rfl) (by kernel_rfl) (met_at (by first | rfl | kernel_rfl | decide)) (by kernel_rfl) FS.below ((Below.refl _ _).drew) ⟨?_, ?_, ?_, ?_, ?_, ?_, ?_, ?_, ?_, ?_, ?_, ?_, ?_, ?_, ?_, ?_, ?_, ?_, ?_, ?_, ?_, ?_, ?_, ?_, ?_, ?_, ?_, ?_, ?_, ?_, ?_, trivial⟩ (fun i hi => by cases hi) ?_
      · exact (sv_load rfl rfl rfl (b := b5) rfl HB5.out).toA rfl
      · exact (sv_load rfl rfl rfl (b := b6) rfl HB6.out).toA rfl
      · exact (sv_call2 (f := 13) rfl (t := 20) (t' := 21) (u := (.agg #[.int .u8 (a.kind : Int), .string a.text, .int .i64 a.num, .int .i64 a.at_, .slice (some ⟨q1, 0, none⟩) a.kids.length (a.kids.length + 12)])) (u' := (.agg #[.int .u8 (b.kind : Int), .string b.text, .int .i64 b.num, .int .i64 b.at_, .slice (some ⟨q2, 0, none⟩) b.kids.length (b.kids.length + 12)])) (.of 0 (by decide) rfl rfl) (.of 1 (by decide) rfl rfl) (fun a w h1 h2 => by simp only [execOp]; go_simp) HSXY.out).toA rfl
      · exact (sv_load rfl rfl rfl (b := H) rfl HBA.out).toA rfl
      · exact (sv_load rfl rfl rfl (b := H + 1) rfl HBD.out).toA rfl
      · exact (sv_call2 (f := 14) rfl (t := 23) (t' := 24) (u := (.agg #[.int .u8 (a.kind : Int), .string a.text, .int .i64 a.num, .int .i64 a.at_, .slice pa a.kids.length ca])) (u' := (.agg #[.int .u8 (b.kind : Int), .string b.text, .int .i64 b.num, .int .i64 b.at_, .slice pb b.kids.length cb])) (.of 3 (by decide) rfl rfl) (.of 4 (by decide) rfl rfl) (fun a w h1 h2 => by simp only [execOp]; go_simp) HREF.out).toA rfl
      · exact (sv_two rfl (t := 22) (t' := 25) (u := .bool (sameN a b)) (u' := .bool (sameN a b)) (.of 2 (by decide) rfl rfl) (.of 5 (by decide) rfl rfl) (fun a' w h1 h2 => by have e1 := eval_tmp h1; have e2 := eval_tmp h2; simp only [execOp, e1, e2]; cases sameN a b <;> go_simp)).toA rfl
      · exact (st_movev (j := 6) rfl (by decide) rfl rfl rfl).toA rfl
      · exact (sv_load rfl rfl rfl (b := b5) rfl HB5.out).toA rfl
      · exact (sv_load rfl rfl rfl (b := H) rfl HBA.out).toA rfl
      · exact (sv_call2 (f := 15) rfl (t := 28) (t' := 29) (u := (.agg #[.int .u8 (a.kind : Int), .string a.text, .int .i64 a.num, .int .i64 a.at_, .slice (some ⟨q1, 0, none⟩) a.kids.length (a.kids.length + 12)])) (u' := (.agg #[.int .u8 (a.kind : Int), .string a.text, .int .i64 a.num, .int .i64 a.at_, .slice pa a.kids.length ca])) (.of 8 (by decide) rfl rfl) (.of 9 (by decide) rfl rfl) (fun a w h1 h2 => by simp only [execOp]; go_simp) HKX.out).toA rfl
      · exact (st_pick (j1 := 7) (j2 := 10) (b := true) rfl (by decide) rfl rfl (by decide) rfl rfl rfl).toA rfl
      · exact (st_movev (j := 11) rfl (by decide) rfl rfl rfl).toA rfl
      · exact (sv_load rfl rfl rfl (b := b6) rfl HB6.out).toA rfl
      · exact (sv_load rfl rfl rfl (b := H + 1) rfl HBD.out).toA rfl
      · exact (sv_call2 (f := 15) rfl (t := 33) (t' := 34) (u := (.agg #[.int .u8 (b.kind : Int), .string b.text, .int .i64 b.num, .int .i64 b.at_, .slice (some ⟨q2, 0, none⟩) b.kids.length (b.kids.length + 12)])) (u' := (.agg #[.int .u8 (b.kind : Int), .string b.text, .int .i64 b.num, .int .i64 b.at_, .slice pb b.kids.length cb])) (.of 13 (by decide) rfl rfl) (.of 14 (by decide) rfl rfl) (fun a w h1 h2 => by simp only [execOp]; go_simp) HKY.out).toA rfl
      · exact (st_pick (j1 := 12) (j2 := 15) (b := true) rfl (by decide) rfl rfl (by decide) rfl rfl rfl).toA rfl
      · exact (st_movev (j := 16) rfl (by decide) rfl rfl rfl).toA rfl
      · exact (sv_load rfl rfl rfl (b := H) rfl HBA.out).toA rfl
      · exact (sv_load rfl rfl rfl (b := H) rfl HBA.out).toA rfl
      · exact (sv_call2 (f := 13) rfl (t := 38) (t' := 39) (u := (.agg #[.int .u8 (a.kind : Int), .string a.text, .int .i64 a.num, .int .i64 a.at_, .slice pa a.kids.length ca])) (u' := (.agg #[.int .u8 (a.kind : Int), .string a.text, .int .i64 a.num, .int .i64 a.at_, .slice pa a.kids.length ca])) (.of 18 (by decide) rfl rfl) (.of 19 (by decide) rfl rfl) (fun a w h1 h2 => by simp only [execOp]; go_simp) HSAA.out).toA rfl
      · exact (st_pick (j1 := 17) (j2 := 20) (b := true) rfl (by decide) rfl rfl (by decide) rfl rfl rfl).toA rfl
      · exact (st_movev (j := 21) rfl (by decide) rfl rfl rfl).toA rfl
      · exact (sv_load rfl rfl rfl (b := H) rfl HBA.out).toA rfl
      · exact (sv_load rfl rfl rfl (b := H) rfl HBA.out).toA rfl
      · exact (sv_node (f := 16) rfl (t := 44) (u := (.agg #[.int .u8 (a.kind : Int), .string a.text, .int .i64 a.num, .int .i64 a.at_, .slice pa a.kids.length ca])) (.of 24 (by decide) rfl rfl) (fun a w h1 => by have e1 := eval_tmp h1; simp only [execOp]; go_simp) HBARE.out).toA rfl
      · exact (sv_vn (f := 13) rfl (t := 43) (t' := 45) (u := (.agg #[.int .u8 (a.kind : Int), .string a.text, .int .i64 a.num, .int .i64 a.at_, .slice pa a.kids.length ca])) (.of 23 (by decide) rfl rfl) (.of 25 (by decide) rfl rfl) (fun a w u' h1 h2 => by simp only [execOp]; go_simp) HSAB.out).toA rfl
      · exact (st_pick (j1 := 22) (j2 := 26) (b := true) rfl (by decide) rfl rfl (by decide) rfl rfl rfl).toA rfl
      · exact (st_movev (j := 27) rfl (by decide) rfl rfl rfl).toA rfl
      · exact (sv_call0 (f := 10) rfl (fun a' w => by simp only [execOp]; go_simp) HAW.out).toA rfl
      · exact (st_pick (j1 := 28) (j2 := 29) (b := true) rfl (by decide) rfl rfl (by decide) rfl rfl rfl).toA rfl
      rintro a' wx hx hdf hsz hfr hsl _
      obtain ⟨vx, hvx, gx⟩ := hsl 30 50 rfl
      have e1 : vx = .bool true := FS.of gx rfl
      subst e1
      have hb := (HW4.out.next hx).b
      have hev := eval_tmp hvx
      refine list_step rfl ?_
      refine wp_val (v := .bool true) (w' := wx) ?_ (wpList_nil ?_)
      · simp only [execOp, hev]; go_simp
      have hz : (a'.put (some 4) (.bool true)).tmps[4]? = some (.bool true) := by
        show (a'.tmps.setIfInBounds 4 (.bool true))[4]? = _
        have h0 : 4 < a'.tmps.size := by rw [hsz]; simp
        simp [h0]
      have HZ := Lib.hid hz; have HD := Lib.hid hdf; have HF := Lib.hid hb
      clear hx hsz hfr hsl hvx gx hev hz hdf hb
      show Exit.then _ _ .normal _ _
      have HD2 : Hid ((a'.put (some 4) (.bool true)).defers = []) := HD
      generalize (a'.put (some 4) (.bool true)) = a2 at *
      go_wp2_with fail
      have hz := HZ.out
      refine bodyPost_ret (v := .bool true) ?_ HD2.out ⟨rfl, HHH.out ▸ HF.out⟩
      obtain ⟨hz1, hz2⟩ := Array.getElem?_eq_some_iff.1 hz
      simp [results, Try.results4, go_sem, hz1, hz2]
    · have e2 : min (wtN b) 40001 = 40001 := by omega
      rw [e2] at HMB
      go_wp2_with (first
        | (go_at_call 11; (with_reducible refine (HMA.out _ HB.out.b).mono ?_); go_must (rintro e w2 ⟨rfl, hb⟩; clear a0 a1 a2 a3 a4 b0 b1 b2 b3 b4; obtain ⟨a0, a1, a2, a3, a4⟩ := HA.out.below hb; obtain ⟨b0, b1, b2, b3, b4⟩ := HA2.out.below hb; have HW2 := Lib.hid (HB.out.next hb); clear hb))
        | (go_at_call 11; (with_reducible refine (HMB.out _ HW2.out.b).mono ?_); go_must (rintro e w3 ⟨rfl, hb⟩; have HW3 := Lib.hid (HW2.out.next hb); clear hb))
        | (go_at_call 10; (with_reducible refine (HAW.out _ HW3.out.b).mono ?_); go_must (rintro e w4 ⟨rfl, hb⟩; have HW4 := Lib.hid (HW3.out.next hb); clear hb)))
      go_ret
      exact ⟨rfl, HHH.out ▸ HW4.out.b⟩
  · have e1 : min (wtN a) 40001 = 40001 := by omega
    rw [e1] at HMA
    go_wp2_with (first
      | (go_at_call 11; (with_reducible refine (HMA.out _ HB.out.b).mono ?_); go_must (rintro e w2 ⟨rfl, hb⟩; have HW2 := Lib.hid (HB.out.next hb); clear hb))
      | (go_at_call 10; (with_reducible refine (HAW.out _ HW2.out.b).mono ?_); go_must (rintro e w3 ⟨rfl, hb⟩; have HW3 := Lib.hid (HW2.out.next hb); clear hb)))
    go_ret
    exact ⟨rfl, HHH.out ▸ HW3.out.b⟩
end Go.Proofs.Ytkjpdhnibfhaaaa.KitJ
