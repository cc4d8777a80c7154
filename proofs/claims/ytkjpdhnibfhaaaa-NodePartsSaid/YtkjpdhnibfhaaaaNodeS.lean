/- node's looks: node, with all that is in it. -/
import Derived.Test.YtkjpdhnibfhaaaaNodeR
namespace Go.Proofs.Ytkjpdhnibfhaaaa.NodeS
open Go.RowKit Go.Proofs.Ytkjpdhnibfhaaaa.Nodey Go.Proofs.Ytkjpdhnibfhaaaa.NodeA Go.Proofs.Ytkjpdhnibfhaaaa.NodeB Go.Proofs.Ytkjpdhnibfhaaaa.NodeC Go.Proofs.Ytkjpdhnibfhaaaa.NodeD Go.Proofs.Ytkjpdhnibfhaaaa.NodeE Go.Proofs.Ytkjpdhnibfhaaaa.NodeF Go.Proofs.Ytkjpdhnibfhaaaa.NodeG Go.Proofs.Ytkjpdhnibfhaaaa.NodeH Go.Proofs.Ytkjpdhnibfhaaaa.NodeI Go.Proofs.Ytkjpdhnibfhaaaa.NodeJ Go.Proofs.Ytkjpdhnibfhaaaa.NodeK Go.Proofs.Ytkjpdhnibfhaaaa.NodeL Go.Proofs.Ytkjpdhnibfhaaaa.NodeM Go.Proofs.Ytkjpdhnibfhaaaa.NodeN Go.Proofs.Ytkjpdhnibfhaaaa.NodeO Go.Proofs.Ytkjpdhnibfhaaaa.NodeP Go.Proofs.Ytkjpdhnibfhaaaa.NodeQ Go.Proofs.Ytkjpdhnibfhaaaa.NodeR Go.Proofs.Ytkjpdhnibfhaaaa.Cut

/-- how many more there may be, in its block -/
structure Led (w0 : World) (L : Nat) (w : World) (left : Int) : Prop where
  on : Below w0.heap.size w0 w
  le : w0.heap.size ≤ L
  blk : w.heap[L]? = some (.cells #[.int .i64 left] 3 (0, 0))
theorem Led.lt {w0 w : World} {L : Nat} {v : Int} (h : Led w0 L w v) : L < w.heap.size := (Array.getElem?_eq_some_iff.1 h.blk).1
theorem Led.cell {w0 w : World} {L : Nat} {v : Int} (h : Led w0 L w v) : w.cell? ⟨L, 0, none⟩ = some (.int .i64 v) := cell_of_row _ _ 0 _ _ (0, 0) h.blk
theorem Led.frz {w0 w : World} {L : Nat} {v : Int} (h : Led w0 L w v) : w.frozen? ⟨L, 0, none⟩ = false := by simp [World.frozen?, h.blk]
theorem Led.below {w0 w w' : World} {L : Nat} {v : Int} (h : Led w0 L w v) (hb : Below w.heap.size w w') : Led w0 L w' v :=
  ⟨h.on.trans (hb.mono h.on.size), h.le, (hb.block L h.lt).trans h.blk⟩
theorem Led.set {w0 w : World} {L : Nat} {v : Int} (h : Led w0 L w v) (u : Int) : Led w0 L (w.setCell ⟨L, 0, none⟩ (.int .i64 u)) u :=
  ⟨h.on.setCell h.le _, h.le, by
    have := heap_setCell_same w L 0 _ _ (.int .i64 u) h.blk
    simpa using this⟩
/-- all blocks but one are as they were -/
structure Kept (L : Nat) (w w' : World) : Prop where
  size : w.heap.size ≤ w'.heap.size
  block : ∀ b, b < w.heap.size → b ≠ L → w'.heap[b]? = w.heap[b]?
theorem Kept.refl (L : Nat) (w : World) : Kept L w w := ⟨Nat.le_refl _, fun _ _ _ => rfl⟩
theorem Kept.trans {L : Nat} {a b c : World} (h : Kept L a b) (k : Kept L b c) : Kept L a c := ⟨Nat.le_trans h.size k.size, fun i hi hn => (k.block i (Nat.lt_of_lt_of_le hi h.size) hn).trans (h.block i hi hn)⟩
theorem Kept.of {L : Nat} {w w' : World} (h : Below w.heap.size w w') : Kept L w w' := ⟨h.size, fun b hb _ => h.block b hb⟩
theorem Kept.set (L : Nat) (w : World) (v : Value) : Kept L w (w.setCell ⟨L, 0, none⟩ v) := ⟨by simp, fun b _ hn => Below.heap_setCell w _ v b hn⟩
theorem Kept.cell {L : Nat} {w w' : World} (h : Kept L w w') {q : Addr} {v : Value} (hn : q.block ≠ L) (hc : w.cell? q = some v) : w'.cell? q = some v :=
  (World.cell?_of_block (w := w) (h.block q.block (World.block_lt_of_cell? _ _ hc) hn)).trans hc
theorem box_kept {L : Nat} {w w' : World} {H : Nat} {v0 v1 v2 v3 v4 v5 : Value} (h : BoxAt w H v0 v1 v2 v3 v4 v5) (hb : Kept L w w') (hn : H ≠ L) : BoxAt w' H v0 v1 v2 v3 v4 v5 :=
  ⟨hb.cell hn h.c0, hb.cell hn h.c1, hb.cell hn h.c2, hb.cell hn h.c3, hb.cell hn h.c4, hb.cell hn h.c5⟩
/-- behind the call -/
def NodePost (w0 : World) (L : Nat) (w : World) (r : Option Int) (e : Ending) (w' : World) : Prop :=
  match r with
  | some lf => e = .returned (.tuple #[]) ∧ Led w0 L w' lf ∧ Kept L w w'
  | none => e = .panicked thrownW ∧ Below w0.heap.size w0 w'
theorem NodePost.none {w0 w w' : World} {L : Nat} (h : Below w0.heap.size w0 w') : NodePost w0 L w none (.panicked thrownW) w' := ⟨rfl, h⟩
theorem NodePost.some {w0 w w' : World} {L : Nat} {lf : Int} (h : Led w0 L w' lf) (k : Kept L w w') : NodePost w0 L w (some lf) (.returned (.tuple #[])) w' := ⟨rfl, h, k⟩
def NodeOK (w0 : World) (L : Nat) (d : Bool) (x : Nd) : Prop := ∀ (p : Option Addr) (c deep : Nat) (left : Int) (w : World), KidsV w0 p x.kids → x.kids.length ≤ c → x.kids.length ≤ 1000000 → x.text.size ≤ 1000000000 → Led w0 L w left → deep ≤ 61 → 0 ≤ left → left ≤ 32768 →
  Calls Try.prog 23 #[.agg (lookC x p c d), .int .i64 (deep : Int), .pointer (some ⟨L, 0, none⟩)] w fun e w' => NodePost w0 L w (goN d deep left x) e w'
theorem goN_bool (d : Bool) (deep : Nat) (left : Int) (k : Nat) (t : ByteArray) (n a : Int) (l : List Nd) :
    goN d deep left (.mk k t n a l) = if ((decide ((deep : Int) ≤ 60) && decide (0 ≤ left - 1) && decide (0 ≤ a)) && shapeB d (.mk k t n a l)) = true then goL d (deep + 1) (left - 1) l else none := by
  rw [goN]
  by_cases h : deep ≤ 60 ∧ 0 ≤ left - 1 ∧ 0 ≤ a ∧ shapeB d (.mk k t n a l) = true
  · rw [if_pos h, if_pos (by simp only [Bool.and_eq_true, decide_eq_true_eq]; exact ⟨⟨⟨by omega, h.2.1⟩, h.2.2.1⟩, h.2.2.2⟩)]
  · rw [if_neg h, if_neg (by simp only [Bool.and_eq_true, decide_eq_true_eq]; exact fun hh => h ⟨by omega, hh.1.1.2, hh.1.2, hh.2⟩)]
theorem goN_le {d : Bool} {deep : Nat} {left lf : Int} {x : Nd} (h : goN d deep left x = some lf) : 0 ≤ lf ∧ lf ≤ left := by
  rw [goN_eq] at h
  split at h
  · rename_i hh
    simp only [Option.some.injEq] at h
    omega
  · cases h
theorem NdAt.parts {w : World} {g o : Nat} {y : Nd} (h : NdAt w g o y) : ∃ p c, y.text.size ≤ 1000000000 ∧ y.kids.length ≤ 1000000 ∧ y.kids.length ≤ c ∧ KidsV w p y.kids ∧ w.cell? ⟨g, o, none⟩ = Option.some (.int .u8 (y.kind : Int)) ∧ w.cell? ⟨g, o + 1, none⟩ = Option.some (.string y.text) ∧ w.cell? ⟨g, o + 2, none⟩ = Option.some (.int .i64 y.num) ∧ w.cell? ⟨g, o + 3, none⟩ = Option.some (.int .i64 y.at_) ∧ w.cell? ⟨g, o + 4, none⟩ = Option.some (.slice p y.kids.length c) := by
  obtain ⟨k, t, n, a, l⟩ := y
  rw [NdAt] at h
  obtain ⟨h1, h2, h3, h4, h5, h6, p, c, h7, h8, h9⟩ := h
  exact ⟨p, c, h1, h2, h8, h9, h3, h4, h5, h6, h7⟩
theorem okB_true : okB true = .returned (.bool true) := rfl
theorem okB_false : okB false = .panicked thrownW := rfl
set_option maxRecDepth 100000 in
set_option maxHeartbeats 4000000 in
theorem node_top {w0 : World} {L : Nat} {d : Bool} {k : Nat} {t : ByteArray} {n a : Int} {l : List Nd} {mm : Int} (hm : w0.cell? ⟨0, 0, none⟩ = some (.int .i64 mm)) (ih : ∀ y ∈ l, NodeOK w0 L d y) (hg : 1 ≤ k ∧ k ≤ 8) : NodeOK w0 L d (.mk k t n a l) := by
  intro p c deep left w hk hc hlen ht hled hdeep hl0 hl1
  rw [goN_bool]
  have hk' : KidsV w0 p l := hk
  have hc' : l.length ≤ c := hc
  have hlen' : l.length ≤ 1000000 := hlen
  have ht' : t.size ≤ 1000000000 := ht
  show Calls Try.prog 23 #[.agg #[.int .u8 (k : Int), .string t, .int .i64 n, .int .i64 a, .slice p l.length c, .bool d], .int .i64 (deep : Int), .pointer (some ⟨L, 0, none⟩)] w _
  have M_top : ∀ u, Below w0.heap.size w0 u → Calls Try.prog 32 #[.agg #[.int .u8 (k : Int), .string t, .int .i64 n, .int .i64 a, .slice p l.length c, .bool d]] u fun e w' => e = okB (shapeB d (.mk k t n a l)) ∧ Below u.heap.size u w' := by
    intro u hu
    have hku : KidsV u p (Nd.mk k t n a l).kids := KidsV.below hu hk'
    have h := top_any (x := .mk k t n a l) (p := p) (c := c) (d := d) hku hlen ht
    refine h.mono fun e w' h => ?_
    exact ⟨h.1.trans (if_pos hg), h.2⟩
  have HK := Lib.hid hk'; have HLED := Lib.hid hled; have HIH := Lib.hid ih
  clear hk hk' hc hlen ht hled ih hc'
  have hsb : shapeB d (.mk k t n a l) = shapeB d (.mk k t n a l) := rfl
  generalize hsb2 : shapeB d (.mk k t n a l) = sb at *
  generalize hnk : l.length = nk at *
  have HNK := Lib.hid hnk; clear hnk hsb
  clear hsb2 hg
  have N_top := Lib.hid M_top; clear M_top
  generalize hG : goL d (deep + 1) (left - 1) l = G
  have HG := Lib.hid hG; clear hG
  generalize hb0 : (decide ((deep : Int) ≤ 60) && decide (0 ≤ left - 1) && decide (0 ≤ a)) = b0
  have HB0 := Lib.hid hb0; clear hb0
  have hcA : ∀ o : Obj, (w.alloc o).cell? ⟨L, 0, none⟩ = some (.int .i64 left) := fun o => ((HLED.out).below ((Below.refl _ _).alloc (Nat.le_refl _) o)).cell
  have hfA : ∀ o : Obj, (w.alloc o).frozen? ⟨L, 0, none⟩ = false := fun o => ((HLED.out).below ((Below.refl _ _).alloc (Nat.le_refl _) o)).frz
  go_enter Try.func23, Try.ntmps23
  go_wp2_with fail
  have hled1 := ((HLED.out).below ((Below.refl _ w).alloc (Nat.le_refl _) (.cells #[.int .u8 (k : Int), .string t, .int .i64 n, .int .i64 a, .slice p nk c, .bool d] 42))).set (left - 1)
  have hkept1 := (Kept.of (L := L) ((Below.refl _ w).alloc (Nat.le_refl _) (.cells #[.int .u8 (k : Int), .string t, .int .i64 n, .int .i64 a, .slice p nk c, .bool d] 42))).trans (Kept.set L _ (.int .i64 (left - 1)))
  have hHL : w.heap.size ≠ L := Nat.ne_of_gt (HLED.out).lt
  have hbx1 := box_kept (BoxAt.new (w := w) (v0 := .int .u8 (k : Int)) (v1 := .string t) (v2 := .int .i64 n) (v3 := .int .i64 a) (v4 := .slice p nk c) (v5 := .bool d) (T := 42)) (Kept.set L _ (.int .i64 (left - 1))) hHL
  generalize (w.alloc (.cells #[.int .u8 (k : Int), .string t, .int .i64 n, .int .i64 a, .slice p nk c, .bool d] 42)).setCell ⟨L, 0, none⟩ (.int .i64 (left - 1)) = w1 at *
  generalize hlq : left - 1 = lq at *
  have HLQ := Lib.hid hlq; clear hlq
  have HL1 := Lib.hid hled1; have HK1 := Lib.hid hkept1; have BX1 := Lib.hid hbx1
  clear hled1 hkept1 hbx1 hcA hfA
  refine wp_region_mixI (l1 := [_, _, _, _, _, _, _, _, _, _, _]) (l2 := [_]) [(0, true), (1, true), (2, true), (3, true), (4, true), (5, true), (6, true), (7, true), (8, true), (9, true), (10, false)] (fun u => Below w1.heap.size w1 u) (by kernel_rfl) (by kernel_rfl) (by repeat (first | refine loose_then ?_ | refine loose_block ?_ | exact loose_body (P := Try.prog) (fn := Try.f23))) ((Below.refl _ w1).drew) ?_
  refine mixI_take (.int .i64 (deep : Int)) rfl rfl (fun u hu => by go_simp) ?_
  refine mixI_take (.bool (decide ((deep : Int) ≤ 60))) rfl rfl (fun u hu => by go_simp) ?_
  refine mixI_take (.pointer (some ⟨L, 0, none⟩)) rfl rfl (fun u hu => by go_simp) ?_
  refine mixI_take (.pointer (some ⟨L, 0, none⟩)) rfl rfl (fun u hu => by go_simp) ?_
  refine mixI_take (.int .i64 (lq)) rfl rfl (fun u hu => by have hcc := (HL1.out.below hu).cell; go_simp) ?_
  refine mixI_take (.bool (decide (0 ≤ lq))) rfl rfl (fun u hu => by go_simp) ?_
  refine mixI_take (.pointer (some ⟨w.heap.size, 0, none⟩)) rfl rfl (fun u hu => by go_simp) ?_
  refine mixI_take (.pointer (some ⟨w.heap.size, 3, none⟩)) rfl rfl (fun u hu => by go_simp) ?_
  refine mixI_take (.int .i64 a) rfl rfl (fun u hu => by obtain ⟨k0, k1, k2, k3, k4, k5⟩ := BX1.out.below hu; go_simp) ?_
  refine mixI_take (.bool (decide (0 ≤ a))) rfl rfl (fun u hu => by go_simp) ?_
  refine mixI_go rfl rfl fun K hK => wp_val (v := .slice (some ⟨w1.drew.heap.size, 0, none⟩) 3 3) (w' := w1.drew.alloc (.cells #[.bool (decide ((deep : Int) ≤ 60)), .bool (decide (0 ≤ lq)), .bool (decide (0 ≤ a))] 4)) (by go_simp) ?_
  have hb2 : Below w1.heap.size w1 w1.drew := (Below.refl _ w1).drew
  have hb4 := hb2.alloc hb2.size (.cells #[.bool (decide ((deep : Int) ≤ 60)), .bool (decide (0 ≤ lq)), .bool (decide (0 ≤ a))] 4)
  refine hK.out _ _ hb4 ?_
  clear hK hb4
  show wpList _ _ _ _ _ _
  have NM := Lib.hid (mustA3 (decide ((deep : Int) ≤ 60)) (decide (0 ≤ lq)) (decide (0 ≤ a)) w1.drew)
  rw [HB0.out] at NM
  have HL2 := Lib.hid (HL1.out.below hb2); have HK2 := Lib.hid (HK1.out.trans (Kept.of hb2)); have BX2 := Lib.hid (BX1.out.below hb2)
  clear hb2 HL1 HK1 BX1
  generalize w1.drew = w2 at *
  go_wp2_with (first | (go_at_call 22; first | (with_reducible refine (NM.out).mono ?_; rintro e w3 ⟨rfl, hb⟩; have HL3 := Lib.hid (HL2.out.below hb); have HK3 := Lib.hid (HK2.out.trans (Kept.of hb)); have BX3 := Lib.hid (BX2.out.below hb); clear hb NM; cases b0; (· simp only [okOr_false]; exact panic_post rfl (NodePost.none HL3.out.on)); simp only [okOr_true]; obtain ⟨k0, k1, k2, k3, k4, k5⟩ := BX3.out) | (with_reducible refine (mustA1 true w4).mono ?_; rintro e w5 ⟨rfl, hb⟩; have HL5 := Lib.hid (HL4.out.below hb); have HK5 := Lib.hid (HK4.out.trans (Kept.of hb)); have BX5 := Lib.hid (BX4.out.below hb); clear hb; simp only [okOr_true]; obtain ⟨k0, k1, k2, k3, k4, k5⟩ := BX5.out)) | (go_at_call 32; go_must (with_reducible refine (N_top.out _ HL3.out.on).mono ?_; rintro e w4 ⟨rfl, hb⟩; have HL4 := Lib.hid (HL3.out.below hb); have HK4 := Lib.hid (HK3.out.trans (Kept.of hb)); have BX4 := Lib.hid (BX3.out.below hb); clear hb; cases sb; (· simp only [okB_false]; exact panic_post rfl (NodePost.none HL4.out.on)); simp only [okB_true]; obtain ⟨k0, k1, k2, k3, k4, k5⟩ := BX4.out)))
  have BX5 := Lib.hid (BoxAt.mk k0 k1 k2 k3 k4 k5)
  clear k0 k1 k2 k3 k4 k5 BX2 HL2 HK2 BX3 HL3 HK3 BX4 HL4 HK4
  have hnk2 := HNK.out
  have hlq := HLQ.out
  have hbb : (deep : Int) ≤ 60 ∧ 0 ≤ lq := by
    have h := HB0.out
    simp only [Bool.and_eq_true, decide_eq_true_eq] at h
    exact h.1
  have HBB := Lib.hid hbb; clear hbb hlq
  go_loopg [7, 45] nk (fun gk _ i wr => ∃ (q : Nat) (lf : Int), q ≤ nk ∧ gk = nk - q ∧ i = .int .i64 (q : Int) ∧ 0 ≤ lf ∧ lf ≤ 32768 ∧ G = goL d (deep + 1) lf (l.drop q) ∧ Led w0 L wr lf ∧ Kept L w5 wr)
  case atStart => exact ⟨0, lq, by omega, by omega, rfl, HBB.out.2, by have := HLQ.out; omega, HG.out.symm, HL5.out, Kept.refl _ _⟩
  case round =>
    obtain ⟨q, lf, hq, rfl, rfl, hlf0, hlf1, hab, hled, hkept⟩ := hrel
    have HAB := Lib.hid hab; have HLR := Lib.hid hled; have HKR := Lib.hid hkept
    clear hab hled hkept
    by_cases hlt : q < nk
    · have hql : q < l.length := by omega
      have hne : l ≠ [] := fun e => by rw [e] at hql; simp at hql
      rcases HK.out with h0 | ⟨g, o, rfl, hn⟩
      · exact absurd h0 hne
      obtain ⟨p', c', e1, e2, e3, e4, d0, d1, d2, d3, d4⟩ := NdAt.parts (NdsAt.get hn q hql)
      have hst : goL d (deep + 1) lf (l.drop q) = match goN d (deep + 1) lf (l[q]'hql) with | none => none | some lf' => goL d (deep + 1) lf' (l.drop (q + 1)) := by
        rw [List.drop_eq_getElem_cons hql, goL]
        rfl
      have hih := HIH.out _ (List.getElem_mem hql)
      have HST := Lib.hid hst; clear hst
      generalize l[q]'hql = y at *
      have hih2 := fun u hu => hih p' c' (deep + 1) lf u e4 e3 e2 e1 hu (by have := HBB.out; omega) hlf0 hlf1
      obtain ⟨yk, yt, yn, ya, yl⟩ := y
      unfold lookC at hih2
      simp only [Nd.kind, Nd.text, Nd.num, Nd.at_, Nd.kids] at d0 d1 d2 d3 d4 hih2
      have hdd : ((deep + 1 : Nat) : Int) = (deep : Int) + 1 := by omega
      rw [hdd] at hih2
      have HI2 := Lib.hid hih2
      have hgu : g ≠ L := fun e => by
        have h1 := World.block_lt_of_cell? _ _ d0
        have h2 := HLR.out.le
        simp only at h1; omega
      have j0 : (0 : Int) ≤ (q : Int) := by omega
      have j1 : (q : Int) < (nk : Int) := by omega
      have m0 := cell_on HLR.out.on d0; have m1 := cell_on HLR.out.on d1; have m2 := cell_on HLR.out.on d2; have m3 := cell_on HLR.out.on d3; have m4 := cell_on HLR.out.on d4
      obtain ⟨k0, k1, k2, k3, k4, k5⟩ := box_kept BX5.out HKR.out hHL
      have hbK : ∀ oo : Obj, BoxAt (wr.alloc oo) w.heap.size (.int .u8 (k : Int)) (.string t) (.int .i64 n) (.int .i64 a) (.slice (some ⟨g, o, none⟩) nk c) (.bool d) := fun oo => (box_kept BX5.out HKR.out hHL).below ((Below.refl _ _).alloc (Nat.le_refl _) oo)
      have q5 : ∀ oo : Obj, (wr.alloc oo).cell? ⟨w.heap.size, 5, none⟩ = some (.bool d) := fun oo => (hbK oo).c5
      have hlA := Lib.hid (fun oo : Obj => HLR.out.below ((Below.refl _ _).alloc (Nat.le_refl _) oo))
      have hkA := Lib.hid (fun oo : Obj => HKR.out.trans (Kept.of (L := L) ((Below.refl _ _).alloc (Nat.le_refl _) oo)))
      clear d0 d1 d2 d3 d4 hn e1 e2 e3 e4 hih hih2 hbK hne hdd
      cases hr : goN d (deep + 1) lf (.mk yk yt yn ya yl) with
      | none =>
        rw [hr] at HST HI2
        have HSN := Lib.hid (show goL d (deep + 1) lf (l.drop q) = none from HST.out)
        clear hr HST
        go_wp2_with (go_at_call 23; go_must (refine (HI2.out _ (hlA.out _)).mono ?_; rintro e w20 ⟨rfl, hb⟩; exact panic_post rfl (show NodePost w0 L w G _ _ from by rw [HAB.out, HSN.out]; exact NodePost.none hb)))
      | some lf2 =>
        have hle := goN_le hr
        rw [hr] at HST HI2
        have HSN := Lib.hid (show goL d (deep + 1) lf (l.drop q) = goL d (deep + 1) lf2 (l.drop (q + 1)) from HST.out)
        clear hr HST
        go_wp2_with (go_at_call 23; go_must (refine (HI2.out _ (hlA.out _)).mono ?_; rintro e w20 ⟨rfl, hl2, hk2⟩; have HL20 := Lib.hid hl2; have HK20 := Lib.hid ((hkA.out _).trans hk2); clear hl2 hk2))
        go_roundg (nk - (q + 1))
        case measure => omega
        case rel => exact ⟨q + 1, lf2, by omega, rfl, by go_num, hle.1, by omega, by rw [HAB.out, HSN.out], HL20.out, HK20.out⟩
    · obtain rfl : q = nk := by omega
      go_wp2
      go_end0
      refine (show NodePost w0 L w G _ _ from ?_)
      rw [HAB.out, ← HNK.out, List.drop_length, goL]
      exact NodePost.some HLR.out (HK5.out.trans HKR.out)
set_option maxRecDepth 100000 in
set_option maxHeartbeats 4000000 in
theorem node_statement {w0 : World} {L : Nat} {d : Bool} {k : Nat} {t : ByteArray} {n a : Int} {l : List Nd} {mm : Int} (hm : w0.cell? ⟨0, 0, none⟩ = some (.int .i64 mm)) (ih : ∀ y ∈ l, NodeOK w0 L d y) (hg : 9 ≤ k ∧ k ≤ 20) : NodeOK w0 L d (.mk k t n a l) := by
  intro p c deep left w hk hc hlen ht hled hdeep hl0 hl1
  rw [goN_bool]
  have hk' : KidsV w0 p l := hk
  have hc' : l.length ≤ c := hc
  have hlen' : l.length ≤ 1000000 := hlen
  have ht' : t.size ≤ 1000000000 := ht
  show Calls Try.prog 23 #[.agg #[.int .u8 (k : Int), .string t, .int .i64 n, .int .i64 a, .slice p l.length c, .bool d], .int .i64 (deep : Int), .pointer (some ⟨L, 0, none⟩)] w _
  have M_top : ∀ u, Below w0.heap.size w0 u → Calls Try.prog 32 #[.agg #[.int .u8 (k : Int), .string t, .int .i64 n, .int .i64 a, .slice p l.length c, .bool d]] u fun e w' => e = .returned (.bool false) ∧ Below u.heap.size u w' := by
    intro u hu
    have hku : KidsV u p (Nd.mk k t n a l).kids := KidsV.below hu hk'
    have h := top_any (x := .mk k t n a l) (p := p) (c := c) (d := d) hku hlen ht
    refine h.mono fun e w' h => ?_
    exact ⟨h.1.trans (if_neg (show ¬ (1 ≤ k ∧ k ≤ 8) from by (try simp [leafK, exprK] at hg); (try simp [leafK, exprK]); omega)), h.2⟩
  have M_statement : ∀ u, Below w0.heap.size w0 u → Calls Try.prog 33 #[.agg #[.int .u8 (k : Int), .string t, .int .i64 n, .int .i64 a, .slice p l.length c, .bool d]] u fun e w' => e = okB (shapeB d (.mk k t n a l)) ∧ Below u.heap.size u w' := by
    intro u hu
    have hku : KidsV u p (Nd.mk k t n a l).kids := KidsV.below hu hk'
    have h := statement_any (x := .mk k t n a l) (p := p) (c := c) (d := d) hku hlen ht hc
    refine h.mono fun e w' h => ?_
    exact ⟨h.1.trans (if_pos hg), h.2⟩
  have HK := Lib.hid hk'; have HLED := Lib.hid hled; have HIH := Lib.hid ih
  clear hk hk' hc hlen ht hled ih hc'
  have hsb : shapeB d (.mk k t n a l) = shapeB d (.mk k t n a l) := rfl
  generalize hsb2 : shapeB d (.mk k t n a l) = sb at *
  generalize hnk : l.length = nk at *
  have HNK := Lib.hid hnk; clear hnk hsb
  clear hsb2 hg
  have N_top := Lib.hid M_top; clear M_top
  have N_statement := Lib.hid M_statement; clear M_statement
  generalize hG : goL d (deep + 1) (left - 1) l = G
  have HG := Lib.hid hG; clear hG
  generalize hb0 : (decide ((deep : Int) ≤ 60) && decide (0 ≤ left - 1) && decide (0 ≤ a)) = b0
  have HB0 := Lib.hid hb0; clear hb0
  have hcA : ∀ o : Obj, (w.alloc o).cell? ⟨L, 0, none⟩ = some (.int .i64 left) := fun o => ((HLED.out).below ((Below.refl _ _).alloc (Nat.le_refl _) o)).cell
  have hfA : ∀ o : Obj, (w.alloc o).frozen? ⟨L, 0, none⟩ = false := fun o => ((HLED.out).below ((Below.refl _ _).alloc (Nat.le_refl _) o)).frz
  go_enter Try.func23, Try.ntmps23
  go_wp2_with fail
  have hled1 := ((HLED.out).below ((Below.refl _ w).alloc (Nat.le_refl _) (.cells #[.int .u8 (k : Int), .string t, .int .i64 n, .int .i64 a, .slice p nk c, .bool d] 42))).set (left - 1)
  have hkept1 := (Kept.of (L := L) ((Below.refl _ w).alloc (Nat.le_refl _) (.cells #[.int .u8 (k : Int), .string t, .int .i64 n, .int .i64 a, .slice p nk c, .bool d] 42))).trans (Kept.set L _ (.int .i64 (left - 1)))
  have hHL : w.heap.size ≠ L := Nat.ne_of_gt (HLED.out).lt
  have hbx1 := box_kept (BoxAt.new (w := w) (v0 := .int .u8 (k : Int)) (v1 := .string t) (v2 := .int .i64 n) (v3 := .int .i64 a) (v4 := .slice p nk c) (v5 := .bool d) (T := 42)) (Kept.set L _ (.int .i64 (left - 1))) hHL
  generalize (w.alloc (.cells #[.int .u8 (k : Int), .string t, .int .i64 n, .int .i64 a, .slice p nk c, .bool d] 42)).setCell ⟨L, 0, none⟩ (.int .i64 (left - 1)) = w1 at *
  generalize hlq : left - 1 = lq at *
  have HLQ := Lib.hid hlq; clear hlq
  have HL1 := Lib.hid hled1; have HK1 := Lib.hid hkept1; have BX1 := Lib.hid hbx1
  clear hled1 hkept1 hbx1 hcA hfA
  refine wp_region_mixI (l1 := [_, _, _, _, _, _, _, _, _, _, _]) (l2 := [_]) [(0, true), (1, true), (2, true), (3, true), (4, true), (5, true), (6, true), (7, true), (8, true), (9, true), (10, false)] (fun u => Below w1.heap.size w1 u) (by kernel_rfl) (by kernel_rfl) (by repeat (first | refine loose_then ?_ | refine loose_block ?_ | exact loose_body (P := Try.prog) (fn := Try.f23))) ((Below.refl _ w1).drew) ?_
  refine mixI_take (.int .i64 (deep : Int)) rfl rfl (fun u hu => by go_simp) ?_
  refine mixI_take (.bool (decide ((deep : Int) ≤ 60))) rfl rfl (fun u hu => by go_simp) ?_
  refine mixI_take (.pointer (some ⟨L, 0, none⟩)) rfl rfl (fun u hu => by go_simp) ?_
  refine mixI_take (.pointer (some ⟨L, 0, none⟩)) rfl rfl (fun u hu => by go_simp) ?_
  refine mixI_take (.int .i64 (lq)) rfl rfl (fun u hu => by have hcc := (HL1.out.below hu).cell; go_simp) ?_
  refine mixI_take (.bool (decide (0 ≤ lq))) rfl rfl (fun u hu => by go_simp) ?_
  refine mixI_take (.pointer (some ⟨w.heap.size, 0, none⟩)) rfl rfl (fun u hu => by go_simp) ?_
  refine mixI_take (.pointer (some ⟨w.heap.size, 3, none⟩)) rfl rfl (fun u hu => by go_simp) ?_
  refine mixI_take (.int .i64 a) rfl rfl (fun u hu => by obtain ⟨k0, k1, k2, k3, k4, k5⟩ := BX1.out.below hu; go_simp) ?_
  refine mixI_take (.bool (decide (0 ≤ a))) rfl rfl (fun u hu => by go_simp) ?_
  refine mixI_go rfl rfl fun K hK => wp_val (v := .slice (some ⟨w1.drew.heap.size, 0, none⟩) 3 3) (w' := w1.drew.alloc (.cells #[.bool (decide ((deep : Int) ≤ 60)), .bool (decide (0 ≤ lq)), .bool (decide (0 ≤ a))] 4)) (by go_simp) ?_
  have hb2 : Below w1.heap.size w1 w1.drew := (Below.refl _ w1).drew
  have hb4 := hb2.alloc hb2.size (.cells #[.bool (decide ((deep : Int) ≤ 60)), .bool (decide (0 ≤ lq)), .bool (decide (0 ≤ a))] 4)
  refine hK.out _ _ hb4 ?_
  clear hK hb4
  show wpList _ _ _ _ _ _
  have NM := Lib.hid (mustA3 (decide ((deep : Int) ≤ 60)) (decide (0 ≤ lq)) (decide (0 ≤ a)) w1.drew)
  rw [HB0.out] at NM
  have HL2 := Lib.hid (HL1.out.below hb2); have HK2 := Lib.hid (HK1.out.trans (Kept.of hb2)); have BX2 := Lib.hid (BX1.out.below hb2)
  clear hb2 HL1 HK1 BX1
  generalize w1.drew = w2 at *
  go_wp2_with (first | (go_at_call 22; first | (with_reducible refine (NM.out).mono ?_; rintro e w3 ⟨rfl, hb⟩; have HL3 := Lib.hid (HL2.out.below hb); have HK3 := Lib.hid (HK2.out.trans (Kept.of hb)); have BX3 := Lib.hid (BX2.out.below hb); clear hb NM; cases b0; (· simp only [okOr_false]; exact panic_post rfl (NodePost.none HL3.out.on)); simp only [okOr_true]; obtain ⟨k0, k1, k2, k3, k4, k5⟩ := BX3.out) | (with_reducible refine (mustA1 true w5).mono ?_; rintro e w6 ⟨rfl, hb⟩; have HL6 := Lib.hid (HL5.out.below hb); have HK6 := Lib.hid (HK5.out.trans (Kept.of hb)); have BX6 := Lib.hid (BX5.out.below hb); clear hb; simp only [okOr_true]; obtain ⟨k0, k1, k2, k3, k4, k5⟩ := BX6.out)) | (go_at_call 32; go_must (with_reducible refine (N_top.out _ HL3.out.on).mono ?_; rintro e w4 ⟨rfl, hb⟩; have HL4 := Lib.hid (HL3.out.below hb); have HK4 := Lib.hid (HK3.out.trans (Kept.of hb)); have BX4 := Lib.hid (BX3.out.below hb); clear hb; obtain ⟨k0, k1, k2, k3, k4, k5⟩ := BX4.out)) | (go_at_call 33; go_must (with_reducible refine (N_statement.out _ HL4.out.on).mono ?_; rintro e w5 ⟨rfl, hb⟩; have HL5 := Lib.hid (HL4.out.below hb); have HK5 := Lib.hid (HK4.out.trans (Kept.of hb)); have BX5 := Lib.hid (BX4.out.below hb); clear hb; cases sb; (· simp only [okB_false]; exact panic_post rfl (NodePost.none HL5.out.on)); simp only [okB_true]; obtain ⟨k0, k1, k2, k3, k4, k5⟩ := BX5.out)))
  have BX6 := Lib.hid (BoxAt.mk k0 k1 k2 k3 k4 k5)
  clear k0 k1 k2 k3 k4 k5 BX2 HL2 HK2 BX3 HL3 HK3 BX4 HL4 HK4 BX5 HL5 HK5
  have hnk2 := HNK.out
  have hlq := HLQ.out
  have hbb : (deep : Int) ≤ 60 ∧ 0 ≤ lq := by
    have h := HB0.out
    simp only [Bool.and_eq_true, decide_eq_true_eq] at h
    exact h.1
  have HBB := Lib.hid hbb; clear hbb hlq
  go_loopg [7, 45] nk (fun gk _ i wr => ∃ (q : Nat) (lf : Int), q ≤ nk ∧ gk = nk - q ∧ i = .int .i64 (q : Int) ∧ 0 ≤ lf ∧ lf ≤ 32768 ∧ G = goL d (deep + 1) lf (l.drop q) ∧ Led w0 L wr lf ∧ Kept L w6 wr)
  case atStart => exact ⟨0, lq, by omega, by omega, rfl, HBB.out.2, by have := HLQ.out; omega, HG.out.symm, HL6.out, Kept.refl _ _⟩
  case round =>
    obtain ⟨q, lf, hq, rfl, rfl, hlf0, hlf1, hab, hled, hkept⟩ := hrel
    have HAB := Lib.hid hab; have HLR := Lib.hid hled; have HKR := Lib.hid hkept
    clear hab hled hkept
    by_cases hlt : q < nk
    · have hql : q < l.length := by omega
      have hne : l ≠ [] := fun e => by rw [e] at hql; simp at hql
      rcases HK.out with h0 | ⟨g, o, rfl, hn⟩
      · exact absurd h0 hne
      obtain ⟨p', c', e1, e2, e3, e4, d0, d1, d2, d3, d4⟩ := NdAt.parts (NdsAt.get hn q hql)
      have hst : goL d (deep + 1) lf (l.drop q) = match goN d (deep + 1) lf (l[q]'hql) with | none => none | some lf' => goL d (deep + 1) lf' (l.drop (q + 1)) := by
        rw [List.drop_eq_getElem_cons hql, goL]
        rfl
      have hih := HIH.out _ (List.getElem_mem hql)
      have HST := Lib.hid hst; clear hst
      generalize l[q]'hql = y at *
      have hih2 := fun u hu => hih p' c' (deep + 1) lf u e4 e3 e2 e1 hu (by have := HBB.out; omega) hlf0 hlf1
      obtain ⟨yk, yt, yn, ya, yl⟩ := y
      unfold lookC at hih2
      simp only [Nd.kind, Nd.text, Nd.num, Nd.at_, Nd.kids] at d0 d1 d2 d3 d4 hih2
      have hdd : ((deep + 1 : Nat) : Int) = (deep : Int) + 1 := by omega
      rw [hdd] at hih2
      have HI2 := Lib.hid hih2
      have hgu : g ≠ L := fun e => by
        have h1 := World.block_lt_of_cell? _ _ d0
        have h2 := HLR.out.le
        simp only at h1; omega
      have j0 : (0 : Int) ≤ (q : Int) := by omega
      have j1 : (q : Int) < (nk : Int) := by omega
      have m0 := cell_on HLR.out.on d0; have m1 := cell_on HLR.out.on d1; have m2 := cell_on HLR.out.on d2; have m3 := cell_on HLR.out.on d3; have m4 := cell_on HLR.out.on d4
      obtain ⟨k0, k1, k2, k3, k4, k5⟩ := box_kept BX6.out HKR.out hHL
      have hbK : ∀ oo : Obj, BoxAt (wr.alloc oo) w.heap.size (.int .u8 (k : Int)) (.string t) (.int .i64 n) (.int .i64 a) (.slice (some ⟨g, o, none⟩) nk c) (.bool d) := fun oo => (box_kept BX6.out HKR.out hHL).below ((Below.refl _ _).alloc (Nat.le_refl _) oo)
      have q5 : ∀ oo : Obj, (wr.alloc oo).cell? ⟨w.heap.size, 5, none⟩ = some (.bool d) := fun oo => (hbK oo).c5
      have hlA := Lib.hid (fun oo : Obj => HLR.out.below ((Below.refl _ _).alloc (Nat.le_refl _) oo))
      have hkA := Lib.hid (fun oo : Obj => HKR.out.trans (Kept.of (L := L) ((Below.refl _ _).alloc (Nat.le_refl _) oo)))
      clear d0 d1 d2 d3 d4 hn e1 e2 e3 e4 hih hih2 hbK hne hdd
      cases hr : goN d (deep + 1) lf (.mk yk yt yn ya yl) with
      | none =>
        rw [hr] at HST HI2
        have HSN := Lib.hid (show goL d (deep + 1) lf (l.drop q) = none from HST.out)
        clear hr HST
        go_wp2_with (go_at_call 23; go_must (refine (HI2.out _ (hlA.out _)).mono ?_; rintro e w20 ⟨rfl, hb⟩; exact panic_post rfl (show NodePost w0 L w G _ _ from by rw [HAB.out, HSN.out]; exact NodePost.none hb)))
      | some lf2 =>
        have hle := goN_le hr
        rw [hr] at HST HI2
        have HSN := Lib.hid (show goL d (deep + 1) lf (l.drop q) = goL d (deep + 1) lf2 (l.drop (q + 1)) from HST.out)
        clear hr HST
        go_wp2_with (go_at_call 23; go_must (refine (HI2.out _ (hlA.out _)).mono ?_; rintro e w20 ⟨rfl, hl2, hk2⟩; have HL20 := Lib.hid hl2; have HK20 := Lib.hid ((hkA.out _).trans hk2); clear hl2 hk2))
        go_roundg (nk - (q + 1))
        case measure => omega
        case rel => exact ⟨q + 1, lf2, by omega, rfl, by go_num, hle.1, by omega, by rw [HAB.out, HSN.out], HL20.out, HK20.out⟩
    · obtain rfl : q = nk := by omega
      go_wp2
      go_end0
      refine (show NodePost w0 L w G _ _ from ?_)
      rw [HAB.out, ← HNK.out, List.drop_length, goL]
      exact NodePost.some HLR.out (HK6.out.trans HKR.out)
set_option maxRecDepth 100000 in
set_option maxHeartbeats 4000000 in
theorem node_leaf {w0 : World} {L : Nat} {d : Bool} {k : Nat} {t : ByteArray} {n a : Int} {l : List Nd} {mm : Int} (hm : w0.cell? ⟨0, 0, none⟩ = some (.int .i64 mm)) (ih : ∀ y ∈ l, NodeOK w0 L d y) (hg : leafK k = true) : NodeOK w0 L d (.mk k t n a l) := by
  intro p c deep left w hk hc hlen ht hled hdeep hl0 hl1
  rw [goN_bool]
  have hk' : KidsV w0 p l := hk
  have hc' : l.length ≤ c := hc
  have hlen' : l.length ≤ 1000000 := hlen
  have ht' : t.size ≤ 1000000000 := ht
  show Calls Try.prog 23 #[.agg #[.int .u8 (k : Int), .string t, .int .i64 n, .int .i64 a, .slice p l.length c, .bool d], .int .i64 (deep : Int), .pointer (some ⟨L, 0, none⟩)] w _
  have M_top : ∀ u, Below w0.heap.size w0 u → Calls Try.prog 32 #[.agg #[.int .u8 (k : Int), .string t, .int .i64 n, .int .i64 a, .slice p l.length c, .bool d]] u fun e w' => e = .returned (.bool false) ∧ Below u.heap.size u w' := by
    intro u hu
    have hku : KidsV u p (Nd.mk k t n a l).kids := KidsV.below hu hk'
    have h := top_any (x := .mk k t n a l) (p := p) (c := c) (d := d) hku hlen ht
    refine h.mono fun e w' h => ?_
    exact ⟨h.1.trans (if_neg (show ¬ (1 ≤ k ∧ k ≤ 8) from by (try simp [leafK, exprK] at hg); (try simp [leafK, exprK]); omega)), h.2⟩
  have M_statement : ∀ u, Below w0.heap.size w0 u → Calls Try.prog 33 #[.agg #[.int .u8 (k : Int), .string t, .int .i64 n, .int .i64 a, .slice p l.length c, .bool d]] u fun e w' => e = .returned (.bool false) ∧ Below u.heap.size u w' := by
    intro u hu
    have hku : KidsV u p (Nd.mk k t n a l).kids := KidsV.below hu hk'
    have h := statement_any (x := .mk k t n a l) (p := p) (c := c) (d := d) hku hlen ht hc
    refine h.mono fun e w' h => ?_
    exact ⟨h.1.trans (if_neg (show ¬ (9 ≤ k ∧ k ≤ 20) from by (try simp [leafK, exprK] at hg); (try simp [leafK, exprK]); omega)), h.2⟩
  have M_leaf : ∀ u, Below w0.heap.size w0 u → Calls Try.prog 34 #[.agg #[.int .u8 (k : Int), .string t, .int .i64 n, .int .i64 a, .slice p l.length c, .bool d]] u fun e w' => e = okB (shapeB d (.mk k t n a l)) ∧ Below u.heap.size u w' := by
    intro u hu
    have hku : KidsV u p (Nd.mk k t n a l).kids := KidsV.below hu hk'
    have h := leaf_any (x := .mk k t n a l) (p := p) (c := c) (d := d) hku hlen ht (cell_on hu hm)
    refine h.mono fun e w' h => ?_
    exact ⟨h.1.trans (if_pos hg), h.2⟩
  have HK := Lib.hid hk'; have HLED := Lib.hid hled; have HIH := Lib.hid ih
  clear hk hk' hc hlen ht hled ih hc'
  have hsb : shapeB d (.mk k t n a l) = shapeB d (.mk k t n a l) := rfl
  generalize hsb2 : shapeB d (.mk k t n a l) = sb at *
  generalize hnk : l.length = nk at *
  have HNK := Lib.hid hnk; clear hnk hsb
  clear hsb2 hg
  have N_top := Lib.hid M_top; clear M_top
  have N_statement := Lib.hid M_statement; clear M_statement
  have N_leaf := Lib.hid M_leaf; clear M_leaf
  generalize hG : goL d (deep + 1) (left - 1) l = G
  have HG := Lib.hid hG; clear hG
  generalize hb0 : (decide ((deep : Int) ≤ 60) && decide (0 ≤ left - 1) && decide (0 ≤ a)) = b0
  have HB0 := Lib.hid hb0; clear hb0
  have hcA : ∀ o : Obj, (w.alloc o).cell? ⟨L, 0, none⟩ = some (.int .i64 left) := fun o => ((HLED.out).below ((Below.refl _ _).alloc (Nat.le_refl _) o)).cell
  have hfA : ∀ o : Obj, (w.alloc o).frozen? ⟨L, 0, none⟩ = false := fun o => ((HLED.out).below ((Below.refl _ _).alloc (Nat.le_refl _) o)).frz
  go_enter Try.func23, Try.ntmps23
  go_wp2_with fail
  have hled1 := ((HLED.out).below ((Below.refl _ w).alloc (Nat.le_refl _) (.cells #[.int .u8 (k : Int), .string t, .int .i64 n, .int .i64 a, .slice p nk c, .bool d] 42))).set (left - 1)
  have hkept1 := (Kept.of (L := L) ((Below.refl _ w).alloc (Nat.le_refl _) (.cells #[.int .u8 (k : Int), .string t, .int .i64 n, .int .i64 a, .slice p nk c, .bool d] 42))).trans (Kept.set L _ (.int .i64 (left - 1)))
  have hHL : w.heap.size ≠ L := Nat.ne_of_gt (HLED.out).lt
  have hbx1 := box_kept (BoxAt.new (w := w) (v0 := .int .u8 (k : Int)) (v1 := .string t) (v2 := .int .i64 n) (v3 := .int .i64 a) (v4 := .slice p nk c) (v5 := .bool d) (T := 42)) (Kept.set L _ (.int .i64 (left - 1))) hHL
  generalize (w.alloc (.cells #[.int .u8 (k : Int), .string t, .int .i64 n, .int .i64 a, .slice p nk c, .bool d] 42)).setCell ⟨L, 0, none⟩ (.int .i64 (left - 1)) = w1 at *
  generalize hlq : left - 1 = lq at *
  have HLQ := Lib.hid hlq; clear hlq
  have HL1 := Lib.hid hled1; have HK1 := Lib.hid hkept1; have BX1 := Lib.hid hbx1
  clear hled1 hkept1 hbx1 hcA hfA
  refine wp_region_mixI (l1 := [_, _, _, _, _, _, _, _, _, _, _]) (l2 := [_]) [(0, true), (1, true), (2, true), (3, true), (4, true), (5, true), (6, true), (7, true), (8, true), (9, true), (10, false)] (fun u => Below w1.heap.size w1 u) (by kernel_rfl) (by kernel_rfl) (by repeat (first | refine loose_then ?_ | refine loose_block ?_ | exact loose_body (P := Try.prog) (fn := Try.f23))) ((Below.refl _ w1).drew) ?_
  refine mixI_take (.int .i64 (deep : Int)) rfl rfl (fun u hu => by go_simp) ?_
  refine mixI_take (.bool (decide ((deep : Int) ≤ 60))) rfl rfl (fun u hu => by go_simp) ?_
  refine mixI_take (.pointer (some ⟨L, 0, none⟩)) rfl rfl (fun u hu => by go_simp) ?_
  refine mixI_take (.pointer (some ⟨L, 0, none⟩)) rfl rfl (fun u hu => by go_simp) ?_
  refine mixI_take (.int .i64 (lq)) rfl rfl (fun u hu => by have hcc := (HL1.out.below hu).cell; go_simp) ?_
  refine mixI_take (.bool (decide (0 ≤ lq))) rfl rfl (fun u hu => by go_simp) ?_
  refine mixI_take (.pointer (some ⟨w.heap.size, 0, none⟩)) rfl rfl (fun u hu => by go_simp) ?_
  refine mixI_take (.pointer (some ⟨w.heap.size, 3, none⟩)) rfl rfl (fun u hu => by go_simp) ?_
  refine mixI_take (.int .i64 a) rfl rfl (fun u hu => by obtain ⟨k0, k1, k2, k3, k4, k5⟩ := BX1.out.below hu; go_simp) ?_
  refine mixI_take (.bool (decide (0 ≤ a))) rfl rfl (fun u hu => by go_simp) ?_
  refine mixI_go rfl rfl fun K hK => wp_val (v := .slice (some ⟨w1.drew.heap.size, 0, none⟩) 3 3) (w' := w1.drew.alloc (.cells #[.bool (decide ((deep : Int) ≤ 60)), .bool (decide (0 ≤ lq)), .bool (decide (0 ≤ a))] 4)) (by go_simp) ?_
  have hb2 : Below w1.heap.size w1 w1.drew := (Below.refl _ w1).drew
  have hb4 := hb2.alloc hb2.size (.cells #[.bool (decide ((deep : Int) ≤ 60)), .bool (decide (0 ≤ lq)), .bool (decide (0 ≤ a))] 4)
  refine hK.out _ _ hb4 ?_
  clear hK hb4
  show wpList _ _ _ _ _ _
  have NM := Lib.hid (mustA3 (decide ((deep : Int) ≤ 60)) (decide (0 ≤ lq)) (decide (0 ≤ a)) w1.drew)
  rw [HB0.out] at NM
  have HL2 := Lib.hid (HL1.out.below hb2); have HK2 := Lib.hid (HK1.out.trans (Kept.of hb2)); have BX2 := Lib.hid (BX1.out.below hb2)
  clear hb2 HL1 HK1 BX1
  generalize w1.drew = w2 at *
  go_wp2_with (first | (go_at_call 22; first | (with_reducible refine (NM.out).mono ?_; rintro e w3 ⟨rfl, hb⟩; have HL3 := Lib.hid (HL2.out.below hb); have HK3 := Lib.hid (HK2.out.trans (Kept.of hb)); have BX3 := Lib.hid (BX2.out.below hb); clear hb NM; cases b0; (· simp only [okOr_false]; exact panic_post rfl (NodePost.none HL3.out.on)); simp only [okOr_true]; obtain ⟨k0, k1, k2, k3, k4, k5⟩ := BX3.out) | (with_reducible refine (mustA1 true w6).mono ?_; rintro e w7 ⟨rfl, hb⟩; have HL7 := Lib.hid (HL6.out.below hb); have HK7 := Lib.hid (HK6.out.trans (Kept.of hb)); have BX7 := Lib.hid (BX6.out.below hb); clear hb; simp only [okOr_true]; obtain ⟨k0, k1, k2, k3, k4, k5⟩ := BX7.out)) | (go_at_call 32; go_must (with_reducible refine (N_top.out _ HL3.out.on).mono ?_; rintro e w4 ⟨rfl, hb⟩; have HL4 := Lib.hid (HL3.out.below hb); have HK4 := Lib.hid (HK3.out.trans (Kept.of hb)); have BX4 := Lib.hid (BX3.out.below hb); clear hb; obtain ⟨k0, k1, k2, k3, k4, k5⟩ := BX4.out)) | (go_at_call 33; go_must (with_reducible refine (N_statement.out _ HL4.out.on).mono ?_; rintro e w5 ⟨rfl, hb⟩; have HL5 := Lib.hid (HL4.out.below hb); have HK5 := Lib.hid (HK4.out.trans (Kept.of hb)); have BX5 := Lib.hid (BX4.out.below hb); clear hb; obtain ⟨k0, k1, k2, k3, k4, k5⟩ := BX5.out)) | (go_at_call 34; go_must (with_reducible refine (N_leaf.out _ HL5.out.on).mono ?_; rintro e w6 ⟨rfl, hb⟩; have HL6 := Lib.hid (HL5.out.below hb); have HK6 := Lib.hid (HK5.out.trans (Kept.of hb)); have BX6 := Lib.hid (BX5.out.below hb); clear hb; cases sb; (· simp only [okB_false]; exact panic_post rfl (NodePost.none HL6.out.on)); simp only [okB_true]; obtain ⟨k0, k1, k2, k3, k4, k5⟩ := BX6.out)))
  have BX7 := Lib.hid (BoxAt.mk k0 k1 k2 k3 k4 k5)
  clear k0 k1 k2 k3 k4 k5 BX2 HL2 HK2 BX3 HL3 HK3 BX4 HL4 HK4 BX5 HL5 HK5 BX6 HL6 HK6
  have hnk2 := HNK.out
  have hlq := HLQ.out
  have hbb : (deep : Int) ≤ 60 ∧ 0 ≤ lq := by
    have h := HB0.out
    simp only [Bool.and_eq_true, decide_eq_true_eq] at h
    exact h.1
  have HBB := Lib.hid hbb; clear hbb hlq
  go_loopg [7, 45] nk (fun gk _ i wr => ∃ (q : Nat) (lf : Int), q ≤ nk ∧ gk = nk - q ∧ i = .int .i64 (q : Int) ∧ 0 ≤ lf ∧ lf ≤ 32768 ∧ G = goL d (deep + 1) lf (l.drop q) ∧ Led w0 L wr lf ∧ Kept L w7 wr)
  case atStart => exact ⟨0, lq, by omega, by omega, rfl, HBB.out.2, by have := HLQ.out; omega, HG.out.symm, HL7.out, Kept.refl _ _⟩
  case round =>
    obtain ⟨q, lf, hq, rfl, rfl, hlf0, hlf1, hab, hled, hkept⟩ := hrel
    have HAB := Lib.hid hab; have HLR := Lib.hid hled; have HKR := Lib.hid hkept
    clear hab hled hkept
    by_cases hlt : q < nk
    · have hql : q < l.length := by omega
      have hne : l ≠ [] := fun e => by rw [e] at hql; simp at hql
      rcases HK.out with h0 | ⟨g, o, rfl, hn⟩
      · exact absurd h0 hne
      obtain ⟨p', c', e1, e2, e3, e4, d0, d1, d2, d3, d4⟩ := NdAt.parts (NdsAt.get hn q hql)
      have hst : goL d (deep + 1) lf (l.drop q) = match goN d (deep + 1) lf (l[q]'hql) with | none => none | some lf' => goL d (deep + 1) lf' (l.drop (q + 1)) := by
        rw [List.drop_eq_getElem_cons hql, goL]
        rfl
      have hih := HIH.out _ (List.getElem_mem hql)
      have HST := Lib.hid hst; clear hst
      generalize l[q]'hql = y at *
      have hih2 := fun u hu => hih p' c' (deep + 1) lf u e4 e3 e2 e1 hu (by have := HBB.out; omega) hlf0 hlf1
      obtain ⟨yk, yt, yn, ya, yl⟩ := y
      unfold lookC at hih2
      simp only [Nd.kind, Nd.text, Nd.num, Nd.at_, Nd.kids] at d0 d1 d2 d3 d4 hih2
      have hdd : ((deep + 1 : Nat) : Int) = (deep : Int) + 1 := by omega
      rw [hdd] at hih2
      have HI2 := Lib.hid hih2
      have hgu : g ≠ L := fun e => by
        have h1 := World.block_lt_of_cell? _ _ d0
        have h2 := HLR.out.le
        simp only at h1; omega
      have j0 : (0 : Int) ≤ (q : Int) := by omega
      have j1 : (q : Int) < (nk : Int) := by omega
      have m0 := cell_on HLR.out.on d0; have m1 := cell_on HLR.out.on d1; have m2 := cell_on HLR.out.on d2; have m3 := cell_on HLR.out.on d3; have m4 := cell_on HLR.out.on d4
      obtain ⟨k0, k1, k2, k3, k4, k5⟩ := box_kept BX7.out HKR.out hHL
      have hbK : ∀ oo : Obj, BoxAt (wr.alloc oo) w.heap.size (.int .u8 (k : Int)) (.string t) (.int .i64 n) (.int .i64 a) (.slice (some ⟨g, o, none⟩) nk c) (.bool d) := fun oo => (box_kept BX7.out HKR.out hHL).below ((Below.refl _ _).alloc (Nat.le_refl _) oo)
      have q5 : ∀ oo : Obj, (wr.alloc oo).cell? ⟨w.heap.size, 5, none⟩ = some (.bool d) := fun oo => (hbK oo).c5
      have hlA := Lib.hid (fun oo : Obj => HLR.out.below ((Below.refl _ _).alloc (Nat.le_refl _) oo))
      have hkA := Lib.hid (fun oo : Obj => HKR.out.trans (Kept.of (L := L) ((Below.refl _ _).alloc (Nat.le_refl _) oo)))
      clear d0 d1 d2 d3 d4 hn e1 e2 e3 e4 hih hih2 hbK hne hdd
      cases hr : goN d (deep + 1) lf (.mk yk yt yn ya yl) with
      | none =>
        rw [hr] at HST HI2
        have HSN := Lib.hid (show goL d (deep + 1) lf (l.drop q) = none from HST.out)
        clear hr HST
        go_wp2_with (go_at_call 23; go_must (refine (HI2.out _ (hlA.out _)).mono ?_; rintro e w20 ⟨rfl, hb⟩; exact panic_post rfl (show NodePost w0 L w G _ _ from by rw [HAB.out, HSN.out]; exact NodePost.none hb)))
      | some lf2 =>
        have hle := goN_le hr
        rw [hr] at HST HI2
        have HSN := Lib.hid (show goL d (deep + 1) lf (l.drop q) = goL d (deep + 1) lf2 (l.drop (q + 1)) from HST.out)
        clear hr HST
        go_wp2_with (go_at_call 23; go_must (refine (HI2.out _ (hlA.out _)).mono ?_; rintro e w20 ⟨rfl, hl2, hk2⟩; have HL20 := Lib.hid hl2; have HK20 := Lib.hid ((hkA.out _).trans hk2); clear hl2 hk2))
        go_roundg (nk - (q + 1))
        case measure => omega
        case rel => exact ⟨q + 1, lf2, by omega, rfl, by go_num, hle.1, by omega, by rw [HAB.out, HSN.out], HL20.out, HK20.out⟩
    · obtain rfl : q = nk := by omega
      go_wp2
      go_end0
      refine (show NodePost w0 L w G _ _ from ?_)
      rw [HAB.out, ← HNK.out, List.drop_length, goL]
      exact NodePost.some HLR.out (HK7.out.trans HKR.out)
set_option maxRecDepth 100000 in
set_option maxHeartbeats 4000000 in
theorem node_expression {w0 : World} {L : Nat} {d : Bool} {k : Nat} {t : ByteArray} {n a : Int} {l : List Nd} {mm : Int} (hm : w0.cell? ⟨0, 0, none⟩ = some (.int .i64 mm)) (ih : ∀ y ∈ l, NodeOK w0 L d y) (hg : exprK k = true) : NodeOK w0 L d (.mk k t n a l) := by
  intro p c deep left w hk hc hlen ht hled hdeep hl0 hl1
  rw [goN_bool]
  have hk' : KidsV w0 p l := hk
  have hc' : l.length ≤ c := hc
  have hlen' : l.length ≤ 1000000 := hlen
  have ht' : t.size ≤ 1000000000 := ht
  show Calls Try.prog 23 #[.agg #[.int .u8 (k : Int), .string t, .int .i64 n, .int .i64 a, .slice p l.length c, .bool d], .int .i64 (deep : Int), .pointer (some ⟨L, 0, none⟩)] w _
  have M_top : ∀ u, Below w0.heap.size w0 u → Calls Try.prog 32 #[.agg #[.int .u8 (k : Int), .string t, .int .i64 n, .int .i64 a, .slice p l.length c, .bool d]] u fun e w' => e = .returned (.bool false) ∧ Below u.heap.size u w' := by
    intro u hu
    have hku : KidsV u p (Nd.mk k t n a l).kids := KidsV.below hu hk'
    have h := top_any (x := .mk k t n a l) (p := p) (c := c) (d := d) hku hlen ht
    refine h.mono fun e w' h => ?_
    exact ⟨h.1.trans (if_neg (show ¬ (1 ≤ k ∧ k ≤ 8) from by (try simp [leafK, exprK] at hg); (try simp [leafK, exprK]); omega)), h.2⟩
  have M_statement : ∀ u, Below w0.heap.size w0 u → Calls Try.prog 33 #[.agg #[.int .u8 (k : Int), .string t, .int .i64 n, .int .i64 a, .slice p l.length c, .bool d]] u fun e w' => e = .returned (.bool false) ∧ Below u.heap.size u w' := by
    intro u hu
    have hku : KidsV u p (Nd.mk k t n a l).kids := KidsV.below hu hk'
    have h := statement_any (x := .mk k t n a l) (p := p) (c := c) (d := d) hku hlen ht hc
    refine h.mono fun e w' h => ?_
    exact ⟨h.1.trans (if_neg (show ¬ (9 ≤ k ∧ k ≤ 20) from by (try simp [leafK, exprK] at hg); (try simp [leafK, exprK]); omega)), h.2⟩
  have M_leaf : ∀ u, Below w0.heap.size w0 u → Calls Try.prog 34 #[.agg #[.int .u8 (k : Int), .string t, .int .i64 n, .int .i64 a, .slice p l.length c, .bool d]] u fun e w' => e = .returned (.bool false) ∧ Below u.heap.size u w' := by
    intro u hu
    have hku : KidsV u p (Nd.mk k t n a l).kids := KidsV.below hu hk'
    have h := leaf_any (x := .mk k t n a l) (p := p) (c := c) (d := d) hku hlen ht (cell_on hu hm)
    refine h.mono fun e w' h => ?_
    exact ⟨h.1.trans (if_neg (show ¬ (leafK k = true) from by (try simp [leafK, exprK] at hg); (try simp [leafK, exprK]); omega)), h.2⟩
  have M_expression : ∀ u, Below w0.heap.size w0 u → Calls Try.prog 35 #[.agg #[.int .u8 (k : Int), .string t, .int .i64 n, .int .i64 a, .slice p l.length c, .bool d]] u fun e w' => e = okB (shapeB d (.mk k t n a l)) ∧ Below u.heap.size u w' := by
    intro u hu
    have hku : KidsV u p (Nd.mk k t n a l).kids := KidsV.below hu hk'
    have h := expression_any (x := .mk k t n a l) (p := p) (c := c) (d := d) hku hlen ht
    refine h.mono fun e w' h => ?_
    exact ⟨h.1.trans (if_pos hg), h.2⟩
  have HK := Lib.hid hk'; have HLED := Lib.hid hled; have HIH := Lib.hid ih
  clear hk hk' hc hlen ht hled ih hc'
  have hsb : shapeB d (.mk k t n a l) = shapeB d (.mk k t n a l) := rfl
  generalize hsb2 : shapeB d (.mk k t n a l) = sb at *
  generalize hnk : l.length = nk at *
  have HNK := Lib.hid hnk; clear hnk hsb
  clear hsb2 hg
  have N_top := Lib.hid M_top; clear M_top
  have N_statement := Lib.hid M_statement; clear M_statement
  have N_leaf := Lib.hid M_leaf; clear M_leaf
  have N_expression := Lib.hid M_expression; clear M_expression
  generalize hG : goL d (deep + 1) (left - 1) l = G
  have HG := Lib.hid hG; clear hG
  generalize hb0 : (decide ((deep : Int) ≤ 60) && decide (0 ≤ left - 1) && decide (0 ≤ a)) = b0
  have HB0 := Lib.hid hb0; clear hb0
  have hcA : ∀ o : Obj, (w.alloc o).cell? ⟨L, 0, none⟩ = some (.int .i64 left) := fun o => ((HLED.out).below ((Below.refl _ _).alloc (Nat.le_refl _) o)).cell
  have hfA : ∀ o : Obj, (w.alloc o).frozen? ⟨L, 0, none⟩ = false := fun o => ((HLED.out).below ((Below.refl _ _).alloc (Nat.le_refl _) o)).frz
  go_enter Try.func23, Try.ntmps23
  go_wp2_with fail
  have hled1 := ((HLED.out).below ((Below.refl _ w).alloc (Nat.le_refl _) (.cells #[.int .u8 (k : Int), .string t, .int .i64 n, .int .i64 a, .slice p nk c, .bool d] 42))).set (left - 1)
  have hkept1 := (Kept.of (L := L) ((Below.refl _ w).alloc (Nat.le_refl _) (.cells #[.int .u8 (k : Int), .string t, .int .i64 n, .int .i64 a, .slice p nk c, .bool d] 42))).trans (Kept.set L _ (.int .i64 (left - 1)))
  have hHL : w.heap.size ≠ L := Nat.ne_of_gt (HLED.out).lt
  have hbx1 := box_kept (BoxAt.new (w := w) (v0 := .int .u8 (k : Int)) (v1 := .string t) (v2 := .int .i64 n) (v3 := .int .i64 a) (v4 := .slice p nk c) (v5 := .bool d) (T := 42)) (Kept.set L _ (.int .i64 (left - 1))) hHL
  generalize (w.alloc (.cells #[.int .u8 (k : Int), .string t, .int .i64 n, .int .i64 a, .slice p nk c, .bool d] 42)).setCell ⟨L, 0, none⟩ (.int .i64 (left - 1)) = w1 at *
  generalize hlq : left - 1 = lq at *
  have HLQ := Lib.hid hlq; clear hlq
  have HL1 := Lib.hid hled1; have HK1 := Lib.hid hkept1; have BX1 := Lib.hid hbx1
  clear hled1 hkept1 hbx1 hcA hfA
  refine wp_region_mixI (l1 := [_, _, _, _, _, _, _, _, _, _, _]) (l2 := [_]) [(0, true), (1, true), (2, true), (3, true), (4, true), (5, true), (6, true), (7, true), (8, true), (9, true), (10, false)] (fun u => Below w1.heap.size w1 u) (by kernel_rfl) (by kernel_rfl) (by repeat (first | refine loose_then ?_ | refine loose_block ?_ | exact loose_body (P := Try.prog) (fn := Try.f23))) ((Below.refl _ w1).drew) ?_
  refine mixI_take (.int .i64 (deep : Int)) rfl rfl (fun u hu => by go_simp) ?_
  refine mixI_take (.bool (decide ((deep : Int) ≤ 60))) rfl rfl (fun u hu => by go_simp) ?_
  refine mixI_take (.pointer (some ⟨L, 0, none⟩)) rfl rfl (fun u hu => by go_simp) ?_
  refine mixI_take (.pointer (some ⟨L, 0, none⟩)) rfl rfl (fun u hu => by go_simp) ?_
  refine mixI_take (.int .i64 (lq)) rfl rfl (fun u hu => by have hcc := (HL1.out.below hu).cell; go_simp) ?_
  refine mixI_take (.bool (decide (0 ≤ lq))) rfl rfl (fun u hu => by go_simp) ?_
  refine mixI_take (.pointer (some ⟨w.heap.size, 0, none⟩)) rfl rfl (fun u hu => by go_simp) ?_
  refine mixI_take (.pointer (some ⟨w.heap.size, 3, none⟩)) rfl rfl (fun u hu => by go_simp) ?_
  refine mixI_take (.int .i64 a) rfl rfl (fun u hu => by obtain ⟨k0, k1, k2, k3, k4, k5⟩ := BX1.out.below hu; go_simp) ?_
  refine mixI_take (.bool (decide (0 ≤ a))) rfl rfl (fun u hu => by go_simp) ?_
  refine mixI_go rfl rfl fun K hK => wp_val (v := .slice (some ⟨w1.drew.heap.size, 0, none⟩) 3 3) (w' := w1.drew.alloc (.cells #[.bool (decide ((deep : Int) ≤ 60)), .bool (decide (0 ≤ lq)), .bool (decide (0 ≤ a))] 4)) (by go_simp) ?_
  have hb2 : Below w1.heap.size w1 w1.drew := (Below.refl _ w1).drew
  have hb4 := hb2.alloc hb2.size (.cells #[.bool (decide ((deep : Int) ≤ 60)), .bool (decide (0 ≤ lq)), .bool (decide (0 ≤ a))] 4)
  refine hK.out _ _ hb4 ?_
  clear hK hb4
  show wpList _ _ _ _ _ _
  have NM := Lib.hid (mustA3 (decide ((deep : Int) ≤ 60)) (decide (0 ≤ lq)) (decide (0 ≤ a)) w1.drew)
  rw [HB0.out] at NM
  have HL2 := Lib.hid (HL1.out.below hb2); have HK2 := Lib.hid (HK1.out.trans (Kept.of hb2)); have BX2 := Lib.hid (BX1.out.below hb2)
  clear hb2 HL1 HK1 BX1
  generalize w1.drew = w2 at *
  go_wp2_with (first | (go_at_call 22; first | (with_reducible refine (NM.out).mono ?_; rintro e w3 ⟨rfl, hb⟩; have HL3 := Lib.hid (HL2.out.below hb); have HK3 := Lib.hid (HK2.out.trans (Kept.of hb)); have BX3 := Lib.hid (BX2.out.below hb); clear hb NM; cases b0; (· simp only [okOr_false]; exact panic_post rfl (NodePost.none HL3.out.on)); simp only [okOr_true]; obtain ⟨k0, k1, k2, k3, k4, k5⟩ := BX3.out) | (with_reducible refine (mustA1 true w7).mono ?_; rintro e w8 ⟨rfl, hb⟩; have HL8 := Lib.hid (HL7.out.below hb); have HK8 := Lib.hid (HK7.out.trans (Kept.of hb)); have BX8 := Lib.hid (BX7.out.below hb); clear hb; simp only [okOr_true]; obtain ⟨k0, k1, k2, k3, k4, k5⟩ := BX8.out)) | (go_at_call 32; go_must (with_reducible refine (N_top.out _ HL3.out.on).mono ?_; rintro e w4 ⟨rfl, hb⟩; have HL4 := Lib.hid (HL3.out.below hb); have HK4 := Lib.hid (HK3.out.trans (Kept.of hb)); have BX4 := Lib.hid (BX3.out.below hb); clear hb; obtain ⟨k0, k1, k2, k3, k4, k5⟩ := BX4.out)) | (go_at_call 33; go_must (with_reducible refine (N_statement.out _ HL4.out.on).mono ?_; rintro e w5 ⟨rfl, hb⟩; have HL5 := Lib.hid (HL4.out.below hb); have HK5 := Lib.hid (HK4.out.trans (Kept.of hb)); have BX5 := Lib.hid (BX4.out.below hb); clear hb; obtain ⟨k0, k1, k2, k3, k4, k5⟩ := BX5.out)) | (go_at_call 34; go_must (with_reducible refine (N_leaf.out _ HL5.out.on).mono ?_; rintro e w6 ⟨rfl, hb⟩; have HL6 := Lib.hid (HL5.out.below hb); have HK6 := Lib.hid (HK5.out.trans (Kept.of hb)); have BX6 := Lib.hid (BX5.out.below hb); clear hb; obtain ⟨k0, k1, k2, k3, k4, k5⟩ := BX6.out)) | (go_at_call 35; go_must (with_reducible refine (N_expression.out _ HL6.out.on).mono ?_; rintro e w7 ⟨rfl, hb⟩; have HL7 := Lib.hid (HL6.out.below hb); have HK7 := Lib.hid (HK6.out.trans (Kept.of hb)); have BX7 := Lib.hid (BX6.out.below hb); clear hb; cases sb; (· simp only [okB_false]; exact panic_post rfl (NodePost.none HL7.out.on)); simp only [okB_true]; obtain ⟨k0, k1, k2, k3, k4, k5⟩ := BX7.out)))
  have BX8 := Lib.hid (BoxAt.mk k0 k1 k2 k3 k4 k5)
  clear k0 k1 k2 k3 k4 k5 BX2 HL2 HK2 BX3 HL3 HK3 BX4 HL4 HK4 BX5 HL5 HK5 BX6 HL6 HK6 BX7 HL7 HK7
  have hnk2 := HNK.out
  have hlq := HLQ.out
  have hbb : (deep : Int) ≤ 60 ∧ 0 ≤ lq := by
    have h := HB0.out
    simp only [Bool.and_eq_true, decide_eq_true_eq] at h
    exact h.1
  have HBB := Lib.hid hbb; clear hbb hlq
  go_loopg [7, 45] nk (fun gk _ i wr => ∃ (q : Nat) (lf : Int), q ≤ nk ∧ gk = nk - q ∧ i = .int .i64 (q : Int) ∧ 0 ≤ lf ∧ lf ≤ 32768 ∧ G = goL d (deep + 1) lf (l.drop q) ∧ Led w0 L wr lf ∧ Kept L w8 wr)
  case atStart => exact ⟨0, lq, by omega, by omega, rfl, HBB.out.2, by have := HLQ.out; omega, HG.out.symm, HL8.out, Kept.refl _ _⟩
  case round =>
    obtain ⟨q, lf, hq, rfl, rfl, hlf0, hlf1, hab, hled, hkept⟩ := hrel
    have HAB := Lib.hid hab; have HLR := Lib.hid hled; have HKR := Lib.hid hkept
    clear hab hled hkept
    by_cases hlt : q < nk
    · have hql : q < l.length := by omega
      have hne : l ≠ [] := fun e => by rw [e] at hql; simp at hql
      rcases HK.out with h0 | ⟨g, o, rfl, hn⟩
      · exact absurd h0 hne
      obtain ⟨p', c', e1, e2, e3, e4, d0, d1, d2, d3, d4⟩ := NdAt.parts (NdsAt.get hn q hql)
      have hst : goL d (deep + 1) lf (l.drop q) = match goN d (deep + 1) lf (l[q]'hql) with | none => none | some lf' => goL d (deep + 1) lf' (l.drop (q + 1)) := by
        rw [List.drop_eq_getElem_cons hql, goL]
        rfl
      have hih := HIH.out _ (List.getElem_mem hql)
      have HST := Lib.hid hst; clear hst
      generalize l[q]'hql = y at *
      have hih2 := fun u hu => hih p' c' (deep + 1) lf u e4 e3 e2 e1 hu (by have := HBB.out; omega) hlf0 hlf1
      obtain ⟨yk, yt, yn, ya, yl⟩ := y
      unfold lookC at hih2
      simp only [Nd.kind, Nd.text, Nd.num, Nd.at_, Nd.kids] at d0 d1 d2 d3 d4 hih2
      have hdd : ((deep + 1 : Nat) : Int) = (deep : Int) + 1 := by omega
      rw [hdd] at hih2
      have HI2 := Lib.hid hih2
      have hgu : g ≠ L := fun e => by
        have h1 := World.block_lt_of_cell? _ _ d0
        have h2 := HLR.out.le
        simp only at h1; omega
      have j0 : (0 : Int) ≤ (q : Int) := by omega
      have j1 : (q : Int) < (nk : Int) := by omega
      have m0 := cell_on HLR.out.on d0; have m1 := cell_on HLR.out.on d1; have m2 := cell_on HLR.out.on d2; have m3 := cell_on HLR.out.on d3; have m4 := cell_on HLR.out.on d4
      obtain ⟨k0, k1, k2, k3, k4, k5⟩ := box_kept BX8.out HKR.out hHL
      have hbK : ∀ oo : Obj, BoxAt (wr.alloc oo) w.heap.size (.int .u8 (k : Int)) (.string t) (.int .i64 n) (.int .i64 a) (.slice (some ⟨g, o, none⟩) nk c) (.bool d) := fun oo => (box_kept BX8.out HKR.out hHL).below ((Below.refl _ _).alloc (Nat.le_refl _) oo)
      have q5 : ∀ oo : Obj, (wr.alloc oo).cell? ⟨w.heap.size, 5, none⟩ = some (.bool d) := fun oo => (hbK oo).c5
      have hlA := Lib.hid (fun oo : Obj => HLR.out.below ((Below.refl _ _).alloc (Nat.le_refl _) oo))
      have hkA := Lib.hid (fun oo : Obj => HKR.out.trans (Kept.of (L := L) ((Below.refl _ _).alloc (Nat.le_refl _) oo)))
      clear d0 d1 d2 d3 d4 hn e1 e2 e3 e4 hih hih2 hbK hne hdd
      cases hr : goN d (deep + 1) lf (.mk yk yt yn ya yl) with
      | none =>
        rw [hr] at HST HI2
        have HSN := Lib.hid (show goL d (deep + 1) lf (l.drop q) = none from HST.out)
        clear hr HST
        go_wp2_with (go_at_call 23; go_must (refine (HI2.out _ (hlA.out _)).mono ?_; rintro e w20 ⟨rfl, hb⟩; exact panic_post rfl (show NodePost w0 L w G _ _ from by rw [HAB.out, HSN.out]; exact NodePost.none hb)))
      | some lf2 =>
        have hle := goN_le hr
        rw [hr] at HST HI2
        have HSN := Lib.hid (show goL d (deep + 1) lf (l.drop q) = goL d (deep + 1) lf2 (l.drop (q + 1)) from HST.out)
        clear hr HST
        go_wp2_with (go_at_call 23; go_must (refine (HI2.out _ (hlA.out _)).mono ?_; rintro e w20 ⟨rfl, hl2, hk2⟩; have HL20 := Lib.hid hl2; have HK20 := Lib.hid ((hkA.out _).trans hk2); clear hl2 hk2))
        go_roundg (nk - (q + 1))
        case measure => omega
        case rel => exact ⟨q + 1, lf2, by omega, rfl, by go_num, hle.1, by omega, by rw [HAB.out, HSN.out], HL20.out, HK20.out⟩
    · obtain rfl : q = nk := by omega
      go_wp2
      go_end0
      refine (show NodePost w0 L w G _ _ from ?_)
      rw [HAB.out, ← HNK.out, List.drop_length, goL]
      exact NodePost.some HLR.out (HK8.out.trans HKR.out)
set_option maxRecDepth 100000 in
set_option maxHeartbeats 4000000 in
theorem node_none {w0 : World} {L : Nat} {d : Bool} {k : Nat} {t : ByteArray} {n a : Int} {l : List Nd} {mm : Int} (hm : w0.cell? ⟨0, 0, none⟩ = some (.int .i64 mm)) (ih : ∀ y ∈ l, NodeOK w0 L d y) (hg : k = 0 ∨ 36 ≤ k) : NodeOK w0 L d (.mk k t n a l) := by
  intro p c deep left w hk hc hlen ht hled hdeep hl0 hl1
  rw [goN_bool]
  have hk' : KidsV w0 p l := hk
  have hc' : l.length ≤ c := hc
  have hlen' : l.length ≤ 1000000 := hlen
  have ht' : t.size ≤ 1000000000 := ht
  show Calls Try.prog 23 #[.agg #[.int .u8 (k : Int), .string t, .int .i64 n, .int .i64 a, .slice p l.length c, .bool d], .int .i64 (deep : Int), .pointer (some ⟨L, 0, none⟩)] w _
  have M_top : ∀ u, Below w0.heap.size w0 u → Calls Try.prog 32 #[.agg #[.int .u8 (k : Int), .string t, .int .i64 n, .int .i64 a, .slice p l.length c, .bool d]] u fun e w' => e = .returned (.bool false) ∧ Below u.heap.size u w' := by
    intro u hu
    have hku : KidsV u p (Nd.mk k t n a l).kids := KidsV.below hu hk'
    have h := top_any (x := .mk k t n a l) (p := p) (c := c) (d := d) hku hlen ht
    refine h.mono fun e w' h => ?_
    exact ⟨h.1.trans (if_neg (show ¬ (1 ≤ k ∧ k ≤ 8) from by (try simp [leafK, exprK] at hg); (try simp [leafK, exprK]); omega)), h.2⟩
  have M_statement : ∀ u, Below w0.heap.size w0 u → Calls Try.prog 33 #[.agg #[.int .u8 (k : Int), .string t, .int .i64 n, .int .i64 a, .slice p l.length c, .bool d]] u fun e w' => e = .returned (.bool false) ∧ Below u.heap.size u w' := by
    intro u hu
    have hku : KidsV u p (Nd.mk k t n a l).kids := KidsV.below hu hk'
    have h := statement_any (x := .mk k t n a l) (p := p) (c := c) (d := d) hku hlen ht hc
    refine h.mono fun e w' h => ?_
    exact ⟨h.1.trans (if_neg (show ¬ (9 ≤ k ∧ k ≤ 20) from by (try simp [leafK, exprK] at hg); (try simp [leafK, exprK]); omega)), h.2⟩
  have M_leaf : ∀ u, Below w0.heap.size w0 u → Calls Try.prog 34 #[.agg #[.int .u8 (k : Int), .string t, .int .i64 n, .int .i64 a, .slice p l.length c, .bool d]] u fun e w' => e = .returned (.bool false) ∧ Below u.heap.size u w' := by
    intro u hu
    have hku : KidsV u p (Nd.mk k t n a l).kids := KidsV.below hu hk'
    have h := leaf_any (x := .mk k t n a l) (p := p) (c := c) (d := d) hku hlen ht (cell_on hu hm)
    refine h.mono fun e w' h => ?_
    exact ⟨h.1.trans (if_neg (show ¬ (leafK k = true) from by (try simp [leafK, exprK] at hg); (try simp [leafK, exprK]); omega)), h.2⟩
  have M_expression : ∀ u, Below w0.heap.size w0 u → Calls Try.prog 35 #[.agg #[.int .u8 (k : Int), .string t, .int .i64 n, .int .i64 a, .slice p l.length c, .bool d]] u fun e w' => e = .returned (.bool false) ∧ Below u.heap.size u w' := by
    intro u hu
    have hku : KidsV u p (Nd.mk k t n a l).kids := KidsV.below hu hk'
    have h := expression_any (x := .mk k t n a l) (p := p) (c := c) (d := d) hku hlen ht
    refine h.mono fun e w' h => ?_
    exact ⟨h.1.trans (if_neg (show ¬ (exprK k = true) from by (try simp [leafK, exprK] at hg); (try simp [leafK, exprK]); omega)), h.2⟩
  have HK := Lib.hid hk'; have HLED := Lib.hid hled; have HIH := Lib.hid ih
  clear hk hk' hc hlen ht hled ih hc'
  have hsb : shapeB d (.mk k t n a l) = shapeB d (.mk k t n a l) := rfl
  generalize hsb2 : shapeB d (.mk k t n a l) = sb at *
  generalize hnk : l.length = nk at *
  have HNK := Lib.hid hnk; clear hnk hsb
  have hsf : sb = false := by rw [← hsb2]; exact shape_not hg
  subst hsf
  clear hsb2 hg
  have N_top := Lib.hid M_top; clear M_top
  have N_statement := Lib.hid M_statement; clear M_statement
  have N_leaf := Lib.hid M_leaf; clear M_leaf
  have N_expression := Lib.hid M_expression; clear M_expression
  generalize hG : goL d (deep + 1) (left - 1) l = G
  have HG := Lib.hid hG; clear hG
  generalize hb0 : (decide ((deep : Int) ≤ 60) && decide (0 ≤ left - 1) && decide (0 ≤ a)) = b0
  have HB0 := Lib.hid hb0; clear hb0
  have hcA : ∀ o : Obj, (w.alloc o).cell? ⟨L, 0, none⟩ = some (.int .i64 left) := fun o => ((HLED.out).below ((Below.refl _ _).alloc (Nat.le_refl _) o)).cell
  have hfA : ∀ o : Obj, (w.alloc o).frozen? ⟨L, 0, none⟩ = false := fun o => ((HLED.out).below ((Below.refl _ _).alloc (Nat.le_refl _) o)).frz
  go_enter Try.func23, Try.ntmps23
  go_wp2_with fail
  have hled1 := ((HLED.out).below ((Below.refl _ w).alloc (Nat.le_refl _) (.cells #[.int .u8 (k : Int), .string t, .int .i64 n, .int .i64 a, .slice p nk c, .bool d] 42))).set (left - 1)
  have hkept1 := (Kept.of (L := L) ((Below.refl _ w).alloc (Nat.le_refl _) (.cells #[.int .u8 (k : Int), .string t, .int .i64 n, .int .i64 a, .slice p nk c, .bool d] 42))).trans (Kept.set L _ (.int .i64 (left - 1)))
  have hHL : w.heap.size ≠ L := Nat.ne_of_gt (HLED.out).lt
  have hbx1 := box_kept (BoxAt.new (w := w) (v0 := .int .u8 (k : Int)) (v1 := .string t) (v2 := .int .i64 n) (v3 := .int .i64 a) (v4 := .slice p nk c) (v5 := .bool d) (T := 42)) (Kept.set L _ (.int .i64 (left - 1))) hHL
  generalize (w.alloc (.cells #[.int .u8 (k : Int), .string t, .int .i64 n, .int .i64 a, .slice p nk c, .bool d] 42)).setCell ⟨L, 0, none⟩ (.int .i64 (left - 1)) = w1 at *
  generalize hlq : left - 1 = lq at *
  have HLQ := Lib.hid hlq; clear hlq
  have HL1 := Lib.hid hled1; have HK1 := Lib.hid hkept1; have BX1 := Lib.hid hbx1
  clear hled1 hkept1 hbx1 hcA hfA
  refine wp_region_mixI (l1 := [_, _, _, _, _, _, _, _, _, _, _]) (l2 := [_]) [(0, true), (1, true), (2, true), (3, true), (4, true), (5, true), (6, true), (7, true), (8, true), (9, true), (10, false)] (fun u => Below w1.heap.size w1 u) (by kernel_rfl) (by kernel_rfl) (by repeat (first | refine loose_then ?_ | refine loose_block ?_ | exact loose_body (P := Try.prog) (fn := Try.f23))) ((Below.refl _ w1).drew) ?_
  refine mixI_take (.int .i64 (deep : Int)) rfl rfl (fun u hu => by go_simp) ?_
  refine mixI_take (.bool (decide ((deep : Int) ≤ 60))) rfl rfl (fun u hu => by go_simp) ?_
  refine mixI_take (.pointer (some ⟨L, 0, none⟩)) rfl rfl (fun u hu => by go_simp) ?_
  refine mixI_take (.pointer (some ⟨L, 0, none⟩)) rfl rfl (fun u hu => by go_simp) ?_
  refine mixI_take (.int .i64 (lq)) rfl rfl (fun u hu => by have hcc := (HL1.out.below hu).cell; go_simp) ?_
  refine mixI_take (.bool (decide (0 ≤ lq))) rfl rfl (fun u hu => by go_simp) ?_
  refine mixI_take (.pointer (some ⟨w.heap.size, 0, none⟩)) rfl rfl (fun u hu => by go_simp) ?_
  refine mixI_take (.pointer (some ⟨w.heap.size, 3, none⟩)) rfl rfl (fun u hu => by go_simp) ?_
  refine mixI_take (.int .i64 a) rfl rfl (fun u hu => by obtain ⟨k0, k1, k2, k3, k4, k5⟩ := BX1.out.below hu; go_simp) ?_
  refine mixI_take (.bool (decide (0 ≤ a))) rfl rfl (fun u hu => by go_simp) ?_
  refine mixI_go rfl rfl fun K hK => wp_val (v := .slice (some ⟨w1.drew.heap.size, 0, none⟩) 3 3) (w' := w1.drew.alloc (.cells #[.bool (decide ((deep : Int) ≤ 60)), .bool (decide (0 ≤ lq)), .bool (decide (0 ≤ a))] 4)) (by go_simp) ?_
  have hb2 : Below w1.heap.size w1 w1.drew := (Below.refl _ w1).drew
  have hb4 := hb2.alloc hb2.size (.cells #[.bool (decide ((deep : Int) ≤ 60)), .bool (decide (0 ≤ lq)), .bool (decide (0 ≤ a))] 4)
  refine hK.out _ _ hb4 ?_
  clear hK hb4
  show wpList _ _ _ _ _ _
  have NM := Lib.hid (mustA3 (decide ((deep : Int) ≤ 60)) (decide (0 ≤ lq)) (decide (0 ≤ a)) w1.drew)
  rw [HB0.out] at NM
  have HL2 := Lib.hid (HL1.out.below hb2); have HK2 := Lib.hid (HK1.out.trans (Kept.of hb2)); have BX2 := Lib.hid (BX1.out.below hb2)
  clear hb2 HL1 HK1 BX1
  generalize w1.drew = w2 at *
  go_wp2_with (first | (go_at_call 22; first | (with_reducible refine (NM.out).mono ?_; rintro e w3 ⟨rfl, hb⟩; have HL3 := Lib.hid (HL2.out.below hb); have HK3 := Lib.hid (HK2.out.trans (Kept.of hb)); have BX3 := Lib.hid (BX2.out.below hb); clear hb NM; cases b0; (· simp only [okOr_false]; exact panic_post rfl (NodePost.none HL3.out.on)); simp only [okOr_true]; obtain ⟨k0, k1, k2, k3, k4, k5⟩ := BX3.out) | (with_reducible refine (mustA1 false w7).mono ?_; rintro e w8 ⟨rfl, hb⟩; have HL8 := Lib.hid (HL7.out.below hb); have HK8 := Lib.hid (HK7.out.trans (Kept.of hb)); have BX8 := Lib.hid (BX7.out.below hb); clear hb; simp only [okOr_false]; exact panic_post rfl (NodePost.none HL8.out.on))) | (go_at_call 32; go_must (with_reducible refine (N_top.out _ HL3.out.on).mono ?_; rintro e w4 ⟨rfl, hb⟩; have HL4 := Lib.hid (HL3.out.below hb); have HK4 := Lib.hid (HK3.out.trans (Kept.of hb)); have BX4 := Lib.hid (BX3.out.below hb); clear hb; obtain ⟨k0, k1, k2, k3, k4, k5⟩ := BX4.out)) | (go_at_call 33; go_must (with_reducible refine (N_statement.out _ HL4.out.on).mono ?_; rintro e w5 ⟨rfl, hb⟩; have HL5 := Lib.hid (HL4.out.below hb); have HK5 := Lib.hid (HK4.out.trans (Kept.of hb)); have BX5 := Lib.hid (BX4.out.below hb); clear hb; obtain ⟨k0, k1, k2, k3, k4, k5⟩ := BX5.out)) | (go_at_call 34; go_must (with_reducible refine (N_leaf.out _ HL5.out.on).mono ?_; rintro e w6 ⟨rfl, hb⟩; have HL6 := Lib.hid (HL5.out.below hb); have HK6 := Lib.hid (HK5.out.trans (Kept.of hb)); have BX6 := Lib.hid (BX5.out.below hb); clear hb; obtain ⟨k0, k1, k2, k3, k4, k5⟩ := BX6.out)) | (go_at_call 35; go_must (with_reducible refine (N_expression.out _ HL6.out.on).mono ?_; rintro e w7 ⟨rfl, hb⟩; have HL7 := Lib.hid (HL6.out.below hb); have HK7 := Lib.hid (HK6.out.trans (Kept.of hb)); have BX7 := Lib.hid (BX6.out.below hb); clear hb; obtain ⟨k0, k1, k2, k3, k4, k5⟩ := BX7.out)))
theorem node_any {w0 : World} {L : Nat} {d : Bool} {mm : Int} (hm : w0.cell? ⟨0, 0, none⟩ = some (.int .i64 mm)) : ∀ x : Nd, NodeOK w0 L d x
  | .mk k t n a l => by
    have ih : ∀ y ∈ l, NodeOK w0 L d y := fun y hy => node_any hm y
    by_cases h1 : 1 ≤ k ∧ k ≤ 8
    · exact node_top hm ih h1
    by_cases h2 : 9 ≤ k ∧ k ≤ 20
    · exact node_statement hm ih h2
    by_cases h3 : leafK k = true
    · exact node_leaf hm ih h3
    by_cases h4 : exprK k = true
    · exact node_expression hm ih h4
    exact node_none hm ih (by simp [leafK, exprK] at h3 h4; omega)
  termination_by x => SizeOf.sizeOf x
  decreasing_by have := List.sizeOf_lt_of_mem hy; simp; omega

end Go.Proofs.Ytkjpdhnibfhaaaa.NodeS
