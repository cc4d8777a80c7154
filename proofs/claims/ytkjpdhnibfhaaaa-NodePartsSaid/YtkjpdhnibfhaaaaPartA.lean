/- gristmillkit.CopyNode: a copy lies apart. -/
import Derived.Test.YtkjpdhnibfhaaaaKitI
import Derived.Test.YtkjpdhnibfhaaaaMixS
import Derived.Laws.AppendOwnNone
import Derived.Deep.Cut
import Derived.Test.YtkjpdhnibfhaaaaPartP
import Derived.Test.YtkjpdhnibfhaaaaPut
import Derived.Deep.MidRow
import Derived.Test.YtkjpdhnibfhaaaaStoreR
import Derived.ArgAppend
namespace Go.Proofs.Ytkjpdhnibfhaaaa.PartA
open Go Go.RowKit Go.Proofs.Ytkjpdhnibfhaaaa.Heap Go.Proofs.Ytkjpdhnibfhaaaa.Dat Go.Proofs.Ytkjpdhnibfhaaaa.Nodey Go.Proofs.Ytkjpdhnibfhaaaa.NodeA Go.Proofs.Ytkjpdhnibfhaaaa.NodeB Go.Proofs.Ytkjpdhnibfhaaaa.NodeF Go.Proofs.Ytkjpdhnibfhaaaa.NodeI Go.Proofs.Ytkjpdhnibfhaaaa.NodeK Go.Proofs.Ytkjpdhnibfhaaaa.NodeS Go.Proofs.Ytkjpdhnibfhaaaa.NodeT Go.Proofs.Ytkjpdhnibfhaaaa.NodeU Go.Proofs.Ytkjpdhnibfhaaaa.Cut Go.Proofs.Ytkjpdhnibfhaaaa.Build Go.Proofs.Ytkjpdhnibfhaaaa.KitA Go.Proofs.Ytkjpdhnibfhaaaa.KitC Go.Proofs.Ytkjpdhnibfhaaaa.KitG Go.Proofs.Ytkjpdhnibfhaaaa.KitH Go.Proofs.Ytkjpdhnibfhaaaa.KitI

/-- kids as data -/
def kidsD (l : List Nd) : Dat := .row 25 5 l.length (ndsD l)
theorem take_ndsD (l : List Nd) (k : Nat) (hk : k < l.length) : ndsD (l.take (k + 1)) = ndsD (l.take k) ++ ndD (l[k]'hk) := by
  rw [List.take_succ_eq_append_getElem hk, ndsD_snoc]
def CopyOK (x : Nd) : Prop := ∀ (p : Option Addr) (c : Nat) (w : World), Ready w p c x → Calls Try.prog 18 #[.agg (nodeC x p c)] w fun e w' => ∃ p' c' bk, e = .returned (.agg #[.int .u8 (x.kind : Int), .string x.text, .int .i64 x.num, .int .i64 x.at_, .slice p' x.kids.length c']) ∧ Lies w' w.heap.size (kidsD x.kids) (.slice p' x.kids.length c') bk ∧ bk.Nodup ∧ Below w.heap.size w w'
set_option maxRecDepth 100000 in
set_option maxHeartbeats 4000000 in
theorem copies_any {l : List Nd} {p : Option Addr} {c : Nat} {w : World} (ih : ∀ y ∈ l, CopyOK y) (hk : KidsV w p l) (hl : l.length ≤ 1000000) :
    Calls Try.prog 29 #[.slice p l.length c] w fun e w' => ∃ p' c' bk, e = .returned (.slice p' l.length c') ∧ Lies w' w.heap.size (kidsD l) (.slice p' l.length c') bk ∧ bk.Nodup ∧ Below w.heap.size w w' := by
  obtain ⟨ti, hi, hz, hsz, hby⟩ := nodeInfo
  have HK := Lib.hid hk; have HIH := Lib.hid ih; clear hk ih
  generalize hnk : l.length = nk at *
  have HNK := Lib.hid hnk; clear hnk
  go_enter Try.func29, Try.ntmps29
  go_wp2_with fail
  go_loopg [3, 4, 5] nk (fun gk v i _ wr => ∃ (k : Nat) (bk : List Nat), k ≤ nk ∧ gk = nk - k ∧ i = .int .i64 (k : Int) ∧ Lies wr w.heap.size (.row 25 5 k (ndsD (l.take k))) v bk ∧ bk.Nodup ∧ Below w.heap.size w wr)
  case atStart => exact ⟨0, [], by omega, by omega, rfl, by simpa [ndsD] using Lies.nil _ _ _ _, List.nodup_nil, Below.refl _ _⟩
  case round =>
    obtain ⟨k, bk, hk, rfl, rfl, hL, hnd, hbw⟩ := hrel
    obtain ⟨va, vc, rfl⟩ := row_slice hL
    have HL := Lib.hid hL; have HN := Lib.hid hnd; have HBW := Lib.hid hbw; clear hL hnd hbw
    by_cases hlt : k < nk
    · have hkl : k < l.length := by have := HNK.out; omega
      obtain ⟨gs, o, p', c', hp, hkr, d0, d1, d2, d3, d4⟩ := kids_kid HK.out k hkl
      subst hp
      have HIY := Lib.hid (fun u hu => HIH.out _ (List.getElem_mem hkl) p' c' u hu)
      have HTK := Lib.hid (take_ndsD l k hkl)
      have HKR := Lib.hid hkr
      clear hkr
      generalize l[k]'hkl = y at *
      unfold nodeC at HIY
      have j0 : (0 : Int) ≤ (k : Int) := by omega
      have j1 : (k : Int) < (nk : Int) := by omega
      have m0 := cell_on HBW.out d0; have m1 := cell_on HBW.out d1; have m2 := cell_on HBW.out d2; have m3 := cell_on HBW.out d3; have m4 := cell_on HBW.out d4
      clear d0 d1 d2 d3 d4
      generalize hyl : y.kids.length = y4 at *
      generalize hy0 : y.kind = y0 at *
      generalize hy1 : y.text = y1 at *
      generalize hy2 : y.num = y2 at *
      generalize hy3 : y.at_ = y3 at *
      have HYL := Lib.hid hyl; have HY0 := Lib.hid hy0; have HY1 := Lib.hid hy1; have HY2 := Lib.hid hy2; have HY3 := Lib.hid hy3; clear hyl hy0 hy1 hy2 hy3
      have hsw := HBW.out.size
      go_wp2_with (first
        | (at_builtin; go_loud (refine wpList_append_lies _ rfl _ _ _ rfl w.heap.size 25 ti _ 5 64 Try.underlying23 hi hz hsz hby rfl (by omega) _ k xs rfl ((ho.alloc _).alloc _) ⟨w2.heap.size + 1, 0, none⟩ 1 1 [.int .u8 (y0 : Int), .string y1, .int .i64 y2, .int .i64 y3, .slice p1 y4 q1] (by first | rfl | simp) (by rfl) (World.news_of_block (alloc2 _ _ _)) (by simp [Value.oneCell']) (by omega) (by unfold maxLen; omega) (by omega) (by simp; omega) (w2.heap.size + 2) (by simp) ?_; intro g cap w3 hown3 hgrow hat hlt3))
        | (go_at_call 18; go_must (refine (HIY.out _ (HKR.out.below HBW.out)).mono ?_; rintro e w2 ⟨p1, q1, k1, rfl, hD1, hn2, hb2⟩; have hL2 := HL.out.below hb2 (fun b hb => (Lies.lt HL.out b hb).2); obtain ⟨xs, bs', ho, hlx, hob, hil⟩ := hL2.own; have HLX := Lib.hid hlx; have HOB := Lib.hid hob; have HIL := Lib.hid hil; have HN2 := Lib.hid hn2; have hs2 := hb2.size; have HB2 := Lib.hid hb2; have HD1 := Lib.hid hD1; clear hD1 hb2 hL2 hlx hob hil hn2)))
      have hbel : Below w2.heap.size w2 ((w2.alloc (.cells #[.int .u8 (y0 : Int), .string y1, .int .i64 y2, .int .i64 y3, .slice p1 y4 q1] 25)).alloc (.cells #[.int .u8 (y0 : Int), .string y1, .int .i64 y2, .int .i64 y3, .slice p1 y4 q1] 25)) := ((Below.refl _ w2).alloc (Nat.le_refl _) _).alloc (by simp) _
      have hLD : LiesL w2 wr.heap.size (ndD y) [.int .u8 (y0 : Int), .string y1, .int .i64 y2, .int .i64 y3, .slice p1 y4 q1] (k1 ++ []) := by
        obtain ⟨yk, yt, yn, ya, yl⟩ := y
        obtain rfl : yk = y0 := HY0.out
        obtain rfl : yt = y1 := HY1.out
        obtain rfl : yn = y2 := HY2.out
        obtain rfl : ya = y3 := HY3.out
        obtain rfl : yl.length = y4 := HYL.out
        rw [ndD]
        exact LiesL.lit (LiesL.lit (LiesL.lit (LiesL.lit (LiesL.more HD1.out (LiesL.nil.2 ⟨rfl, rfl⟩)))))
      have hdl := LiesL.lt hLD
      have hbl : ∀ b ∈ bk, b < wr.heap.size := fun b hb => (Lies.lt HL.out b hb).2
      have hn3 : (bk ++ (k1 ++ ([]))).Nodup := List.nodup_append.2 ⟨HN.out, by simpa using HN2.out, fun x hx y hy e => by have := hbl x hx; have := (hdl y hy).1; omega⟩
      have hlx3 := HLX.out.below (B' := w2.heap.size) hbel (fun b hb => (LiesL.lt HLX.out b hb).2)
      have hld3 := (LiesL.base (show w.heap.size ≤ wr.heap.size by omega) hLD).below (B' := w2.heap.size) hbel (fun b hb => (LiesL.lt hLD b hb).2)
      obtain ⟨z1, z2, _⟩ := Lies.snoc (us := [.int .u8 (y0 : Int), .string y1, .int .i64 y2, .int .i64 y3, .slice p1 y4 q1]) (ds := ndD y) hlx3 HIL.out hld3 (ndD_len y) HOB.out hn3 hown3 hgrow (hat.imp id (fun h => by simp; omega))
      have hb4 : Below w.heap.size w ((w2.alloc (.cells #[.int .u8 (y0 : Int), .string y1, .int .i64 y2, .int .i64 y3, .slice p1 y4 q1] 25)).alloc (.cells #[.int .u8 (y0 : Int), .string y1, .int .i64 y2, .int .i64 y3, .slice p1 y4 q1] 25)) := (HBW.out.trans (HB2.out.mono hsw)).trans (hbel.mono (by omega))
      have hb5 : Below w.heap.size w w3 := hb4.grown hgrow (by simp; omega) (fun j hj => (ho.lt j hj).1)
      have HZ1 := Lib.hid z1; have HZ2 := Lib.hid z2; have HB5 := Lib.hid hb5
      clear z1 z2 hb5 hb4 hn3 hbl hdl hLD hbel hlx3 hld3 hown3 hgrow hat ho hs2
      go_roundg (nk - (k + 1))
      case measure => omega
      case rel =>
        have hwk : wrap64 ((k : Int) + 1) = ((k + 1 : Nat) : Int) := (IntWalk.wrap64_in ((k : Int) + 1) ⟨by omega, by omega⟩).trans (by omega)
        exact ⟨k + 1, _, hlt, rfl, by first | exact congrArg (Value.int .i64) hwk | go_num, by rw [HTK.out]; exact HZ1.out, HZ2.out, HB5.out⟩
    · obtain rfl : k = nk := by omega
      go_wp2_with fail
      go_ret
      have hL := HL.out
      rw [List.take_of_length_le (by have := HNK.out; omega)] at hL
      refine ⟨va, vc, bk, rfl, ?_, HN.out, HBW.out⟩
      unfold kidsD
      rw [HNK.out]
      exact hL
set_option maxRecDepth 100000 in
set_option maxHeartbeats 4000000 in
theorem copy_step {kk : Nat} {t : ByteArray} {n a : Int} {l : List Nd} (ih : ∀ y ∈ l, CopyOK y) : CopyOK (.mk kk t n a l) := by
  intro p c w hr
  have HL := Lib.hid (fun (u : World) (hu : Below w.heap.size w u) => copies_any (c := c) ih (KidsV.below hu hr.kids) (show l.length ≤ 1000000 from hr.len))
  show Calls Try.prog 18 #[.agg #[.int .u8 (kk : Int), .string t, .int .i64 n, .int .i64 a, .slice p l.length c]] w fun e w' => ∃ p' c' bk, e = .returned (.agg #[.int .u8 (kk : Int), .string t, .int .i64 n, .int .i64 a, .slice p' l.length c']) ∧ Lies w' w.heap.size (kidsD l) (.slice p' l.length c') bk ∧ bk.Nodup ∧ Below w.heap.size w w'
  clear hr ih
  generalize l.length = nk at *
  generalize (kk : Int) = k0 at *
  have HB := Lib.hid (((Below.refl w.heap.size w).alloc (Nat.le_refl _) (.cells #[.int .u8 k0, .string t, .int .i64 n, .int .i64 a, .slice p nk c] 25)).alloc (by simp) (.cells #[.int .u8 0, .string { data := #[] }, .int .i64 0, .int .i64 0, .slice none 0 0] 25))
  have HA := Lib.hid ((Box5.new (w := w) (v0 := .int .u8 k0) (v1 := .string t) (v2 := .int .i64 n) (v3 := .int .i64 a) (v4 := .slice p nk c) (T := 25)).below ((Below.refl _ _).alloc (Nat.le_refl _) (.cells #[.int .u8 0, .string { data := #[] }, .int .i64 0, .int .i64 0, .slice none 0 0] 25)))
  have hsz : ((w.alloc (.cells #[.int .u8 k0, .string t, .int .i64 n, .int .i64 a, .slice p nk c] 25)).alloc (.cells #[.int .u8 0, .string { data := #[] }, .int .i64 0, .int .i64 0, .slice none 0 0] 25)).heap.size = w.heap.size + 2 := by simp
  have HA2 := Lib.hid (Box5.new (w := w.alloc (.cells #[.int .u8 k0, .string t, .int .i64 n, .int .i64 a, .slice p nk c] 25)) (v0 := .int .u8 0) (v1 := .string { data := #[] }) (v2 := .int .i64 0) (v3 := .int .i64 0) (v4 := .slice none 0 0) (T := 25))
  rw [show (w.alloc (.cells #[.int .u8 k0, .string t, .int .i64 n, .int .i64 a, .slice p nk c] 25)).heap.size = w.heap.size + 1 by simp] at HA2
  have HSZ := Lib.hid hsz; clear hsz
  have HOB := Lib.hid (show ((w.alloc (.cells #[.int .u8 k0, .string t, .int .i64 n, .int .i64 a, .slice p nk c] 25)).alloc (.cells #[.int .u8 0, .string { data := #[] }, .int .i64 0, .int .i64 0, .slice none 0 0] 25)).heap[w.heap.size + 1]? = some (.cells #[.int .u8 0, .string { data := #[] }, .int .i64 0, .int .i64 0, .slice none 0 0] 25 (0, 0)) from alloc2 w _ _)
  have HOA := Lib.hid (show ((w.alloc (.cells #[.int .u8 k0, .string t, .int .i64 n, .int .i64 a, .slice p nk c] 25)).alloc (.cells #[.int .u8 0, .string { data := #[] }, .int .i64 0, .int .i64 0, .slice none 0 0] 25)).heap[w.heap.size]? = some (.cells #[.int .u8 k0, .string t, .int .i64 n, .int .i64 a, .slice p nk c] 25 (0, 0)) from (Below.heap_alloc _ _ _ (by simp)).trans (heap_alloc_new _ _))
  go_enter Try.func18, Try.ntmps18
  go_upto_region 1 with fail
  generalize ((w.alloc (.cells #[.int .u8 k0, .string t, .int .i64 n, .int .i64 a, .slice p nk c] 25)).alloc (.cells #[.int .u8 0, .string { data := #[] }, .int .i64 0, .int .i64 0, .slice none 0 0] 25)) = W at *
  generalize hH : w.heap.size = H at *
  have HHH := Lib.hid hH; clear hH
  obtain ⟨a0, a1, a2, a3, a4⟩ := HA.out
  go_wp2_with (go_at_call 29; go_must (refine (HL.out _ HB.out).mono ?_; rintro e w2 ⟨q, qc, bk, rfl, hv, hnd, hb⟩; have HV := Lib.hid hv; have HN := Lib.hid hnd; have HB2 := Lib.hid hb; clear hv hnd; clear a0 a1 a2 a3 a4; obtain ⟨a0, a1, a2, a3, a4⟩ := HA.out.below hb; obtain ⟨b0, b1, b2, b3, b4⟩ := HA2.out.below hb; have hoa := (hb.block H (by have := HSZ.out; omega)).trans HOA.out; have hob := (hb.block (H + 1) (by have := HSZ.out; omega)).trans HOB.out; have fa := frozen_of_row w2 H 4 _ _ hoa; have fb0 := frozen_of_row w2 (H + 1) 0 _ _ hob; have fb1 := frozen_of_row w2 (H + 1) 1 _ _ hob; have fb2 := frozen_of_row w2 (H + 1) 2 _ _ hob; have fb3 := frozen_of_row w2 (H + 1) 3 _ _ hob; have fb4 := frozen_of_row w2 (H + 1) 4 _ _ hob; have HO2 := Lib.hid hob; clear hb hoa hob))
  have hx0 := Lib.hid ((Below.heap_setCell w2 ⟨H, 4, none⟩ (.slice q nk qc) (H + 1) (by simp)).trans HO2.out)
  have hx := blk_set (blk_set (blk_set (blk_set (blk_set hx0.out 0 (.int .u8 k0)) 1 (.string t)) 2 (.int .i64 n)) 3 (.int .i64 a)) 4 (.slice q nk qc)
  have hlt := HSZ.out
  refine bodyPost_ret (res_node rfl (box_of hx) rfl) rfl ⟨q, qc, bk, rfl, ?_, HN.out, ?_⟩
  · rw [HHH.out]
    exact (lies_set (lies_set (lies_set (lies_set (lies_set (lies_set HV.out (by omega)) (by omega)) (by omega)) (by omega)) (by omega)) (by omega)).base (by omega)
  · rw [HHH.out]
    exact ((((((HB.out.trans (HB2.out.mono (by have := HSZ.out; omega))).setCell (Nat.le_refl _) _).setCell (Nat.le_succ _) _).setCell (Nat.le_succ _) _).setCell (Nat.le_succ _) _).setCell (Nat.le_succ _) _).setCell (Nat.le_succ _) _
theorem copy_any : ∀ x : Nd, CopyOK x
  | .mk k t n a l => copy_step fun y _hy => copy_any y
  termination_by x => SizeOf.sizeOf x
  decreasing_by have := List.sizeOf_lt_of_mem _hy; simp; omega
end Go.Proofs.Ytkjpdhnibfhaaaa.PartA
/- The law's moved: places turned where they lie. -/
namespace Go.Proofs.Ytkjpdhnibfhaaaa.PartB
open Go Go.RowKit Go.Proofs.Ytkjpdhnibfhaaaa.Heap Go.Proofs.Ytkjpdhnibfhaaaa.Dat Go.Proofs.Ytkjpdhnibfhaaaa.Nodey Go.Proofs.Ytkjpdhnibfhaaaa.NodeA Go.Proofs.Ytkjpdhnibfhaaaa.NodeB Go.Proofs.Ytkjpdhnibfhaaaa.NodeF Go.Proofs.Ytkjpdhnibfhaaaa.NodeI Go.Proofs.Ytkjpdhnibfhaaaa.NodeK Go.Proofs.Ytkjpdhnibfhaaaa.NodeS Go.Proofs.Ytkjpdhnibfhaaaa.NodeT Go.Proofs.Ytkjpdhnibfhaaaa.NodeU Go.Proofs.Ytkjpdhnibfhaaaa.Cut Go.Proofs.Ytkjpdhnibfhaaaa.Build Go.Proofs.Ytkjpdhnibfhaaaa.KitA Go.Proofs.Ytkjpdhnibfhaaaa.KitC Go.Proofs.Ytkjpdhnibfhaaaa.KitG Go.Proofs.Ytkjpdhnibfhaaaa.KitH Go.Proofs.Ytkjpdhnibfhaaaa.KitI Go.Proofs.Ytkjpdhnibfhaaaa.PartA Go.Proofs.Ytkjpdhnibfhaaaa.PartP

/-- only these blocks were turned -/
structure Turn (w w' : World) (bk : List Nat) : Prop where
  os : w'.os = w.os
  tape : w'.tape = w.tape
  output : w'.output = w.output
  size : w.heap.size ≤ w'.heap.size
  block : ∀ i, i < w.heap.size → i ∉ bk → w'.heap[i]? = w.heap[i]?
theorem Turn.refl (w : World) (bk : List Nat) : Turn w w bk := ⟨rfl, rfl, rfl, Nat.le_refl _, fun _ _ _ => rfl⟩
theorem Turn.trans {a b c : World} {bk : List Nat} (h : Turn a b bk) (k : Turn b c bk) : Turn a c bk :=
  ⟨k.os.trans h.os, k.tape.trans h.tape, k.output.trans h.output, Nat.le_trans h.size k.size, fun i hi hn => (k.block i (Nat.lt_of_lt_of_le hi h.size) hn).trans (h.block i hi hn)⟩
theorem Turn.more {a b : World} {b1 b2 : List Nat} (h : Turn a b b1) (hs : ∀ i ∈ b1, i ∈ b2) : Turn a b b2 := ⟨h.os, h.tape, h.output, h.size, fun i hi hn => h.block i hi fun hm => hn (hs i hm)⟩
theorem Turn.of_below {a b : World} {bk : List Nat} (h : Below a.heap.size a b) : Turn a b bk := ⟨h.os, h.tape, h.output, h.size, fun i hi _ => h.block i hi⟩
theorem Turn.below {a b : World} {bk : List Nat} {B : Nat} (h : Turn a b bk) (hB : B ≤ a.heap.size) (hb : ∀ i ∈ bk, B ≤ i) : Below B a b := ⟨h.os, h.tape, h.output, h.size, fun i hi => h.block i (Nat.lt_of_lt_of_le hi hB) fun hm => by have := hb i hm; omega⟩
/-- new blocks' stores don't count -/
theorem Turn.set {a b : World} {bk : List Nat} {q : Addr} {v : Value} (h : Turn a b bk) (hq : a.heap.size ≤ q.block ∨ q.block ∈ bk) : Turn a (b.setCell q v) bk :=
  ⟨h.os, h.tape, h.output, by have := h.size; simpa using this, fun i hi hn => (Below.heap_setCell b q v i (fun e => hq.elim (fun h1 => by omega) (fun h2 => hn (by rw [e]; exact h2)))).trans (h.block i hi hn)⟩
/-- one of a list's nodes: its cells as data -/
theorem ndsD_at : ∀ (l : List Nd) (k : Nat) (hk : k < l.length) (j : Nat), j < 5 → (ndsD l)[k * 5 + j]? = (ndD (l[k]'hk))[j]?
  | x :: l, 0, _, j, hj => by
    rw [ndsD, Nat.zero_mul, Nat.zero_add, List.getElem?_append_left (by rw [ndD_len]; exact hj)]; rfl
  | x :: l, k + 1, hk, j, hj => by
    rw [ndsD, List.getElem?_append_right (by rw [ndD_len]; omega), ndD_len, show (k + 1) * 5 + j - 5 = k * 5 + j by omega]
    exact ndsD_at l k (by simpa using hk) j hj
theorem ndsD_set : ∀ (l : List Nd) (k : Nat) (hk : k < l.length) {kk : Nat} {t : ByteArray} {n a b : Int} {m m' : List Nd}, l[k]'hk = .mk kk t n a m → ndsD (l.set k (.mk kk t n b m')) = ((ndsD l).set (k * 5 + 4) (kidsD m')).set (k * 5 + 3) (.lit (.int .i64 b))
  | x :: l, 0, _, kk, t, n, a, b, m, m', h => by
    have hx : x = .mk kk t n a m := h
    subst hx
    simp [ndsD, ndD, kidsD]
  | x :: l, k + 1, hk, kk, t, n, a, b, m, m', h => by
    have ih := ndsD_set l k (by simpa using hk) (b := b) (m' := m') (by simpa using h)
    rw [List.set_cons_succ, ndsD, ndsD, ih, List.set_append_right _ _ (by rw [ndD_len]; omega), List.set_append_right _ _ (by rw [ndD_len]; omega), ndD_len, show (k + 1) * 5 + 4 - 5 = k * 5 + 4 by omega, show (k + 1) * 5 + 3 - 5 = k * 5 + 3 by omega]
/-- what is stored was there -/
theorem put_same {w : World} {B E S n g cap j : Nat} {items : List Dat} {x : Value} {bk : List Nat} (h : Lies w B (.row E S n items) (.slice (some ⟨g, 0, none⟩) n cap) bk) (hnd : bk.Nodup) (hj : j < items.length) (hx : w.cell? ⟨g, j, none⟩ = some x) : Lies (w.setCell ⟨g, j, none⟩ x) B (.row E S n items) (.slice (some ⟨g, 0, none⟩) n cap) bk := by
  obtain ⟨g', cap', y, b2, hv, _, _, _, hd, hc, _, _, _, _, _, _, hput⟩ := h.at hnd j (List.getElem?_eq_getElem hj)
  simp only [Value.slice.injEq, Option.some.injEq, Addr.mk.injEq] at hv
  obtain ⟨⟨rfl, _⟩, _, rfl⟩ := hv
  rw [hx] at hc
  obtain rfl := Option.some.inj hc
  have := hput _ _ hd
  rwa [List.set_getElem_self] at this
theorem put_lit {w : World} {B E S n g cap j : Nat} {items : List Dat} {u u' : Value} {bk : List Nat} (h : Lies w B (.row E S n items) (.slice (some ⟨g, 0, none⟩) n cap) bk) (hnd : bk.Nodup) (hj : items[j]? = some (.lit u)) : Lies (w.setCell ⟨g, j, none⟩ u') B (.row E S n (items.set j (.lit u'))) (.slice (some ⟨g, 0, none⟩) n cap) bk := by
  obtain ⟨g', cap', y, b2, hv, _, _, _, hd, hc, _, _, _, _, _, _, hput⟩ := h.at hnd j hj
  simp only [Value.slice.injEq, Option.some.injEq, Addr.mk.injEq] at hv
  obtain ⟨⟨rfl, _⟩, _, rfl⟩ := hv
  rw [Lies.lit_iff] at hd
  exact hput _ _ (by rw [Lies.lit_iff]; exact ⟨rfl, hd.2⟩)
/-- a node's five cells, stored over: its place alone is another -/
theorem put_node {w : World} {B n g cap o : Nat} {items : List Dat} {v0 v1 v2 u u' v4 : Value} {d4 : Dat} {bk : List Nat} (h : Lies w B (.row 25 5 n items) (.slice (some ⟨g, 0, none⟩) n cap) bk) (hnd : bk.Nodup)
    (i3 : items[o + 3]? = some (.lit u)) (i4 : items[o + 4]? = some d4)
    (c0 : w.cell? ⟨g, o, none⟩ = some v0) (c1 : w.cell? ⟨g, o + 1, none⟩ = some v1) (c2 : w.cell? ⟨g, o + 2, none⟩ = some v2) (c4 : w.cell? ⟨g, o + 4, none⟩ = some v4) :
    Lies (w.setCells g o [v0, v1, v2, u', v4]) B (.row 25 5 n (items.set (o + 3) (.lit u'))) (.slice (some ⟨g, 0, none⟩) n cap) bk := by
  have hl := (List.getElem?_eq_some_iff.1 i4).1
  have far : ∀ {w : World} {i j : Nat} {x y : Value}, i ≠ j → w.cell? ⟨g, j, none⟩ = some x → (w.setCell ⟨g, i, none⟩ y).cell? ⟨g, j, none⟩ = some x := fun {w i j x y} hij hc => (World.cell?_setCell_other w ⟨g, i, none⟩ ⟨g, j, none⟩ y (fun e => hij (by injection e))).trans hc
  have h1 := put_same h hnd (j := o) (by omega) c0
  have h2 := put_same h1 hnd (j := o + 1) (by omega) (far (by omega) c1)
  have h3 := put_same h2 hnd (j := o + 2) (by omega) (far (by omega) (far (by omega) c2))
  have h4 := put_lit (u' := u') h3 hnd i3
  have h5 := put_same h4 hnd (j := o + 4) (by simpa using hl) (far (by omega) (far (by omega) (far (by omega) (far (by omega) c4))))
  exact h5
theorem there5 {w : World} {B n g cap o : Nat} {items : List Dat} {bk : List Nat} (h : Lies w B (.row 25 5 n items) (.slice (some ⟨g, 0, none⟩) n cap) bk) (hnd : bk.Nodup) (ho : o + 5 ≤ items.length) : w.there g o 5 := by
  intro j hj
  obtain ⟨g', cap', y, b2, hv, _, _, _, _, hc, hf, _⟩ := h.at hnd (o + j) (List.getElem?_eq_getElem (by omega))
  simp only [Value.slice.injEq, Option.some.injEq, Addr.mk.injEq] at hv
  obtain ⟨⟨rfl, _⟩, _, rfl⟩ := hv
  exact ⟨by rw [hc]; rfl, hf⟩
theorem Turn.cells {a : World} {bk : List Nat} {g : Nat} (hg : g ∈ bk) : ∀ (vs : List Value) (o : Nat) {b : World}, Turn a b bk → Turn a (b.setCells g o vs) bk
  | [], _, _, h => h
  | v :: vs, o, _, h => Turn.cells hg vs (o + 1) (h.set (.inr hg))
theorem far_cells {g i : Nat} (h : i ≠ g) : ∀ (vs : List Value) (o : Nat) (w : World), (w.setCells g o vs).heap[i]? = w.heap[i]?
  | [], _, _ => rfl
  | v :: vs, o, w => (far_cells h vs (o + 1) _).trans (Below.heap_setCell w ⟨g, o, none⟩ v i h)
end Go.Proofs.Ytkjpdhnibfhaaaa.PartB
/- The law's moved, walked. -/
namespace Go.Proofs.Ytkjpdhnibfhaaaa.PartC
open Go Go.RowKit Go.Proofs.Ytkjpdhnibfhaaaa.Heap Go.Proofs.Ytkjpdhnibfhaaaa.Dat Go.Proofs.Ytkjpdhnibfhaaaa.Nodey Go.Proofs.Ytkjpdhnibfhaaaa.NodeA Go.Proofs.Ytkjpdhnibfhaaaa.NodeB Go.Proofs.Ytkjpdhnibfhaaaa.NodeF Go.Proofs.Ytkjpdhnibfhaaaa.NodeI Go.Proofs.Ytkjpdhnibfhaaaa.NodeK Go.Proofs.Ytkjpdhnibfhaaaa.NodeS Go.Proofs.Ytkjpdhnibfhaaaa.NodeT Go.Proofs.Ytkjpdhnibfhaaaa.NodeU Go.Proofs.Ytkjpdhnibfhaaaa.Cut Go.Proofs.Ytkjpdhnibfhaaaa.Build Go.Proofs.Ytkjpdhnibfhaaaa.KitA Go.Proofs.Ytkjpdhnibfhaaaa.KitC Go.Proofs.Ytkjpdhnibfhaaaa.KitG Go.Proofs.Ytkjpdhnibfhaaaa.KitH Go.Proofs.Ytkjpdhnibfhaaaa.KitI Go.Proofs.Ytkjpdhnibfhaaaa.PartA Go.Proofs.Ytkjpdhnibfhaaaa.PartP Go.Proofs.Ytkjpdhnibfhaaaa.PartB

/-- turned up to here -/
def mixL (c : Int) (l : List Nd) (k : Nat) : List Nd := movedL c (l.take k) ++ l.drop k
theorem mix_len (c : Int) (l : List Nd) (k : Nat) : (mixL c l k).length = l.length := by
  unfold mixL; rw [movedL_map]; simp; omega
theorem mix_at (c : Int) (l : List Nd) (k : Nat) (hk : k < l.length) : (mixL c l k)[k]'(by rw [mix_len]; exact hk) = l[k] := by
  have : (mixL c l k)[k]? = some l[k] := by
    unfold mixL
    rw [movedL_map, List.getElem?_append_right (by simp; omega)]
    simp [show k - min k l.length = 0 by omega, hk]
  have h2 := List.getElem?_eq_getElem (l := mixL c l k) (i := k) (by rw [mix_len]; exact hk)
  exact Option.some.inj (h2.symm.trans this)
theorem mix_next (c : Int) (l : List Nd) (k : Nat) (hk : k < l.length) : mixL c l (k + 1) = (mixL c l k).set k (movedN c l[k]) := by
  unfold mixL
  rw [movedL_map, movedL_map, List.take_succ_eq_append_getElem hk, List.map_append, List.set_append_right _ _ (by simp; omega), List.drop_eq_getElem_cons hk]
  simp [show k - min k l.length = 0 by omega]
  rw [List.drop_eq_getElem_cons hk, List.set_cons_zero]
theorem mix_zero (c : Int) (l : List Nd) : mixL c l 0 = l := by unfold mixL; simp [movedL]
theorem mix_all (c : Int) (l : List Nd) : mixL c l l.length = movedL c l := by unfold mixL; simp
def MovedOK (x : Nd) : Prop := ∀ (p : Option Addr) (cap : Nat) (c : Int) (w : World) (B : Nat) (bk : List Nat), Lies w B (kidsD x.kids) (.slice p x.kids.length cap) bk → bk.Nodup → okN x → 0 ≤ c → c + (deepN x : Int) ≤ 1000000000 →
  Calls Try.prog 17 #[.agg (nodeC x p cap), .int .i64 c] w fun e w' => e = .returned (.agg #[.int .u8 (x.kind : Int), .string x.text, .int .i64 x.num, .int .i64 (max x.at_ 0 % 1000 + c), .slice p x.kids.length cap]) ∧ Lies w' B (kidsD (movedL (c + 1) x.kids)) (.slice p x.kids.length cap) bk ∧ Turn w w' bk
theorem ok_mem : ∀ {l : List Nd} {y : Nd}, okL l → y ∈ l → okN y
  | x :: l, y, h, hm => by
    rw [okL] at h
    rcases List.mem_cons.1 hm with rfl | hm
    · exact h.1
    · exact ok_mem h.2 hm
theorem deep_kid {l : List Nd} {k : Nat} (hk : k < l.length) : deepN l[k] ≤ deepL l := deepL_le.1 (Nat.le_refl _) _ (List.getElem_mem hk)
/-- the loop's state -/
structure MovI (w wr : World) (H B : Nat) (bk : List Nat) (k0 n a' c : Int) (t : ByteArray) (p : Option Addr) (cap : Nat) (l : List Nd) (k : Nat) : Prop where
  box : wr.heap[H]? = some (.cells #[.int .u8 k0, .string t, .int .i64 n, .int .i64 a', .slice p l.length cap] 25 (0, 0))
  res : wr.heap[H + 1]? = some (.cells #[.int .u8 0, .string { data := #[] }, .int .i64 0, .int .i64 0, .slice none 0 0] 25 (0, 0))
  lies : Lies wr B (kidsD (mixL c l k)) (.slice p l.length cap) bk
  turn : Turn w wr bk
set_option maxRecDepth 100000 in
set_option maxHeartbeats 1000000 in
theorem moved_step {kk : Nat} {t : ByteArray} {n a : Int} {l : List Nd} (ih : ∀ y ∈ l, MovedOK y) : MovedOK (.mk kk t n a l) := by
  intro p cap c w B bk hL hnd hok hc hcd
  rw [okN] at hok
  have hlen := hok.2.1
  have HOK := Lib.hid hok.2.2
  clear hok
  have HIH := Lib.hid ih; have HL0 := Lib.hid (show Lies w B (kidsD l) (.slice p l.length cap) bk from hL); have HND := Lib.hid hnd
  have HLT := Lib.hid (Lies.lt hL)
  have HLN := Lib.hid (show l.length ≤ 1000000 from hlen)
  have HCD := Lib.hid (show c + 1 + (deepL l : Int) ≤ 1000000000 by rw [deepN] at hcd; omega)
  have HC0 := Lib.hid hc
  show Calls Try.prog 17 #[.agg #[.int .u8 (kk : Int), .string t, .int .i64 n, .int .i64 a, .slice p l.length cap], .int .i64 c] w fun e w' => e = .returned (.agg #[.int .u8 (kk : Int), .string t, .int .i64 n, .int .i64 (max a 0 % 1000 + c), .slice p l.length cap]) ∧ Lies w' B (kidsD (movedL (c + 1) l)) (.slice p l.length cap) bk ∧ Turn w w' bk
  clear ih hL hnd hlen hcd
  have hm1 := (tmod_pos a).1
  have hm2 := (tmod_pos a).2
  have hm3 : -9223372036854775808 ≤ max a 0 % 1000 + c ∧ max a 0 % 1000 + c ≤ 9223372036854775807 := by have := HCD.out; omega
  generalize (kk : Int) = k0 at *
  generalize hnk : l.length = nk at *
  have HNK := Lib.hid hnk; clear hnk
  go_enter Try.func17, Try.ntmps17
  go_upto_region 1 with fail
  have HA := Lib.hid ((Box5.new (w := w) (v0 := .int .u8 k0) (v1 := .string t) (v2 := .int .i64 n) (v3 := .int .i64 a) (v4 := .slice p nk cap) (T := 25)).below ((Below.refl _ _).alloc (Nat.le_refl _) (.cells #[.int .u8 0, .string { data := #[] }, .int .i64 0, .int .i64 0, .slice none 0 0] 25)))
  have HB := Lib.hid (((Below.refl w.heap.size w).alloc (Nat.le_refl _) (.cells #[.int .u8 k0, .string t, .int .i64 n, .int .i64 a, .slice p nk cap] 25)).alloc (by simp) (.cells #[.int .u8 0, .string { data := #[] }, .int .i64 0, .int .i64 0, .slice none 0 0] 25))
  have HSZ := Lib.hid (show ((w.alloc (.cells #[.int .u8 k0, .string t, .int .i64 n, .int .i64 a, .slice p nk cap] 25)).alloc (.cells #[.int .u8 0, .string { data := #[] }, .int .i64 0, .int .i64 0, .slice none 0 0] 25)).heap.size = w.heap.size + 2 by simp)
  have HOB := Lib.hid (show ((w.alloc (.cells #[.int .u8 k0, .string t, .int .i64 n, .int .i64 a, .slice p nk cap] 25)).alloc (.cells #[.int .u8 0, .string { data := #[] }, .int .i64 0, .int .i64 0, .slice none 0 0] 25)).heap[w.heap.size + 1]? = some (.cells #[.int .u8 0, .string { data := #[] }, .int .i64 0, .int .i64 0, .slice none 0 0] 25 (0, 0)) from alloc2 w _ _)
  have HOA := Lib.hid (show ((w.alloc (.cells #[.int .u8 k0, .string t, .int .i64 n, .int .i64 a, .slice p nk cap] 25)).alloc (.cells #[.int .u8 0, .string { data := #[] }, .int .i64 0, .int .i64 0, .slice none 0 0] 25)).heap[w.heap.size]? = some (.cells #[.int .u8 k0, .string t, .int .i64 n, .int .i64 a, .slice p nk cap] 25 (0, 0)) from (Below.heap_alloc _ _ _ (by simp)).trans (heap_alloc_new _ _))
  generalize ((w.alloc (.cells #[.int .u8 k0, .string t, .int .i64 n, .int .i64 a, .slice p nk cap] 25)).alloc (.cells #[.int .u8 0, .string { data := #[] }, .int .i64 0, .int .i64 0, .slice none 0 0] 25)) = W at *
  generalize hH : w.heap.size = H at *
  have HHH := Lib.hid hH; clear hH
  obtain ⟨a0, a1, a2, a3, a4⟩ := HA.out
  have fa := frozen_of_row W H 3 _ _ HOA.out
  go_upto_region 2 with fail
  clear a0 a1 a2 a3 a4 fa
  have HI0 : Hid (MovI w (W.setCell ⟨H, 3, none⟩ (.int .i64 (max a 0 % 1000 + c))) H B bk k0 n (max a 0 % 1000 + c) (c + 1) t p cap l 0) := by
    have hz := HSZ.out
    have hlt := HLT.out
    have hlow : ∀ i, i < H → (W.setCell ⟨H, 3, none⟩ (.int .i64 (max a 0 % 1000 + c))).heap[i]? = w.heap[i]? := fun i hi => (Below.heap_setCell _ _ _ _ (by show i ≠ H; omega)).trans (HB.out.block i hi)
    refine Lib.hid ⟨?_, (Below.heap_setCell _ _ _ _ (by show H + 1 ≠ H; omega)).trans HOB.out, ?_, ?_⟩
    · rw [HNK.out]; exact blk_set HOA.out 3 _
    · rw [mix_zero, HNK.out]
      exact Lies.same HL0.out fun i hi => hlow i (hlt i hi).2
    · exact ⟨HB.out.os, HB.out.tape, HB.out.output, by rw [HHH.out]; simp; omega, fun i hi _ => hlow i (by rw [HHH.out] at hi; exact hi)⟩
  first | rw [IntWalk.wrap64_in _ hm3] | skip
  clear HA HB HSZ HOB HOA HL0
  generalize W.setCell ⟨H, 3, none⟩ (.int .i64 (max a 0 % 1000 + c)) = W2 at *
  obtain ⟨a', ha'⟩ : ∃ a', max a 0 % 1000 + c = a' := ⟨_, rfl⟩
  rw [ha'] at HI0
  simp only [ha']
  have HAE := Lib.hid ha'; clear ha'
  clear hm1 hm2 hm3
  go_wp2_with fail
  go_loopg [5] nk (fun gk i wr => ∃ k : Nat, k ≤ nk ∧ gk = nk - k ∧ i = .int .i64 (k : Int) ∧ MovI w wr H B bk k0 n a' (c + 1) t p cap l k)
  case atStart => exact ⟨0, by omega, by omega, rfl, HI0.out⟩
  case round =>
    obtain ⟨k, hk, rfl, rfl, hI⟩ := hrel
    have HI := Lib.hid hI; clear hI HI0
    have hbox := HI.out.box
    rw [HNK.out] at hbox
    obtain ⟨a0, a1, a2, a3, a4⟩ := box_of hbox
    by_cases hlt : k < nk
    · have hkl : k < l.length := by have := HNK.out; omega
      have hml : k < (mixL (c + 1) l k).length := by rw [mix_len]; exact hkl
      have hat := mix_at (c + 1) l k hkl
      have hnx := mix_next (c + 1) l k hkl
      have hmem : l[k]'hkl ∈ l := List.getElem_mem hkl
      have HIY := Lib.hid (HIH.out _ hmem)
      have hdk := deep_kid hkl
      have hld := ndsD_at (mixL (c + 1) l k) k hml
      rw [hat] at hld
      have hset := fun (kk : Nat) (t : ByteArray) (n a b : Int) (m m' : List Nd) (h : l[k]'hkl = .mk kk t n a m) => ndsD_set (mixL (c + 1) l k) k hml (b := b) (m' := m') (hat.trans h)
      generalize l[k]'hkl = y at *
      obtain ⟨yk, yt, yn, ya, yl⟩ := y
      have hset := fun b m' => hset yk yt yn ya b yl m' rfl
      rw [ndD] at hld
      have i0 := hld 0 (by omega); have i1 := hld 1 (by omega); have i2 := hld 2 (by omega); have i3 := hld 3 (by omega); have i4 := hld 4 (by omega)
      simp only [List.getElem?_cons_zero, List.getElem?_cons_succ, Nat.add_zero] at i0 i1 i2 i3 i4
      have hlies := HI.out.lies
      unfold kidsD at hlies
      rw [mix_len, HNK.out] at hlies
      obtain ⟨g, cap', vy, b2, hv, hBg, hgl, _, hLy, hcy, _, hg2, hgb, hsub, hnd2, hturn, _⟩ := hlies.at HND.out _ i4
      simp only [Value.slice.injEq] at hv
      obtain ⟨rfl, _, rfl⟩ := hv
      have hcell : ∀ {j : Nat} {u : Value}, (ndsD (mixL (c + 1) l k))[j]? = some (.lit u) → wr.cell? ⟨g, j, none⟩ = some u := fun {j u} hj => by
        obtain ⟨g', _, x, b3, hv, _, _, _, hd, hc, _⟩ := hlies.at HND.out _ hj
        simp only [Value.slice.injEq, Option.some.injEq, Addr.mk.injEq] at hv
        obtain ⟨⟨rfl, _⟩, _, _⟩ := hv
        rw [Lies.lit_iff] at hd
        rw [hc, hd.1]
      obtain ⟨py, cy, rfl⟩ := row_slice hLy
      have c0 := hcell i0; have c1 := hcell i1; have c2 := hcell i2; have c3 := hcell i3
      have HOY := Lib.hid (ok_mem HOK.out hmem)
      have HLY := Lib.hid (show Lies wr B (kidsD yl) (.slice py yl.length cy) b2 from hLy)
      have HTU := Lib.hid hturn
      have hdy : c + 1 + (deepN (Nd.mk yk yt yn ya yl) : Int) ≤ 1000000000 := by have := HCD.out; omega
      have HCALL := Lib.hid (fun (u : World) (hu : u.heap = wr.heap) => HIY.out py cy (c + 1) u B b2 (Lies.same hLy fun i _ => by rw [hu]) hnd2 HOY.out (by have := HC0.out; omega) hdy)
      unfold nodeC at HCALL
      simp only [Nd.kind, Nd.text, Nd.num, Nd.at_, Nd.kids] at HCALL
      have HST := Lib.hid hset
      have HNX := Lib.hid hnx
      have hHb : ∀ i ∈ b2, i < H := fun i hi => (HLT.out i (hsub i hi)).2
      have hgH : g < H := (HLT.out g hgb).2
      have hszH : H + 1 < wr.heap.size := (Array.getElem?_eq_some_iff.1 HI.out.res).1
      have j0 : (0 : Int) ≤ (k : Int) := by omega
      have j1 : (k : Int) < (nk : Int) := by omega
      have jc1 : -9223372036854775808 ≤ c + 1 ∧ c + 1 ≤ 9223372036854775807 := by have := HC0.out; omega
      clear hld hset hnx hlies hLy hturn hcell i0 i1 i2 hdy hdk hat
      generalize hym : yl.length = ym at *
      have HYN := Lib.hid hym; clear hym
      go_upto_region 5 with fail
      refine wp_region_mixS (l1 := [_, _, _, _, _, _, _, _, _, _, _]) (l2 := [_, _]) [(0, true), (1, true), (2, true), (3, true), (4, true), (5, true), (6, true), (7, true), (8, true), (9, true), (10, false)] (fun u => u.cell? ⟨H, 4, none⟩ = some (.slice (some ⟨g, 0, none⟩) nk cap) ∧ u.rangeAt g (k * 5) [.int .u8 (yk : Int), .string yt, .int .i64 yn, .int .i64 ya, .slice py ym cy]) (by kernel_rfl) (by kernel_rfl) (by repeat (first | refine loose_then ?_ | refine loose_block ?_ | exact loose_body (P := Try.prog) (fn := Try.f17))) ⟨a4, fun j v hj => ?rng⟩ ?_
      case rng =>
        rcases j with _ | _ | _ | _ | _ | j
        · cases hj; exact c0
        · cases hj; exact c1
        · cases hj; exact c2
        · cases hj; exact c3
        · cases hj; exact hcy
        · cases hj
      refine mixS_take (.pointer (some ⟨H, 4, none⟩)) rfl rfl (fun u hu => by go_simp) ?_
      refine mixS_take (.slice (some ⟨g, 0, none⟩) nk cap) rfl rfl (fun u hu => by have e4 := hu.1; go_simp) ?_
      refine mixS_take (.int .i64 (k : Int)) rfl rfl (fun u hu => by go_simp) ?_
      refine mixS_take (.pointer (some ⟨H, 4, none⟩)) rfl rfl (fun u hu => by go_simp) ?_
      refine mixS_take (.slice (some ⟨g, 0, none⟩) nk cap) rfl rfl (fun u hu => by have e4 := hu.1; go_simp) ?_
      refine mixS_take (.int .i64 (k : Int)) rfl rfl (fun u hu => by go_simp) ?_
      refine mixS_take (.pointer (some ⟨g, k * 5, none⟩)) rfl rfl (fun u hu => by go_simp) ?_
      refine mixS_take (.agg #[.int .u8 (yk : Int), .string yt, .int .i64 yn, .int .i64 ya, .slice py ym cy]) rfl rfl (fun u hu => by have e0 := hu.2 0 _ rfl; have e1 := hu.2 1 _ rfl; have e2 := hu.2 2 _ rfl; have e3 := hu.2 3 _ rfl; have e4 := hu.2 4 _ rfl; simp only [Nat.add_zero] at e0; go_simp) ?_
      refine mixS_take (.int .i64 c) rfl rfl (fun u hu => by go_simp) ?_
      refine mixS_take (.int .i64 (c + 1)) rfl rfl (fun u hu => by go_simp; exact IntWalk.i64_in _ jc1) ?_
      refine mixS_go rfl rfl fun K hK => wp_go (f := 17) (args := #[.agg #[.int .u8 (yk : Int), .string yt, .int .i64 yn, .int .i64 ya, .slice py ym cy], .int .i64 (c + 1)]) (by go_simp) ((HCALL.out wr.drew rfl).mono ?_)
      rintro e w2 ⟨rfl, hl2, ht2⟩
      have hH2 : H ∉ b2 := fun hm => by have := hHb H hm; omega
      have hH3 : H + 1 ∉ b2 := fun hm => by have := hHb _ hm; omega
      have tu : ∀ i, i < wr.heap.size → i ∉ b2 → w2.heap[i]? = wr.heap[i]? := ht2.block
      have cg : ∀ {j v}, wr.cell? ⟨g, j, none⟩ = some v → w2.cell? ⟨g, j, none⟩ = some v := fun {j v} hc => (World.cell?_of_block (tu g (by omega) hg2)).trans hc
      have e0 := cg c0; have e1 := cg c1; have e2 := cg c2; have e3 := cg c3; have e4 := cg hcy
      have hL2 := HTU.out w2 _ (fun i hi hn => tu i (by have := (HLT.out i hi).2; omega) hn) hl2
      have HL2 := Lib.hid hL2
      have il : k * 5 + 4 < (ndsD (mixL (c + 1) l k)).length := (List.getElem?_eq_some_iff.1 i4).1
      have th := there5 hL2 HND.out (o := k * 5) (by simp; omega)
      have hput := put_node (u' := .int .i64 (max ya 0 % 1000 + (c + 1))) hL2 HND.out (o := k * 5) (u := .int .i64 ya) (by rw [List.getElem?_set_ne (by omega)]; exact i3) (List.getElem?_set_self il) e0 e1 e2 e4
      have HP := Lib.hid hput
      have hbx2 := (tu H (by omega) hH2).trans HI.out.box
      have hrs2 := (tu (H + 1) (by omega) hH3).trans HI.out.res
      have HNEW : Hid (MovI w (w2.setCells g (k * 5) (#[.int .u8 (yk : Int), .string yt, .int .i64 yn, .int .i64 (max ya 0 % 1000 + (c + 1)), .slice py ym cy] : Array Value).toList) H B bk k0 n a' (c + 1) t (some ⟨g, 0, none⟩) cap l (k + 1)) := by
        refine Lib.hid ⟨(far_cells (by omega) _ _ _).trans hbx2, (far_cells (by omega) _ _ _).trans hrs2, ?_, Turn.cells hgb _ _ (HI.out.turn.trans (Turn.more ⟨ht2.os, ht2.tape, ht2.output, ht2.size, ht2.block⟩ hsub))⟩
        have h1 := HP.out
        rw [← HST.out] at h1
        unfold kidsD
        rw [mix_len, HNX.out, HNK.out, movedN]
        exact h1
      refine hK.out _ _ ⟨(World.cell?_of_block (tu H (by omega) hH2)).trans a4, fun j v hj => ?rng2⟩ ?_
      case rng2 =>
        rcases j with _ | _ | _ | _ | _ | j
        · cases hj; exact e0
        · cases hj; exact e1
        · cases hj; exact e2
        · cases hj; exact e3
        · cases hj; exact e4
        · cases hj
      clear hput hL2 hbx2 hrs2 e0 e1 e2 e3 e4 cg tu hl2 ht2 hK c0 c1 c2 c3 hcy i3 i4 il a0 a1 a2 a3 a4 hbox
      show wpList _ _ _ _ _ _
      simp only [List.getElem_toArray, List.getElem_cons_zero, List.getElem_cons_succ, Act.put, List.setIfInBounds_toArray, List.set_cons_succ, List.set_cons_zero]
      refine Cut.list_step rfl (Cut.wp_val (v := .pointer (some ⟨g, k * 5, none⟩)) (w' := w2) ?_ ?_)
      · go_simp
      simp only [Act.put, List.setIfInBounds_toArray, List.set_cons_succ, List.set_cons_zero]
      refine wpList_store_mid rfl 25 (.tmp 31) (.tmp 30) rfl g (k * 5) #[.int .u8 (yk : Int), .string yt, .int .i64 yn, .int .i64 (max ya 0 % 1000 + (c + 1)), .slice py ym cy] rfl rfl th (by kernel_rfl) (by simp [Value.oneCell']) ?_
      refine wpList_nil ?_
      simp only [Act.put, List.setIfInBounds_toArray, List.set_cons_succ, List.set_cons_zero]
      generalize w2.setCells g (k * 5) (#[.int .u8 (yk : Int), .string yt, .int .i64 yn, .int .i64 (max ya 0 % 1000 + (c + 1)), .slice py ym cy] : Array Value).toList = w3 at *
      show (_ : Act → World → Prop) _ _
      refine (by assumption : ∀ a' w', Code.wp _ _ _ a' w' → _) _ _ ?_
      go_wp2_with fail
      go_roundg (nk - (k + 1))
      case measure => omega
      case rel =>
        have hln := HLN.out
        have hwk : wrap64 ((k : Int) + 1) = ((k + 1 : Nat) : Int) := (IntWalk.wrap64_in ((k : Int) + 1) ⟨by omega, by omega⟩).trans (by omega)
        exact ⟨k + 1, hlt, rfl, by first | exact congrArg (Value.int .i64) hwk | go_num, HNEW.out⟩
    · obtain rfl : k = nk := by omega
      have hall : mixL (c + 1) l k = movedL (c + 1) l := by rw [← HNK.out, mix_all]
      have hLk := HI.out.lies
      rw [hall, HNK.out] at hLk
      have hRS := HI.out.res
      obtain ⟨b0, b1, b2, b3, b4⟩ := box_of hRS
      have fb0 := frozen_of_row wr (H + 1) 0 _ _ hRS; have fb1 := frozen_of_row wr (H + 1) 1 _ _ hRS; have fb2 := frozen_of_row wr (H + 1) 2 _ _ hRS; have fb3 := frozen_of_row wr (H + 1) 3 _ _ hRS; have fb4 := frozen_of_row wr (H + 1) 4 _ _ hRS
      have HLK := Lib.hid hLk
      clear hLk hall
      go_wp2_with fail
      have hx := blk_set (blk_set (blk_set (blk_set (blk_set hRS 0 (.int .u8 k0)) 1 (.string t)) 2 (.int .i64 n)) 3 (.int .i64 a')) 4 (.slice p k cap)
      refine bodyPost_ret (res_node rfl (box_of hx) rfl) rfl ⟨by rw [HAE.out], Lies.same HLK.out fun i hi => ?_, ?_⟩
      · have hne : i ≠ H + 1 := by have := (HLT.out i hi).2; omega
        exact (Below.heap_setCell _ _ _ _ hne).trans ((Below.heap_setCell _ _ _ _ hne).trans ((Below.heap_setCell _ _ _ _ hne).trans ((Below.heap_setCell _ _ _ _ hne).trans (Below.heap_setCell _ _ _ _ hne))))
      · have hle : w.heap.size ≤ H + 1 := by have := HHH.out; omega
        exact ((((HI.out.turn.set (.inl hle)).set (.inl hle)).set (.inl hle)).set (.inl hle)).set (.inl hle)
theorem moved_any : ∀ x : Nd, MovedOK x
  | .mk k t n a l => moved_step fun y _hy => moved_any y
  termination_by x => SizeOf.sizeOf x
  decreasing_by have := List.sizeOf_lt_of_mem _hy; simp; omega
end Go.Proofs.Ytkjpdhnibfhaaaa.PartC
/- Parts of the law NodeParts: the pick of a number, kids that are cut out, changed about, left out. -/
namespace Go.Proofs.Ytkjpdhnibfhaaaa.PartD
open Go Go.RowKit Go.Proofs.Ytkjpdhnibfhaaaa.Heap Go.Proofs.Ytkjpdhnibfhaaaa.Dat Go.Proofs.Ytkjpdhnibfhaaaa.Nodey Go.Proofs.Ytkjpdhnibfhaaaa.NodeA Go.Proofs.Ytkjpdhnibfhaaaa.NodeB Go.Proofs.Ytkjpdhnibfhaaaa.NodeF Go.Proofs.Ytkjpdhnibfhaaaa.NodeI Go.Proofs.Ytkjpdhnibfhaaaa.NodeK Go.Proofs.Ytkjpdhnibfhaaaa.NodeS Go.Proofs.Ytkjpdhnibfhaaaa.NodeT Go.Proofs.Ytkjpdhnibfhaaaa.NodeU Go.Proofs.Ytkjpdhnibfhaaaa.Cut Go.Proofs.Ytkjpdhnibfhaaaa.Build Go.Proofs.Ytkjpdhnibfhaaaa.KitA Go.Proofs.Ytkjpdhnibfhaaaa.KitC Go.Proofs.Ytkjpdhnibfhaaaa.KitG Go.Proofs.Ytkjpdhnibfhaaaa.KitH Go.Proofs.Ytkjpdhnibfhaaaa.KitI Go.Proofs.Ytkjpdhnibfhaaaa.PartA Go.Proofs.Ytkjpdhnibfhaaaa.PartP Go.Proofs.Ytkjpdhnibfhaaaa.PartB Go.Proofs.Ytkjpdhnibfhaaaa.PartC

set_option maxRecDepth 100000 in
set_option maxHeartbeats 1000000 in
theorem pick_any {x : Int} {n : Nat} (hn : 1 ≤ n) (hn2 : n ≤ 1000000000) (w : World) : Calls Try.prog 19 #[.int .i64 x, .int .i64 (n : Int)] w fun e w' => e = .returned (.int .i64 (x % (n : Int))) ∧ Below w.heap.size w w' := by
  have k1 : ¬ (n : Int) < 1 := by omega
  have k2 : (n : Int) ≠ 0 := by omega
  have key : (0 ≤ x.tmod n ∧ x.tmod n = x % n) ∨ (x.tmod n < 0 ∧ x.tmod n + n = x % n ∧ -(n : Int) < x.tmod n) := by
    have h := Int.tmod_eq_emod (a := x) (b := n)
    have e1 := Int.emod_nonneg x k2
    have e2 := Int.emod_lt_of_pos x (show (0 : Int) < (n : Int) by omega)
    split at h
    · left; omega
    · right
      rename_i hx
      have hne : x % (n : Int) ≠ 0 := fun e => hx (.inr (Int.dvd_of_emod_eq_zero e))
      simp only [Int.natAbs_natCast] at h
      omega
  go_enter Try.func19, Try.ntmps19
  go_upto_region 4 with fail
  generalize x.tmod n = m at *
  obtain ⟨r, hr⟩ : ∃ r, x % (n : Int) = r := ⟨_, rfl⟩
  rw [hr] at key
  have HR := Lib.hid hr; clear hr
  rcases key with ⟨q1, q2⟩ | ⟨q1, q2, q3⟩
  · have q3 : ¬ m < 0 := by omega
    subst q2
    go_wp2_with fail
    go_ret
    exact ⟨by rw [HR.out]; rfl, Below.refl _ _⟩
  · have q4 : -9223372036854775808 ≤ m + (n : Int) ∧ m + (n : Int) ≤ 9223372036854775807 := by omega
    go_wp2_with fail
    go_ret
    refine ⟨?_, Below.refl _ _⟩
    rw [HR.out, ← q2]
    rfl
/-- a row cut to one -/
theorem kids_one {w : World} {p : Option Addr} {l : List Nd} (h : KidsV w p l) (q : Nat) (hq : q < l.length) : ∃ g o, p = some ⟨g, o, none⟩ ∧ KidsV w (some ⟨g, o + q * 5, none⟩) [l[q]] := by
  rcases h with rfl | ⟨g, o, rfl, hn⟩
  · simp at hq
  · refine ⟨g, o, rfl, Or.inr ⟨g, o + q * 5, rfl, ?_⟩⟩
    have := NdsAt.get hn q hq
    rw [NdsAt, NdsAt]
    exact ⟨this, trivial⟩
end Go.Proofs.Ytkjpdhnibfhaaaa.PartD
/- A row of nodes of one's own: two of it changed about, one left out. -/
namespace Go.Proofs.Ytkjpdhnibfhaaaa.PartE
open Go Go.RowKit Go.Proofs.Ytkjpdhnibfhaaaa.Heap Go.Proofs.Ytkjpdhnibfhaaaa.Dat Go.Proofs.Ytkjpdhnibfhaaaa.Nodey Go.Proofs.Ytkjpdhnibfhaaaa.NodeA Go.Proofs.Ytkjpdhnibfhaaaa.NodeB Go.Proofs.Ytkjpdhnibfhaaaa.NodeF Go.Proofs.Ytkjpdhnibfhaaaa.NodeI Go.Proofs.Ytkjpdhnibfhaaaa.NodeK Go.Proofs.Ytkjpdhnibfhaaaa.NodeS Go.Proofs.Ytkjpdhnibfhaaaa.NodeT Go.Proofs.Ytkjpdhnibfhaaaa.NodeU Go.Proofs.Ytkjpdhnibfhaaaa.Cut Go.Proofs.Ytkjpdhnibfhaaaa.Build Go.Proofs.Ytkjpdhnibfhaaaa.KitA Go.Proofs.Ytkjpdhnibfhaaaa.KitC Go.Proofs.Ytkjpdhnibfhaaaa.KitG Go.Proofs.Ytkjpdhnibfhaaaa.KitH Go.Proofs.Ytkjpdhnibfhaaaa.KitI Go.Proofs.Ytkjpdhnibfhaaaa.PartA Go.Proofs.Ytkjpdhnibfhaaaa.PartP Go.Proofs.Ytkjpdhnibfhaaaa.PartB Go.Proofs.Ytkjpdhnibfhaaaa.PartC Go.Proofs.Ytkjpdhnibfhaaaa.PartD

abbrev Ent := Nd × Option Addr × Nat
def five (e : Ent) : List Value := [.int .u8 (e.1.kind : Int), .string e.1.text, .int .i64 e.1.num, .int .i64 e.1.at_, .slice e.2.1 e.1.kids.length e.2.2]
theorem rowOf_cons (e : Ent) (es : List Ent) : rowOf (e :: es) = five e ++ rowOf es := by obtain ⟨x, p, c⟩ := e; rfl
/-- out of data: the nodes' kids' rows -/
theorem lies_ents {w : World} {B : Nat} : ∀ (l : List Nd) (xs : List Value) (bs : List Nat), okL l → LiesL w B (ndsD l) xs bs → ∃ es : List Ent, es.map (·.1) = l ∧ rowOf es = xs ∧ ∀ w', (∀ i ∈ bs, w'.heap[i]? = w.heap[i]?) → ∀ e ∈ es, Ready w' e.2.1 e.2.2 e.1
  | [], xs, bs, _, h => by
    rw [ndsD, LiesL.nil] at h
    exact ⟨[], rfl, by rw [h.1]; rfl, fun _ _ e he => by cases he⟩
  | .mk k t n a l' :: l, xs, bs, hok, h => by
    rw [okL, okN] at hok
    rw [ndsD, ndD] at h
    simp only [List.cons_append, List.nil_append, LiesL.cons, Lies.lit_iff] at h
    obtain ⟨x0, xs0, b00, b01, rfl, rfl, ⟨rfl, rfl⟩, x1, xs1, b10, b11, rfl, rfl, ⟨rfl, rfl⟩, x2, xs2, b20, b21, rfl, rfl, ⟨rfl, rfl⟩, x3, xs3, b30, b31, rfl, rfl, ⟨rfl, rfl⟩, x4, xs4, b40, b41, rfl, rfl, h4, h5⟩ := h
    obtain ⟨es, h6, h7, h8⟩ := lies_ents l xs4 b41 hok.2 h5
    obtain ⟨p, c, rfl, hc, _⟩ := lies_kids hok.1.2.2 h4
    refine ⟨(.mk k t n a l', p, c) :: es, by simp [h6], by rw [rowOf_cons, h7]; rfl, fun w' hw e he => ?_⟩
    rcases List.mem_cons.1 he with rfl | he
    · obtain ⟨p2, c2, he2, hc2, hk2⟩ := lies_kids hok.1.2.2 (Lies.same h4 fun i hi => hw i (by simp [hi]))
      simp only [Value.slice.injEq] at he2
      obtain ⟨rfl, _, rfl⟩ := he2
      exact ⟨hk2, hc, hok.1.2.1, hok.1.1⟩
    · exact h8 w' (fun i hi => hw i (by simp [hi])) e he
/-- a row of one's own -/
structure OwnRow (w : World) (g : Nat) (cap : Nat) (es : List Ent) : Prop where
  cells : w.rangeAt g 0 (rowOf es)
  there : w.there g 0 (es.length * 5)
  lt : g < w.heap.size
  cap : es.length ≤ cap
  len : es.length ≤ 1000000
  kids : ∀ w', (∀ i, i < w.heap.size → i ≠ g → w'.heap[i]? = w.heap[i]?) → ∀ e ∈ es, Ready w' e.2.1 e.2.2 e.1
theorem own_of {w : World} {B : Nat} {l : List Nd} {v : Value} {bk : List Nat} (h : Lies w B (kidsD l) v bk) (hnd : bk.Nodup) (hok : okL l) (hl : l.length ≤ 1000000) (h0 : l ≠ []) : ∃ g cap es, v = .slice (some ⟨g, 0, none⟩) l.length cap ∧ es.map (·.1) = l ∧ B ≤ g ∧ OwnRow w g cap es := by
  have hL := h
  unfold kidsD at h
  rw [Lies.row_iff] at h
  rcases h.2 with ⟨h6, _, _⟩ | ⟨g, cap, ys, bs', rfl, hown, hl', rfl⟩
  · exact absurd (List.length_eq_zero_iff.1 h6) h0
  · obtain ⟨es, h1, h2, h3⟩ := lies_ents l ys bs' hok hl'
    have hel : es.length = l.length := by rw [← h1]; simp
    have hgl := hown.lt g rfl
    have hcap : l.length ≤ cap := by
      rcases hown.2 with ⟨h7, _⟩ | ⟨g2, cap2, cur, h7, _, _, h8, _⟩
      · cases h7
      · cases h7; exact h8
    have hbl := LiesL.lt hl'
    refine ⟨g, cap, es, rfl, h1, hgl.1, ⟨fun j v hj => ?_, ?_, hgl.2, by omega, by omega, fun w' hw e he => h3 w' (fun i hi => hw i (hbl i hi).2 fun e => (List.nodup_cons.1 hnd).1 (e ▸ hi)) e he⟩⟩
    · have := hown.cells (g := g) rfl j v (by rw [← h2]; exact hj)
      rwa [add0, ← Nat.zero_add j] at this
    · intro j hj
      have hj' : j < (ndsD l).length := by rw [ndsD_len]; omega
      obtain ⟨g', cap', y, b2, hv, _, _, _, _, hc, hf, _⟩ := (show Lies w B (.row 25 5 l.length (ndsD l)) _ _ from hL).at hnd j (List.getElem?_eq_getElem hj')
      simp only [Value.slice.injEq, Option.some.injEq, Addr.mk.injEq] at hv
      obtain ⟨⟨rfl, _⟩, _, rfl⟩ := hv
      rw [Nat.zero_add]
      exact ⟨by rw [hc]; rfl, hf⟩
theorem rowOf_at : ∀ (es : List Ent) (q : Nat) (hq : q < es.length) (r : Nat), r < 5 → (rowOf es)[q * 5 + r]? = (five es[q])[r]?
  | e :: es, 0, _, r, hr => by
    rw [rowOf_cons, Nat.zero_mul, Nat.zero_add, List.getElem?_append_left (by simpa [five] using hr)]; rfl
  | e :: es, q + 1, hq, r, hr => by
    rw [rowOf_cons, List.getElem?_append_right (by simp [five]; omega), show (q + 1) * 5 + r - (five e).length = q * 5 + r by simp [five]; omega]
    exact rowOf_at es q (by simpa using hq) r hr
/-- one of them -/
theorem OwnRow.one {w : World} {g cap : Nat} {es : List Ent} (h : OwnRow w g cap es) (q : Nat) (hq : q < es.length) : w.rangeAt g (q * 5) (five es[q]) := fun j v hj => by
  have hlt : j < 5 := by have := (List.getElem?_eq_some_iff.1 hj).1; simpa [five] using this
  have := h.cells (q * 5 + j) v (by rw [rowOf_at es q hq j hlt]; exact hj)
  rwa [Nat.zero_add] at this
theorem OwnRow.at_ {w : World} {g cap : Nat} {es : List Ent} (h : OwnRow w g cap es) (q : Nat) (hq : q < es.length) : w.there g (q * 5) 5 := fun j hj => by
  have := h.there (q * 5 + j) (by omega)
  rwa [Nat.zero_add] at this
theorem OwnRow.nds {w : World} {g cap : Nat} {es : List Ent} (h : OwnRow w g cap es) : NdsAt w g 0 (es.map (·.1)) :=
  nds_cells es 0 h.cells (h.kids w fun _ _ _ => rfl)
theorem OwnRow.kidsV {w : World} {g cap : Nat} {es : List Ent} (h : OwnRow w g cap es) : KidsV w (some ⟨g, 0, none⟩) (es.map (·.1)) := Or.inr ⟨g, 0, rfl, h.nds⟩
/-- one stored over -/
theorem OwnRow.put {w : World} {g cap : Nat} {es : List Ent} (h : OwnRow w g cap es) (q : Nat) (hq : q < es.length) (e : Ent) (he : ∀ w', (∀ i, i < w.heap.size → i ≠ g → w'.heap[i]? = w.heap[i]?) → Ready w' e.2.1 e.2.2 e.1) : OwnRow (w.setCells g (q * 5) (five e)) g cap (es.set q e) := by
  have hsz : ∀ (vs : List Value) (o : Nat) (w : World), (w.setCells g o vs).heap.size = w.heap.size := by
    intro vs
    induction vs with
    | nil => intro o w; rfl
    | cons v vs ih => intro o w; exact (ih _ _).trans (by simp)
  have hth := h.at_ q hq
  refine ⟨fun j v hj => ?_, ?_, by rw [hsz]; exact h.lt, by simpa using h.cap, by simpa using h.len, fun w' hw e' he' => ?_⟩
  · have hjl : j < es.length * 5 := by
      have := (List.getElem?_eq_some_iff.1 hj).1
      rw [Build.rowOf_len] at this
      simpa using this
    have hj5 : j = (j / 5) * 5 + j % 5 := by omega
    have hq5 : j / 5 < es.length := by omega
    have hr5 : j % 5 < 5 := by omega
    rw [hj5, rowOf_at _ (j / 5) (by simpa using hq5) _ hr5] at hj
    rw [Nat.zero_add, hj5]
    by_cases hqe : j / 5 = q
    · subst hqe
      rw [List.getElem_set_self] at hj
      exact World.rangeAt_setCells_same w g _ (five e) (by simpa [five] using hth) (j % 5) v hj
    · rw [List.getElem_set_ne (fun e => hqe e.symm)] at hj
      exact World.rangeAt_setCells_apart (h.one (j / 5) hq5) g (q * 5) (five e) (by right; simp only [five, List.length_cons, List.length_nil]; omega) (j % 5) v hj
  · have := World.there_setCells h.there g (q * 5) (five e)
    simpa using this
  · have hw2 : ∀ i, i < w.heap.size → i ≠ g → w'.heap[i]? = w.heap[i]? := fun i hi hg => (hw i (by rw [hsz]; exact hi) hg).trans (far_cells hg _ _ _)
    rcases List.mem_or_eq_of_mem_set he' with hm | rfl
    · exact h.kids w' hw2 e' hm
    · exact he w' hw2
/-- two changed about -/
theorem OwnRow.swap {w : World} {g cap : Nat} {es : List Ent} (h : OwnRow w g cap es) (i k : Nat) (hi : i < es.length) (hk : k < es.length) : OwnRow ((w.setCells g (i * 5) (five es[k])).setCells g (k * 5) (five es[i])) g cap ((es.set i es[k]).set k es[i]) := by
  have h1 := h.put i hi es[k] fun w' hw => h.kids w' hw _ (List.getElem_mem hk)
  refine h1.put k (by simpa using hk) es[i] fun w' hw => h.kids w' (fun j hj hg => ?_) _ (List.getElem_mem hi)
  have hsz : ∀ (vs : List Value) (o : Nat) (w : World), (w.setCells g o vs).heap.size = w.heap.size := by
    intro vs
    induction vs with
    | nil => intro o w; rfl
    | cons v vs ih => intro o w; exact (ih _ _).trans (by simp)
  exact (hw j (by rw [hsz]; exact hj) hg).trans (far_cells hg _ _ _)
theorem OwnRow.below {w w' : World} {g cap : Nat} {es : List Ent} (h : OwnRow w g cap es) (hb : Below w.heap.size w w') : OwnRow w' g cap es := by
  have hg := hb.block g h.lt
  refine ⟨fun j v hj => (World.cell?_of_block hg).trans (h.cells j v hj), fun j hj => ?_, Nat.lt_of_lt_of_le h.lt hb.size, h.cap, h.len, fun w2 hw e he => h.kids w2 (fun i hi hn => (hw i (Nat.lt_of_lt_of_le hi hb.size) hn).trans (hb.block i hi)) e he⟩
  have := h.there j hj
  exact ⟨by rw [World.cell?_of_block hg]; exact this.1, by rw [World.frozen?_of_block hg]; exact this.2⟩
theorem size_cells {g : Nat} : ∀ (vs : List Value) (o : Nat) (w : World), (w.setCells g o vs).heap.size = w.heap.size
  | [], _, _ => rfl
  | v :: vs, o, w => (size_cells vs (o + 1) _).trans (by simp)
theorem below_cells {B g : Nat} {w0 : World} (hg : B ≤ g) : ∀ (vs : List Value) (o : Nat) {w : World}, Below B w0 w → Below B w0 (w.setCells g o vs)
  | [], _, _, h => h
  | v :: vs, o, _, h => below_cells hg vs (o + 1) (h.setCell hg v)
theorem exec_store_mid {P : Program} {e : Operand → Value} {op : Oper} {w : World} (ty : TypeId) (x y : Operand) (ho : op.op = .store ty x y) (b o : Nat) (cells : Array Value) (hx : e x = .pointer (some ⟨b, o, none⟩)) (hy : e y = .agg cells)
    (ht : w.there b o cells.size) (hi : (P.info? ty).map (·.size) = some cells.size) (h1 : cells.all (·.oneCell') = true) : (execOp e op).run P w = .ok .skip (w.setCells b o cells.toList) := by
  unfold execOp
  simp only [ho, hx, hy, Instr.storeAt, Instr.sureAddr, Sem.run_bind, Sem.run_pure, Result.andThen_ok, run_storeVar_mid w b o ty cells ht hi h1]
/-- the rest of a row, behind one -/
theorem slice_tail (g n cap q : Nat) (hq : q < n) (hn : n ≤ cap) : ∃ ad : Addr, (∀ w, (Instr.sliceAt 23 (.slice (some ⟨g, 0, none⟩) n cap) (some (.int .i64 ((q : Int) + 1))) none none).run Try.prog w = .ok (.slice (some ad) (n - (q + 1)) (cap - (q + 1))) w) ∧ (n = q + 1 ∨ ad = ⟨g, (q + 1) * 5, none⟩) := by
  have j0 : (0 : Int) ≤ (q : Int) + 1 := by omega
  have j1 : (q : Int) + 1 ≤ (n : Int) := by omega
  have j2 : (q : Int) + 1 ≤ (cap : Int) := by omega
  have hto : ((q : Int) + 1).toNat = q + 1 := by omega
  by_cases hc : cap = q + 1
  · refine ⟨⟨g, 0, none⟩, fun w => ?_, .inl (by omega)⟩
    go_simp
  · refine ⟨⟨g, (q + 1) * 5, none⟩, fun w => ?_, .inr rfl⟩
    go_simp
/-- one left out, the others drawn together -/
theorem OwnRow.less_cells {w : World} {g cap : Nat} {es : List Ent} (h : OwnRow w g cap es) (q : Nat) (hq : q < es.length) : (w.setCells g (q * 5) (rowOf (es.drop (q + 1)))).rangeAt g 0 (rowOf (es.take q ++ es.drop (q + 1))) := fun j v hj => by
  have happ : ∀ a b : List Ent, rowOf (a ++ b) = rowOf a ++ rowOf b := by
    intro a b
    induction a with
    | nil => rfl
    | cons x a ih => rw [List.cons_append, rowOf_cons, rowOf_cons, ih, List.append_assoc]
  rw [happ] at hj
  have hlt : (rowOf (es.take q)).length = q * 5 := by rw [Build.rowOf_len]; simp; omega
  by_cases hjq : j < q * 5
  · rw [List.getElem?_append_left (by omega)] at hj
    have h1 : (rowOf es)[j]? = some v := by
      have := happ (es.take q) (es.drop q)
      rw [List.take_append_drop] at this
      rw [this, List.getElem?_append_left (by omega)]; exact hj
    have h2 := h.cells j v h1
    rw [World.cell?_setCells_out g _ _ w ⟨g, 0 + j, none⟩ (fun _ _ => Or.inl (by show 0 + j < q * 5; omega))]
    exact h2
  · rw [List.getElem?_append_right (by omega), hlt] at hj
    have hth : w.there g (q * 5) (rowOf (es.drop (q + 1))).length := fun i hi => by
      have := h.there (q * 5 + i) (by rw [Build.rowOf_len] at hi; simp at hi; omega)
      rwa [Nat.zero_add] at this
    have := World.rangeAt_setCells_same w g (q * 5) _ hth (j - q * 5) v hj
    rwa [show q * 5 + (j - q * 5) = 0 + j by omega] at this
theorem OwnRow.less {w w2 : World} {g cap : Nat} {es : List Ent} (h : OwnRow w g cap es) (q : Nat) (hc : w2.rangeAt g 0 (rowOf (es.take q ++ es.drop (q + 1)))) (hk : ∀ i, i < w.heap.size → i ≠ g → w2.heap[i]? = w.heap[i]?) : KidsV w2 (some ⟨g, 0, none⟩) ((es.take q ++ es.drop (q + 1)).map (·.1)) := by
  refine Or.inr ⟨g, 0, rfl, nds_cells _ 0 hc fun e he => h.kids w2 hk e ?_⟩
  rcases List.mem_append.1 he with he | he
  · exact List.mem_of_mem_take he
  · exact List.mem_of_mem_drop he
theorem rowOf_app : ∀ a b : List Ent, rowOf (a ++ b) = rowOf a ++ rowOf b
  | [], b => rfl
  | x :: a, b => by rw [List.cons_append, rowOf_cons, rowOf_cons, rowOf_app a b, List.append_assoc]
theorem rowOf_one : ∀ (a : List Ent), ∀ u ∈ rowOf a, u.oneCell' = true
  | [], u, h => by cases h
  | x :: a, u, h => by
    rw [rowOf_cons] at h
    rcases List.mem_append.1 h with h | h
    · simp only [five, List.mem_cons, List.not_mem_nil, or_false] at h
      rcases h with rfl | rfl | rfl | rfl | rfl <;> rfl
    · exact rowOf_one a u h
theorem OwnRow.head {w : World} {g cap : Nat} {es : List Ent} (h : OwnRow w g cap es) (q : Nat) : w.rangeAt g 0 (rowOf (es.take q)) := fun j v hj => by
  refine h.cells j v ?_
  have := rowOf_app (es.take q) (es.drop q)
  rw [List.take_append_drop] at this
  rw [this, List.getElem?_append_left (List.getElem?_eq_some_iff.1 hj).1]; exact hj
theorem OwnRow.tail {w : World} {g cap : Nat} {es : List Ent} (h : OwnRow w g cap es) (q : Nat) (hq : q ≤ es.length) : w.rangeAt g (q * 5) (rowOf (es.drop q)) := fun j v hj => by
  have h2 := h.cells (q * 5 + j) v (by
    have := rowOf_app (es.take q) (es.drop q)
    rw [List.take_append_drop] at this
    have hl : (rowOf (es.take q)).length = q * 5 := by rw [Build.rowOf_len]; simp; omega
    rw [this, List.getElem?_append_right (by omega), hl, show q * 5 + j - q * 5 = j by omega]; exact hj)
  rwa [Nat.zero_add] at h2
theorem ent_swap {es : List Ent} {l : List Nd} (h : es.map (·.1) = l) (i k : Nat) (hi : i < es.length) (hk : k < es.length) (hi' : i < l.length) (hk' : k < l.length) : ((es.set i es[k]).set k es[i]).map (·.1) = swapL l i k hi' hk' := by
  subst h
  unfold swapL
  rw [List.map_set, List.map_set]
  simp
theorem ent_less {es : List Ent} {l : List Nd} (h : es.map (·.1) = l) (i : Nat) : (es.take i ++ es.drop (i + 1)).map (·.1) = lessL l i := by
  subst h
  unfold lessL
  simp
end Go.Proofs.Ytkjpdhnibfhaaaa.PartE
