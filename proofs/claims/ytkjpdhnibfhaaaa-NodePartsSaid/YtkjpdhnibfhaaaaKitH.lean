/- node.Bare: a tree without places, its kids' row lies apart. -/
import Derived.Test.YtkjpdhnibfhaaaaKitG
import Derived.Test.YtkjpdhnibfhaaaaKitC
import Derived.Deep.Cut
namespace Go.Proofs.Ytkjpdhnibfhaaaa.KitH
open Go Go.RowKit Go.Proofs.Ytkjpdhnibfhaaaa.Heap Go.Proofs.Ytkjpdhnibfhaaaa.Dat Go.Proofs.Ytkjpdhnibfhaaaa.Nodey Go.Proofs.Ytkjpdhnibfhaaaa.NodeA Go.Proofs.Ytkjpdhnibfhaaaa.NodeB Go.Proofs.Ytkjpdhnibfhaaaa.NodeF Go.Proofs.Ytkjpdhnibfhaaaa.NodeI Go.Proofs.Ytkjpdhnibfhaaaa.NodeK Go.Proofs.Ytkjpdhnibfhaaaa.NodeS Go.Proofs.Ytkjpdhnibfhaaaa.NodeT Go.Proofs.Ytkjpdhnibfhaaaa.NodeU Go.Proofs.Ytkjpdhnibfhaaaa.Cut Go.Proofs.Ytkjpdhnibfhaaaa.Build Go.Proofs.Ytkjpdhnibfhaaaa.KitA Go.Proofs.Ytkjpdhnibfhaaaa.KitC Go.Proofs.Ytkjpdhnibfhaaaa.KitG

theorem bareL_len : ∀ l : List Nd, (bareL l).length = l.length
  | [] => by rw [bareL]
  | x :: l => by rw [bareL, List.length_cons, List.length_cons, bareL_len l]
theorem bareL_take : ∀ (l : List Nd) (k : Nat) (hk : k < l.length), bareL (l.take (k + 1)) = bareL (l.take k) ++ [bareN (l[k]'hk)]
  | x :: l, 0, _ => by simp [bareL]
  | x :: l, k + 1, hk => by
    have := bareL_take l k (by simpa using hk)
    simp only [List.take_succ_cons, bareL, List.cons_append, List.getElem_cons_succ]
    rw [this]
/-- the row of what is bare -/
def bareD (l : List Nd) : Dat := .row 25 5 l.length (ndsD (bareL l))
def BareOK (x : Nd) : Prop := ∀ (p : Option Addr) (c : Nat) (w : World), Ready w p c x → Calls Try.prog 16 #[.agg (nodeC x p c)] w fun e w' => ∃ p' c' bk, e = .returned (.agg #[.int .u8 (x.kind : Int), .string x.text, .int .i64 x.num, .int .i64 0, .slice p' x.kids.length c']) ∧ Lies w' w.heap.size (bareD x.kids) (.slice p' x.kids.length c') bk ∧ bk.Nodup ∧ Below w.heap.size w w'
theorem lies_set {w : World} {B b i : Nat} {d : Dat} {v u : Value} {bk : List Nat} (h : Lies w B d v bk) (hb : b < B) : Lies (w.setCell ⟨b, i, none⟩ u) B d v bk :=
  Lies.kept (Heap.grown_set w ⟨b, i, none⟩ u) h fun k hk e => by have := (Lies.lt h k hk).1; have : k = b := Option.some.inj e; omega
theorem row_slice {w : World} {B E S n : Nat} {items : List Dat} {v : Value} {bk : List Nat} (h : Lies w B (.row E S n items) v bk) : ∃ a c, v = .slice a n c := by
  obtain ⟨xs, bs', hown, _⟩ := h.own
  rcases hown.2 with ⟨h, h0⟩ | ⟨g, cap, cur, h, _⟩
  · exact ⟨none, 0, by rw [h, h0]⟩
  · exact ⟨_, _, h⟩
/-- behind an append: below its row's base all is as it was -/
theorem append_low {w wa : World} {B E S n : Nat} {items : List Dat} {rv : Value} {bk : List Nat} (hL : Lies w B (.row E S n items) rv bk) (hB : B ≤ w.heap.size) (h : w.grownBy wa none ∨ ∃ wx, w.grownBy wx none ∧ wx.grownBy wa rv.ownBlock) : Below B w wa := by
  rcases h with h | ⟨wx, h1, h2⟩
  · exact (Below.refl B w).grown h hB (fun j hj => by cases hj)
  · refine ((Below.refl B w).grown h1 hB (fun j hj => by cases hj)).grown h2 (Nat.le_trans hB h1.size) (fun j hj => ?_)
    obtain ⟨xs, bs', _, _, hob, _⟩ := hL.own
    rcases hob with ⟨h0, _, _⟩ | ⟨q, hq, hb⟩
    · rw [h0] at hj; cases hj
    · have : q = j := Option.some.inj (hq.symm.trans hj)
      exact (Lies.lt hL j (by rw [hb, this]; simp)).1
/-- the loop's state -/
structure BareI (w wr : World) (H : Nat) (k0 n : Int) (t : ByteArray) (l : List Nd) (k : Nat) (v : Value) (bk : List Nat) : Prop where
  out : wr.heap[H + 2]? = some (.cells #[.int .u8 k0, .string t, .int .i64 n, .int .i64 0, v] 25 (0, 0))
  res : wr.heap[H + 1]? = some (.cells #[.int .u8 0, .string { data := #[] }, .int .i64 0, .int .i64 0, .slice none 0 0] 25 (0, 0))
  lies : Lies wr (H + 3) (bareD (l.take k)) v bk
  nodup : bk.Nodup
  below : Below H w wr
theorem BareI.low {w wr w2 : World} {H k : Nat} {k0 n : Int} {t : ByteArray} {l : List Nd} {v : Value} {bk : List Nat} (h : BareI w wr H k0 n t l k v bk) (hb : Below wr.heap.size wr w2) : BareI w w2 H k0 n t l k v bk := by
  have h1 := (Array.getElem?_eq_some_iff.1 h.out).1
  exact ⟨(hb.block _ h1).trans h.out, (hb.block _ (by omega)).trans h.res, h.lies.below hb fun b hb => (Lies.lt h.lies b hb).2, h.nodup, h.below.trans (hb.mono (by have := h1; omega))⟩
set_option maxRecDepth 100000 in
set_option maxHeartbeats 4000000 in
theorem bare_step {kk : Nat} {t : ByteArray} {n a : Int} {l : List Nd} (ih : ∀ y ∈ l, BareOK y) : BareOK (.mk kk t n a l) := by
  intro p c w hr
  obtain ⟨ti, hi, hz, hsz, hby⟩ := nodeInfo
  have HK := Lib.hid (show KidsV w p l from hr.kids); have HIH := Lib.hid ih
  have HLN := Lib.hid (show l.length ≤ 1000000 from hr.len)
  show Calls Try.prog 16 #[.agg #[.int .u8 (kk : Int), .string t, .int .i64 n, .int .i64 a, .slice p l.length c]] w fun e w' => ∃ p' c' bk, e = .returned (.agg #[.int .u8 (kk : Int), .string t, .int .i64 n, .int .i64 0, .slice p' l.length c']) ∧ Lies w' w.heap.size (bareD l) (.slice p' l.length c') bk ∧ bk.Nodup ∧ Below w.heap.size w w'
  clear hr ih
  generalize (kk : Int) = k0 at *
  generalize hnk : l.length = nk at *
  have HNK := Lib.hid hnk; clear hnk
  have HB := Lib.hid (((Below.refl w.heap.size w).alloc (Nat.le_refl _) (.cells #[.int .u8 k0, .string t, .int .i64 n, .int .i64 a, .slice p nk c] 25)).alloc (by simp) (.cells #[.int .u8 0, .string { data := #[] }, .int .i64 0, .int .i64 0, .slice none 0 0] 25))
  have HA := Lib.hid ((Box5.new (w := w) (v0 := .int .u8 k0) (v1 := .string t) (v2 := .int .i64 n) (v3 := .int .i64 a) (v4 := .slice p nk c) (T := 25)).below ((Below.refl _ _).alloc (Nat.le_refl _) (.cells #[.int .u8 0, .string { data := #[] }, .int .i64 0, .int .i64 0, .slice none 0 0] 25)))
  have hsz2 : ((w.alloc (.cells #[.int .u8 k0, .string t, .int .i64 n, .int .i64 a, .slice p nk c] 25)).alloc (.cells #[.int .u8 0, .string { data := #[] }, .int .i64 0, .int .i64 0, .slice none 0 0] 25)).heap.size = w.heap.size + 2 := by simp
  have HSZ := Lib.hid hsz2; clear hsz2
  have HOB := Lib.hid (show ((w.alloc (.cells #[.int .u8 k0, .string t, .int .i64 n, .int .i64 a, .slice p nk c] 25)).alloc (.cells #[.int .u8 0, .string { data := #[] }, .int .i64 0, .int .i64 0, .slice none 0 0] 25)).heap[w.heap.size + 1]? = some (.cells #[.int .u8 0, .string { data := #[] }, .int .i64 0, .int .i64 0, .slice none 0 0] 25 (0, 0)) from alloc2 w _ _)
  go_enter Try.func16, Try.ntmps16
  go_upto_region 1 with fail
  generalize ((w.alloc (.cells #[.int .u8 k0, .string t, .int .i64 n, .int .i64 a, .slice p nk c] 25)).alloc (.cells #[.int .u8 0, .string { data := #[] }, .int .i64 0, .int .i64 0, .slice none 0 0] 25)) = W at *
  generalize hH : w.heap.size = H at *
  have HHH := Lib.hid hH; clear hH
  obtain ⟨a0, a1, a2, a3, a4⟩ := HA.out
  have HI0 : Hid (BareI w (W.alloc (.cells #[.int .u8 k0, .string t, .int .i64 n, .int .i64 0, .slice none 0 0] 25)) H k0 n t l 0 (.slice none 0 0) []) := by
    have h0 := heap_alloc_new W (.cells #[.int .u8 k0, .string t, .int .i64 n, .int .i64 0, .slice none 0 0] 25)
    rw [HSZ.out] at h0
    exact Lib.hid ⟨h0, (Below.heap_alloc _ _ _ (by have := HSZ.out; omega)).trans HOB.out, by rw [List.take_zero]; exact Lies.nil _ _ _ _, List.nodup_nil, HB.out.alloc (by have := HSZ.out; omega) _⟩
  have hsz3 : (W.alloc (.cells #[.int .u8 k0, .string t, .int .i64 n, .int .i64 0, .slice none 0 0] 25)).heap.size = H + 3 := by simp [HSZ.out]
  have HS3 := Lib.hid hsz3; clear hsz3
  go_upto_region 2 with fail
  rw [HSZ.out]
  have a4' := (Below.cell ((Below.refl W.heap.size W).alloc (Nat.le_refl _) (.cells #[.int .u8 k0, .string t, .int .i64 n, .int .i64 0, .slice none 0 0] 25)) (World.block_lt_of_cell? _ _ a4)).trans a4
  clear a0 a1 a2 a3 a4
  have a4 := a4'; clear a4'
  clear HA HOB HB HSZ
  generalize W.alloc (.cells #[.int .u8 k0, .string t, .int .i64 n, .int .i64 0, .slice none 0 0] 25) = W2 at *
  go_wp2_with fail
  clear a4
  go_loopg [5, 16] nk (fun gk _ i wr => ∃ (k : Nat) (v : Value) (bk : List Nat), k ≤ nk ∧ gk = nk - k ∧ i = .int .i64 (k : Int) ∧ BareI w wr H k0 n t l k v bk)
  case atStart => exact ⟨0, _, [], by omega, by omega, rfl, HI0.out⟩
  case round =>
    obtain ⟨k, v, bk, hk, rfl, rfl, hI⟩ := hrel
    have HI := Lib.hid hI; clear hI HI0
    by_cases hlt : k < nk
    · have hkl : k < l.length := by have := HNK.out; omega
      obtain ⟨gs, o, p', c', hp, hkr, d0, d1, d2, d3, d4⟩ := kids_kid HK.out k hkl
      subst hp
      have hmem : l[k]'hkl ∈ l := List.getElem_mem hkl
      have HIY := Lib.hid (fun u hu => HIH.out _ hmem p' c' u hu)
      have HKR := Lib.hid hkr
      have HTK := Lib.hid (bareL_take l k hkl)
      clear hmem hkr
      generalize l[k]'hkl = y at *
      unfold nodeC at HIY
      have hgl : H + 2 < wr.heap.size := (Array.getElem?_eq_some_iff.1 HI.out.out).1
      have j0 : (0 : Int) ≤ (k : Int) := by omega
      have j1 : (k : Int) < (nk : Int) := by omega
      have hbw := HI.out.below
      rw [← HHH.out] at hbw
      have HBW := Lib.hid hbw; clear hbw
      have m0 := cell_on HBW.out d0; have m1 := cell_on HBW.out d1; have m2 := cell_on HBW.out d2; have m3 := cell_on HBW.out d3; have m4 := cell_on HBW.out d4
      clear d0 d1 d2 d3 d4
      generalize hyl : y.kids.length = y4 at *
      generalize hy0 : y.kind = y0 at *
      generalize hy1 : y.text = y1 at *
      generalize hy2 : y.num = y2 at *
      generalize hy3 : y.at_ = y3 at *
      have HYL := Lib.hid hyl; clear hyl
      have HY0 := Lib.hid hy0; have HY1 := Lib.hid hy1; have HY2 := Lib.hid hy2; clear hy0 hy1 hy2 hy3
      obtain ⟨va, vc, rfl⟩ := row_slice HI.out.lies
      have hlen : (l.take k).length = k := by rw [List.length_take]; omega
      rw [hlen] at HI
      have HI5 := Lib.hid (HI.out.low ((Below.refl _ wr).alloc (Nat.le_refl _) (.cells #[.int .u8 (y0 : Int), .string y1, .int .i64 y2, .int .i64 y3, .slice p' y4 c'] 25)))
      have HX5 := Lib.hid (Box5.new (w := wr) (v0 := .int .u8 (y0 : Int)) (v1 := .string y1) (v2 := .int .i64 y2) (v3 := .int .i64 y3) (v4 := .slice p' y4 c') (T := 25))
      have HS5 := Lib.hid (show (wr.alloc (.cells #[.int .u8 (y0 : Int), .string y1, .int .i64 y2, .int .i64 y3, .slice p' y4 c'] 25)).heap.size = wr.heap.size + 1 by simp)
      have HR5 := Lib.hid (HKR.out.below (HBW.out.alloc HBW.out.size (.cells #[.int .u8 (y0 : Int), .string y1, .int .i64 y2, .int .i64 y3, .slice p' y4 c'] 25)))
      go_upto_region 5 with fail
      clear m0 m1 m2 m3 m4 HI
      generalize wr.alloc (.cells #[.int .u8 (y0 : Int), .string y1, .int .i64 y2, .int .i64 y3, .slice p' y4 c'] 25) = w5 at *
      have c4 : w5.cell? ⟨H + 2, 4, none⟩ = some (.slice va k vc) := cell_of_row w5 (H + 2) 4 _ _ _ HI5.out.out
      have f4 := frozen_of_row w5 (H + 2) 4 _ _ HI5.out.out
      have hL := HI5.out.lies
      unfold bareD at hL
      rw [hlen] at hL
      refine append8 (α := Option Addr × Nat) (val := fun x => .agg #[.int .u8 (y0 : Int), .string y1, .int .i64 y2, .int .i64 0, .slice x.1 y4 x.2]) (us := fun x => [.int .u8 (y0 : Int), .string y1, .int .i64 y2, .int .i64 0, .slice x.1 y4 x.2]) (ds := fun _ => ndD (bareN y)) (X := fun _ _ => True) (S2 := fun u => Box5 u wr.heap.size (.int .u8 (y0 : Int)) (.string y1) (.int .i64 y2) (.int .i64 y3) (.slice p' y4 c')) (rr := none) (H := H + 2) (fo := 4) (B := H + 3) (bk := bk) (items := ndsD (bareL (l.take k))) (n := k) (E := 25) (S := 5) (R := 23) (bytes := 64) (ti := ti) (z := .agg zeros) (v2 := .agg #[.int .u8 (y0 : Int), .string y1, .int .i64 y2, .int .i64 y3, .slice p' y4 c']) (f := 16) (args := #[.agg #[.int .u8 (y0 : Int), .string y1, .int .i64 y2, .int .i64 y3, .slice p' y4 c']]) (by kernel_rfl) (by kernel_rfl) (loose_block (loose_then (loose_then (loose_block (loose_then loose_body))))) c4 f4 hL HI5.out.nodup (by omega) (by have := HS5.out; omega) Try.underlying23 hi hz hsz hby (by rfl) (by omega) (by have := HLN.out; omega) (by omega) ?hus ?y0 ?y1 (HX5.out.below (Below.refl _ _).drew) (fun u o hu => hu.below ((Below.refl _ _).alloc (Nat.le_refl _) o)) ?y2 ?y3 ?hc ?y4 (by rfl) ?y5a ?y5b ?y6 ?y7 ?hfin
      case hus => intro x; exact ⟨rfl, ndD_len _, by simp [Value.oneCell']⟩
      case y0 => intro u; go_simp
      case y1 => intro u hu; go_simp
      case y2 => intro u hu; obtain ⟨e0, e1, e2, e3, e4⟩ := hu; go_simp
      case y3 => intro u; go_simp
      case y4 => intro x u; go_simp
      case y5a => intro x v4; rfl
      case y5b => intro x v4; rfl
      case y6 => intro x v4 v5 u; go_simp
      case y7 => intro x v4 gg cp u h0 h1; go_simp
      case hc =>
        refine (HIY.out _ (HR5.out.below (Below.refl _ _).drew)).mono ?_
        rintro e w6 ⟨q1, q2, bq, rfl, hq, hqn, hqb⟩
        refine .inr ⟨(q1, q2), bq ++ [], rfl, trivial, (HX5.out.below (Below.refl _ _).drew).below hqb, ⟨?_, by simpa using hqn, grown_below ((Below.refl _ _).drew.trans hqb) none, fun j hj => by cases hj⟩⟩
        obtain ⟨yk, yt, yn, ya, yl⟩ := y
        have e0 : yk = y0 := HY0.out
        have e1 : yt = y1 := HY1.out
        have e2 : yn = y2 := HY2.out
        have e3 : yl.length = y4 := HYL.out
        subst e0 e1 e2 e3
        rw [bareN, ndD, bareL_len]
        exact LiesL.lit (LiesL.lit (LiesL.lit (LiesL.lit (LiesL.more hq (LiesL.nil.2 ⟨rfl, rfl⟩)))))
      case hfin =>
        rintro ⟨q1, q2⟩ w6 wa gg cp bk' v4 _ _ hgw hL' hnd' hbk hsz6 hH'
        have hlow := append_low hL (by have := HS5.out; omega) hgw
        have hz6 := HS5.out
        show (_ : Act → World → Prop) _ _
        refine (by assumption : ∀ a' w', Code.wp _ _ _ a' w' → _) _ _ ?_
        simp only [Act.put, List.setIfInBounds_toArray, List.set_cons_succ, List.set_cons_zero]
        have hnew : BareI w (wa.setCell ⟨H + 2, 4, none⟩ (.slice (some ⟨gg, 0, none⟩) (k + 1) cp)) H k0 n t l (k + 1) (.slice (some ⟨gg, 0, none⟩) (k + 1) cp) bk' := by
          refine ⟨blk_set ((hlow.block _ (by omega)).trans HI5.out.out) 4 _, (Below.heap_setCell _ _ _ _ (by simp)).trans ((hlow.block _ (by omega)).trans HI5.out.res), ?_, hnd', (HI5.out.below.trans (hlow.mono (by omega))).setCell (by show H ≤ H + 2; omega) _⟩
          unfold bareD
          rw [HTK.out, ndsD_snoc, List.length_take, Nat.min_eq_left (by omega)]
          exact hL'
        have HN := Lib.hid hnew
        clear hnew hL' hbk hH' hgw hlow
        generalize wa.setCell ⟨H + 2, 4, none⟩ (.slice (some ⟨gg, 0, none⟩) (k + 1) cp) = w8 at *
        go_wp2_with fail
        go_roundg (nk - (k + 1))
        case measure => omega
        case rel =>
          have hln := HLN.out
          have hwk : wrap64 ((k : Int) + 1) = ((k + 1 : Nat) : Int) := (IntWalk.wrap64_in ((k : Int) + 1) ⟨by omega, by omega⟩).trans (by omega)
          exact ⟨k + 1, _, bk', hlt, rfl, congrArg (Value.int .i64) hwk, HN.out⟩
    · obtain rfl : k = nk := by omega
      have htk : l.take k = l := List.take_of_length_le (by have := HNK.out; omega)
      have hLk := HI.out.lies
      rw [htk] at hLk
      obtain ⟨va, vc, rfl⟩ := row_slice hLk
      rw [HNK.out] at hLk HI
      obtain ⟨e0, e1, e2, e3, e4⟩ := box_of HI.out.out
      have hRS := HI.out.res
      obtain ⟨b0, b1, b2, b3, b4⟩ := box_of hRS
      have fb0 := frozen_of_row wr (H + 1) 0 _ _ hRS; have fb1 := frozen_of_row wr (H + 1) 1 _ _ hRS; have fb2 := frozen_of_row wr (H + 1) 2 _ _ hRS; have fb3 := frozen_of_row wr (H + 1) 3 _ _ hRS; have fb4 := frozen_of_row wr (H + 1) 4 _ _ hRS
      have HLK := Lib.hid hLk
      clear hLk htk
      have hsz := (Array.getElem?_eq_some_iff.1 HI.out.out).1
      go_wp2_with fail
      have hx := blk_set (blk_set (blk_set (blk_set (blk_set hRS 0 (.int .u8 k0)) 1 (.string t)) 2 (.int .i64 n)) 3 (.int .i64 0)) 4 (.slice va k vc)
      refine bodyPost_ret (res_node rfl (box_of hx) rfl) rfl ⟨va, vc, bk, rfl, ?_, HI.out.nodup, ?_⟩
      · rw [HHH.out]
        exact (lies_set (lies_set (lies_set (lies_set (lies_set HLK.out (by omega)) (by omega)) (by omega)) (by omega)) (by omega)).base (by omega)
      · rw [HHH.out]
        exact ((((HI.out.below.setCell (Nat.le_succ _) _).setCell (Nat.le_succ _) _).setCell (Nat.le_succ _) _).setCell (Nat.le_succ _) _).setCell (Nat.le_succ _) _
theorem bare_any : ∀ x : Nd, BareOK x
  | .mk k t n a l => bare_step fun y _hy => bare_any y
  termination_by x => SizeOf.sizeOf x
  decreasing_by have := List.sizeOf_lt_of_mem _hy; simp; omega
end Go.Proofs.Ytkjpdhnibfhaaaa.KitH
