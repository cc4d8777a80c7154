/- NodeGreat, walked. -/
import Derived.Test.YtkjpdhnibfhaaaaNodeY
import Derived.OwnWalk
import Derived.Laws.OwnMore
import Derived.Deep.Cut
namespace Go.Proofs.Ytkjpdhnibfhaaaa.NodeZ
open Go Go.RowKit Go.Proofs.Ytkjpdhnibfhaaaa.Nodey Go.Proofs.Ytkjpdhnibfhaaaa.NodeA Go.Proofs.Ytkjpdhnibfhaaaa.NodeB Go.Proofs.Ytkjpdhnibfhaaaa.NodeF Go.Proofs.Ytkjpdhnibfhaaaa.NodeI Go.Proofs.Ytkjpdhnibfhaaaa.NodeK Go.Proofs.Ytkjpdhnibfhaaaa.NodeM Go.Proofs.Ytkjpdhnibfhaaaa.NodeS Go.Proofs.Ytkjpdhnibfhaaaa.NodeT Go.Proofs.Ytkjpdhnibfhaaaa.NodeU Go.Proofs.Ytkjpdhnibfhaaaa.Cut Go.Proofs.Ytkjpdhnibfhaaaa.Build Go.Proofs.Ytkjpdhnibfhaaaa.NodeV Go.Proofs.Ytkjpdhnibfhaaaa.NodeW Go.Proofs.Ytkjpdhnibfhaaaa.NodeX Go.Proofs.Ytkjpdhnibfhaaaa.NodeY

theorem own_five {w : World} {B T g N k : Nat} {xs : List Value} (h : w.ownsRow B T 5 (.slice (some ⟨g, 0, none⟩) N N) N xs) (hk : k < N) : ∃ u0 u1 u2 u3 u4, w.cell? ⟨g, k * 5, none⟩ = some u0 ∧ w.cell? ⟨g, k * 5 + 1, none⟩ = some u1 ∧ w.cell? ⟨g, k * 5 + 2, none⟩ = some u2 ∧ w.cell? ⟨g, k * 5 + 3, none⟩ = some u3 ∧ w.cell? ⟨g, k * 5 + 4, none⟩ = some u4 ∧
    w.frozen? ⟨g, k * 5, none⟩ = false ∧ w.frozen? ⟨g, k * 5 + 1, none⟩ = false ∧ w.frozen? ⟨g, k * 5 + 2, none⟩ = false ∧ w.frozen? ⟨g, k * 5 + 3, none⟩ = false ∧ w.frozen? ⟨g, k * 5 + 4, none⟩ = false := by
  have hlen := h.1
  have hc := fun j (hj : j < N * 5) => (h.cellAt j hj).trans (List.getElem?_eq_getElem (by rw [hlen]; exact hj))
  exact ⟨_, _, _, _, _, hc _ (by omega), hc _ (by omega), hc _ (by omega), hc _ (by omega), hc _ (by omega), h.frozenAt _, h.frozenAt _, h.frozenAt _, h.frozenAt _, h.frozenAt _⟩
theorem take_set5 (xs : List Value) (i : Nat) (v0 v1 v2 v3 v4 : Value) (h : i + 5 ≤ xs.length) : (((((xs.set i v0).set (i + 1) v1).set (i + 2) v2).set (i + 3) v3).set (i + 4) v4).take (i + 5) = xs.take i ++ [v0, v1, v2, v3, v4] := by
  apply List.ext_getElem?
  intro j
  by_cases hj : j < i + 5
  · rw [List.getElem?_take_of_lt hj]
    by_cases hi : j < i
    · rw [List.getElem?_append_left (by simp; omega), List.getElem?_take_of_lt hi]
      simp only [List.getElem?_set, List.length_set]
      rw [if_neg (by omega), if_neg (by omega), if_neg (by omega), if_neg (by omega), if_neg (by omega)]
    · rw [List.getElem?_append_right (by simp; omega)]
      have hl : (xs.take i).length = i := by simp; omega
      rw [hl]
      obtain ⟨d, rfl⟩ := Nat.exists_eq_add_of_le (Nat.le_of_not_lt hi)
      rw [Nat.add_sub_cancel_left]
      simp only [List.getElem?_set, List.length_set]
      rcases (show d = 0 ∨ d = 1 ∨ d = 2 ∨ d = 3 ∨ d = 4 by omega) with rfl | rfl | rfl | rfl | rfl
      · simp; omega
      · simp; omega
      · simp; omega
      · simp; omega
      · simp; omega
  · rw [List.getElem?_eq_none (by simp; omega), List.getElem?_eq_none (by simp; omega)]
theorem rowOf_append : ∀ (a b : List (Nd × Option Addr × Nat)), rowOf (a ++ b) = rowOf a ++ rowOf b
  | [], _ => rfl
  | (x, p, c) :: a, b => by simp [rowOf, rowOf_append a b]
theorem row_rep (k : Nat) : rowOf (List.replicate (k + 1) (brk, none, 0)) = rowOf (List.replicate k (brk, none, 0)) ++ [.int .u8 18, .string { data := #[] }, .int .i64 0, .int .i64 0, .slice none 0 0] := by
  rw [List.replicate_succ', rowOf_append]; rfl
theorem own_kids {w : World} {B g c k : Nat} (h : w.ownsRow B 25 5 (.slice (some ⟨g, 0, none⟩) k c) k (rowOf (List.replicate k (brk, none, 0)))) (hk : k ≤ 1000000) (hc : k ≤ c) : IsKids w (.slice (some ⟨g, 0, none⟩) k c) (rep k) := by
  refine ⟨_, c, by rw [rep_len], Or.inr ⟨g, 0, rfl, ?_⟩, by rw [rep_len]; exact hc, by rw [rep_len]; exact hk⟩
  have hm : rep k = (List.replicate k ((brk, none, 0) : Nd × Option Addr × Nat)).map (·.1) := by simp [rep]
  rw [hm]
  refine nds_cells _ 0 (fun j v hj => ?_) (fun e he => ?_)
  · rw [Nat.zero_add]
    have hj2 : j < k * 5 := by
      have := (List.getElem?_eq_some_iff.1 hj).1
      rw [rowOf_len, List.length_replicate] at this
      exact this
    rw [h.cellAt j hj2]; exact hj
  · obtain rfl := List.eq_of_mem_replicate he
    exact ⟨Or.inl rfl, Nat.le_refl _, by show 0 ≤ 1000000; omega, by show 0 ≤ 1000000000; omega⟩
theorem wpList_wanted {P : Program} {ops : Array Oper} {Q : Exit → Act → World → Prop} {o : Oper} {rest : List Oper} {a : Act} {w : World} (hw : Region.wanted o (yielded ops a.tmps) = true) (h : o.wp P a w (wpList P ops Q rest) Q) : wpList P ops Q (o :: rest) a w := by
  rw [wpList, if_pos hw]; exact .inl h
theorem at55 {P : Program} {ops : Array Oper} {Q : Exit → Act → World → Prop} {op : Op} {ty : TypeId} {ps : String} {af : Array Edge} {gd : Option (Nat × Bool)} {rest : List Oper} {a : Act} {w : World} (h : Hid (wpList P ops Q ({ dst := some 55, op := op, type := ty, pos := ps, after := af, guard := gd } :: rest) a w)) : wpList P ops Q ({ dst := some 55, op := op, type := ty, pos := ps, after := af, guard := gd } :: rest) a w := h.out
theorem news5 (w : World) : ∀ (j : Nat) (u : Value), ([.int .u8 18, .string { data := #[] }, .int .i64 0, .int .i64 0, .slice none 0 0] : List Value)[j]? = some u → (w.alloc (.cells #[.int .u8 18, .string { data := #[] }, .int .i64 0, .int .i64 0, .slice none 0 0] 25)).cell? ((⟨w.heap.size, 0, none⟩ : Addr).add j) = some u := fun j u hj => by
  have h := World.news_of_block (heap_alloc_new w (.cells #[.int .u8 18, .string { data := #[] }, .int .i64 0, .int .i64 0, .slice none 0 0] 25))
  exact h j u hj
theorem kids_more {w : World} {B k : Nat} {v : Value} (h : w.ownsRow B 25 5 v (k + 1) (rowOf (List.replicate k (brk, none, 0)) ++ [.int .u8 18, .string { data := #[] }, .int .i64 0, .int .i64 0, .slice none 0 0])) (hk : k + 1 ≤ 1000000) : IsKids w v (rep (k + 1)) := by
  rw [← row_rep] at h
  rcases h.2 with ⟨_, h0⟩ | ⟨g, cap, cur, rfl, _, _, hc, _⟩
  · omega
  · exact own_kids h hk hc
theorem own_ge {B g n c j : Nat} (hg : B ≤ g) (h : (Value.slice (some ⟨g, 0, none⟩) n c).ownBlock = some j) : B ≤ j := by
  simp [Value.ownBlock] at h
  omega
theorem nodeInfo : ∃ ti, Try.prog.info? 25 = some ti ∧ ti.zero = some (.agg zeros) ∧ ti.size = 5 ∧ ti.bytes = 64 := by
  have h : (Try.prog.info? 25).map (fun i => (i.zero, i.size, i.bytes)) = some (some (.agg zeros), 5, 64) := by kernel_rfl
  obtain ⟨ti, h1, h2⟩ := Option.map_eq_some_iff.1 h
  simp only [Prod.mk.injEq] at h2
  exact ⟨ti, h1, h2.1, h2.2.1, h2.2.2⟩
set_option maxRecDepth 100000 in
set_option maxHeartbeats 8000000 in
theorem great_any {w : World} {mm : Int} (hm : w.cell? ⟨0, 0, none⟩ = some (.int .i64 mm)) :
    Calls Try.prog 3 #[] w fun e w' => e = .returned (.bool true) ∧ Below w.heap.size w w' := by
  have HM := Lib.hid hm; clear hm
  go_enter Try.func3, Try.ntmps3
  go_wp2_with fail
  go_loopg [1, 2, 3, 4] 7 (fun gk d _ _ _ wr => ∃ q : Nat, 55 ≤ q ∧ q ≤ 62 ∧ gk = 62 - q ∧ d = .int .i64 (q : Int) ∧ Below w.heap.size w wr)
  case atStart => exact ⟨55, by omega, by omega, by omega, rfl, Below.refl _ _⟩
  case round =>
    obtain ⟨q, hq0, hq1, rfl, rfl, hbw⟩ := hrel
    have HBW := Lib.hid hbw; clear hbw
    by_cases hlt : q < 62
    · have j1 : (q : Int) < 62 := by omega
      go_wp2_with (go_at_call 6; go_must (refine of_exact.mono ?_; rintro e w1 ⟨rfl, hb⟩; have HB1 := Lib.hid (HBW.out.trans (hb.mono HBW.out.size)); clear hb))
      have hun : UnBox (w1.alloc (.cells #[.int .u8 21, .string { data := #[49] }, .int .i64 0, .int .i64 0, .slice none 0 0] 25)) w1.heap.size 0 none 0 := ⟨heap_alloc_new w1 _, Or.inl rfl, Nat.le_refl _, by show 0 ≤ 1000000; omega, by show 1 ≤ 1000000000; omega⟩
      have hb2 : w.heap.size ≤ w1.heap.size := HB1.out.size
      have hwa := HB1.out.alloc HB1.out.size (.cells #[.int .u8 21, .string { data := #[49] }, .int .i64 0, .int .i64 0, .slice none 0 0] 25)
      generalize w1.alloc (.cells #[.int .u8 21, .string { data := #[49] }, .int .i64 0, .int .i64 0, .slice none 0 0] 25) = w2 at *
      generalize w1.heap.size = b2 at *
      have HUN := Lib.hid hun; have HWA := Lib.hid hwa; have HB2 := Lib.hid hb2; clear hun hwa HB1 hb2
      go_loopg [3] q (fun gk i wr => ∃ (k : Nat) (p : Option Addr) (c : Nat), k ≤ q ∧ gk = q - k ∧ i = .int .i64 (k : Int) ∧ UnBox wr b2 k p c ∧ Below w.heap.size w wr)
      case atStart => exact ⟨0, none, 0, by omega, by omega, rfl, HUN.out, HWA.out⟩
      case round =>
        obtain ⟨k, p, c, hk, rfl, rfl, hub, hbr⟩ := hrel
        have HUB := Lib.hid hub; have HBR := Lib.hid hbr; clear hub hbr
        by_cases hlk : k < q
        · have j2 : (k : Int) < (q : Int) := by omega
          have hc := fun j => cell_of_row wr b2 j _ _ (0, 0) HUB.out.blk
          have c0 : wr.cell? ⟨b2, 0, none⟩ = some (.int .u8 ((un k).kind : Int)) := hc 0
          have c1 : wr.cell? ⟨b2, 1, none⟩ = some (.string (un k).text) := hc 1
          have c2 : wr.cell? ⟨b2, 2, none⟩ = some (.int .i64 (un k).num) := hc 2
          have c3 : wr.cell? ⟨b2, 3, none⟩ = some (.int .i64 (un k).at_) := hc 3
          have c4 : wr.cell? ⟨b2, 4, none⟩ = some (.slice p (un k).kids.length c) := hc 4
          clear hc
          have hbl : b2 < wr.heap.size := (Array.getElem?_eq_some_iff.1 HUB.out.blk).1
          have HNX := Lib.hid (fun w3 hb => HUB.out.next (w3 := w3) hb)
          have HFZ := Lib.hid (fun (w3 : World) (hb : Below (wr.alloc (.cells (nodeC (un k) p c) 25)).heap.size (wr.alloc (.cells (nodeC (un k) p c) 25)) w3) => show w3.heap[b2]? = some (.cells (nodeC (un k) p c) 25 (0, 0)) from (hb.block b2 (by simp; omega)).trans ((Below.heap_alloc wr _ b2 hbl).trans HUB.out.blk))
          unfold nodeC at HNX HFZ
          generalize (un k).kind = y0 at *
          generalize (un k).text = y1 at *
          generalize (un k).num = y2 at *
          generalize (un k).at_ = y3 at *
          generalize (un k).kids.length = y4 at *
          go_wp2_with (go_at_call 6; go_must (refine of_exact.mono ?_; rintro e w3 ⟨rfl, hb⟩; have hcf := fun j => And.intro (cell_of_row w3 b2 j _ _ (0, 0) (HFZ.out w3 hb)) (frozen_of_row w3 b2 j _ _ (HFZ.out w3 hb)); have f0 := (hcf 0).1; have f1 := (hcf 1).1; have f2 := (hcf 2).1; have f3 := (hcf 3).1; have f4 := (hcf 4).1; have z0 := (hcf 0).2; have z1 := (hcf 1).2; have z2 := (hcf 2).2; have z3 := (hcf 3).2; have z4 := (hcf 4).2; have HX := Lib.hid (HNX.out w3 hb); have HY3 := Lib.hid ((HBR.out.alloc HBR.out.size _).trans (hb.mono (Below.size (HBR.out.alloc HBR.out.size _)))); clear hcf hb))
          go_roundg (q - (k + 1))
          case measure => omega
          case rel => exact ⟨k + 1, _, 1, by omega, rfl, by go_num, HX.out, ((((HY3.out.setCell (p := ⟨b2, 0, none⟩) HB2.out _).setCell (p := ⟨b2, 1, none⟩) HB2.out _).setCell (p := ⟨b2, 2, none⟩) HB2.out _).setCell (p := ⟨b2, 3, none⟩) HB2.out _).setCell (p := ⟨b2, 4, none⟩) HB2.out _⟩
        · obtain rfl : k = q := by omega
          go_upto_region 9 with fail
          have hps : properL [Nd.mk 17 { data := #[] } 0 0 [un k]] = true := by simp [properL, properN, proper_un k]
          refine wp_region_inrow (l1 := [_, _, _, _, _]) (l2 := [_, _]) [20, 21, 22, 23, 24] (fun u => Below wr.heap.size wr u) (FS [.node (un k), .kids [un k], .node (.mk 17 { data := #[] } 0 0 [un k]), .kids [.mk 17 { data := #[] } 0 0 [un k]], .node (deepTree k)] wr) (by kernel_rfl) (by kernel_rfl) FS.below (Below.refl _ _) ⟨?_, ?_, ?_, ?_, ?_, trivial⟩ ?_
          · exact st_load rfl rfl rfl (b := b2) rfl HUB.out.box
          · exact st_build1 (j0 := 0) rfl rfl (by decide) rfl rfl
          · exact st_of (k := 17) (t := { data := #[] }) rfl (X := .tmp 21) (.tmp (j := 1) (by decide) rfl rfl) rfl (by decide)
          · exact st_build1 (j0 := 2) rfl rfl (by decide) rfl rfl
          · exact st_action rfl (X := .tmp 23) (.tmp (j := 3) (by decide) rfl rfl) rfl hps
          rintro wx hx v0 g0 v1 g1 v2 g2 v3 g3 v4 g4
          show wpList _ _ _ _ (putAll _ [(20, _), (21, _), (22, _), (23, _), (24, _)]) _
          simp only [putAll, Act.put, List.setIfInBounds_toArray, List.set_cons_succ, List.set_cons_zero]
          refine fin_alloc rfl rfl fun b4 wa hb4 ha4 hz4 hn4 => ?_
          simp only [Act.put, List.setIfInBounds_toArray, List.set_cons_succ, List.set_cons_zero]
          refine fin_store (x := deepTree k) rfl rfl rfl (b := b4) (v := v4) rfl rfl hz4 (IsNode.below ha4 (FS.of g4 rfl)) (by simp [deepTree, properN, properL, proper_un k]) fun ws hs => wpList_nil ?_
          have hwx := HBR.out.trans (hx.mono HBR.out.size)
          have hbs := (hwx.trans (ha4.mono hwx.size)).trans (hs.below w.heap.size (by rw [← hb4]; exact hwx.size))
          obtain ⟨p4, c4, ⟨e0, e1, e2, e3, e4⟩, hr4⟩ := hs.box
          have HBS := Lib.hid hbs
          have HR := Lib.hid (fun u (hu : Below ws.heap.size ws u) => right_any (x := deepTree k) (cell_on (hbs.trans (hu.mono hbs.size)) HM.out) (hr4.below hu))
          have HDP := Lib.hid (fun u (hu : Below ws.heap.size ws u) => NodeU.deep_any (deepTree k) p4 c4 u (hr4.below hu) (by rw [deep_tree]; omega))
          rw [right_tree hq0 hlt] at HR
          rw [deep_tree, show ((k + 3 : Nat) : Int) = (k : Int) + 3 by omega] at HDP
          unfold nodeC at HR HDP
          clear hx g0 g1 g2 g3 g4 hb4 ha4 hz4 hn4 hs hwx hbs hr4 hps HUB HBR
          generalize (deepTree k).kind = y0 at *
          generalize (deepTree k).text = y1 at *
          generalize (deepTree k).num = y2 at *
          generalize (deepTree k).at_ = y3 at *
          generalize (deepTree k).kids.length = y4 at *
          by_cases h57 : (k : Int) ≤ 57
          all_goals
            have hdd : decide ((k : Int) ≤ 57) = decide ((k : Int) ≤ 57) := rfl
            simp only [h57, decide_true, decide_false] at HR
            clear hdd
            go_wp2_with (first | (go_at_call 8; go_must (refine (HR.out _ (Below.refl _ _)).mono ?_; rintro e wA ⟨rfl, hbA⟩; have HBA := Lib.hid hbA; replace e0 := cell_on hbA e0; replace e1 := cell_on hbA e1; replace e2 := cell_on hbA e2; replace e3 := cell_on hbA e3; replace e4 := cell_on hbA e4; clear hbA)) | (go_at_call 9; go_must (refine (HDP.out _ HBA.out).mono ?_; rintro e wB ⟨rfl, hbB⟩; have HBB := Lib.hid ((HBS.out.trans (HBA.out.mono HBS.out.size)).trans (hbB.mono (HBS.out.trans (HBA.out.mono HBS.out.size)).size)); clear hbB)))
            go_roundg (62 - (k + 1))
            case measure => omega
            case rel => exact ⟨k + 1, by omega, by omega, rfl, by go_num, HBB.out⟩
    · obtain rfl : q = 62 := by omega
      obtain ⟨N, hN⟩ : ∃ N : Nat, N = 32767 := ⟨_, rfl⟩
      obtain ⟨ti, hi, hz, hsz, hby⟩ := nodeInfo
      obtain ⟨wm, hrun, hown, hgr⟩ := run_make_full (P := Try.prog) wr w.heap.size 23 25 ti (.agg zeros) 5 Try.underlying23 hi hz hsz .i64 .i64 N (by rw [hby]; omega) (by unfold maxLen; omega) HBW.out.size
      have hmk : (Instr.makeSlice 23 (.int .i64 32767) (.int .i64 32767)).run Try.prog wr = .ok (.slice (some ⟨wr.heap.size, 0, none⟩) N N) wm := by
        have h := hrun
        rw [show ((N : Nat) : Int) = 32767 by omega] at h
        exact h
      have hbm : Below w.heap.size w wm := HBW.out.grown hgr HBW.out.size (fun j hj => by cases hj)
      have hbg : w.heap.size ≤ wr.heap.size := HBW.out.size
      have HOWN := Lib.hid hown; have HBM := Lib.hid hbm; have HN := Lib.hid hN
      have HN2 := Lib.hid (show (N : Int) = 32767 by omega)
      have hNb : (N : Int) ≤ 100000 := by omega
      clear hrun hown hbm hgr hN HBW
      go_wp2_with fail
      clear hmk
      generalize wr.heap.size = g at *
      have HBG := Lib.hid hbg; clear hbg
      go_loopg [6] N (fun gk i wr => ∃ (k : Nat) (xs : List Value), k ≤ N ∧ gk = N - k ∧ i = .int .i64 (k : Int) ∧ wr.ownsRow w.heap.size 25 5 (.slice (some ⟨g, 0, none⟩) N N) N xs ∧ xs.take (k * 5) = rowOf (List.replicate k (brk, none, 0)) ∧ Below w.heap.size w wr)
      case atStart => exact ⟨0, _, by omega, by omega, rfl, HOWN.out, by simp [rowOf], HBM.out⟩
      case round =>
        obtain ⟨k, xs, hk, rfl, rfl, hown, htk, hbr⟩ := hrel
        have HO := Lib.hid hown; have HT := Lib.hid htk; have HBR := Lib.hid hbr; clear hown htk hbr
        by_cases hlk : k < N
        · have j2 : (k : Int) < (N : Int) := by omega
          have j0 : (0 : Int) ≤ (k : Int) := by omega
          have hgl : g < wr.heap.size := (HO.out.lt g rfl).2
          have HF := Lib.hid (fun (w3 : World) (hb : Below wr.heap.size wr w3) => Heap.own_new HO.out hb)
          go_wp2_with (go_at_call 6; go_must (refine of_exact.mono ?_; rintro e w3 ⟨rfl, hb⟩; have ho3 := HF.out w3 hb; obtain ⟨t0, t1, t2, t3, t4, f0, f1, f2, f3, f4, z0, z1, z2, z3, z4⟩ := own_five ho3 hlk; have HO3 := Lib.hid ho3; have HB3 := Lib.hid (HBR.out.trans (hb.mono HBR.out.size)); clear hb ho3))
          have h0 := HO3.out.stored (k * 5) (.int .u8 18)
          have h1 := h0.1.stored (k * 5 + 1) (.string { data := #[] })
          have h2 := h1.1.stored (k * 5 + 2) (.int .i64 0)
          have h3 := h2.1.stored (k * 5 + 3) (.int .i64 0)
          have h4 := h3.1.stored (k * 5 + 4) (.slice none 0 0)
          have HO4 := Lib.hid h4.1
          clear h0 h1 h2 h3 h4
          go_roundg (N - (k + 1))
          case measure => omega
          case rel => exact ⟨k + 1, _, by omega, rfl, by go_num, HO4.out, by rw [show (k + 1) * 5 = k * 5 + 5 by omega, take_set5 _ _ _ _ _ _ _ (by have := HO3.out.1; omega), HT.out, row_rep k], ((((HB3.out.setCell (p := ⟨g, k * 5, none⟩) HBG.out _).setCell (p := ⟨g, k * 5 + 1, none⟩) HBG.out _).setCell (p := ⟨g, k * 5 + 2, none⟩) HBG.out _).setCell (p := ⟨g, k * 5 + 3, none⟩) HBG.out _).setCell (p := ⟨g, k * 5 + 4, none⟩) HBG.out _⟩
        · obtain rfl : k = N := by omega
          go_upto_region 17 with fail
          have hxs : xs = rowOf (List.replicate k (brk, none, 0)) := by
            have h := HT.out
            rw [List.take_of_length_le (by have := HO.out.1; omega)] at h
            exact h
          have HOX := HO; rw [hxs] at HOX; clear HO HT hxs
          have hk1 : k = 32767 := HN.out
          have HW := Lib.hid (own_kids HOX.out (by omega) (Nat.le_refl _))
          have hr1 : rightN (.mk 9 { data := #[] } 0 0 (rep k)) = true := by rw [right_rep]; exact decide_eq_true (by omega)
          have hr2 : rightN (.mk 9 { data := #[] } 0 0 (rep (k + 1))) = false := by rw [right_rep]; exact decide_eq_false (by omega)
          have HR1 := Lib.hid hr1; have HR2 := Lib.hid hr2; clear hr1 hr2 hk1
          have HG0 := Lib.hid HBR.out
          clear HBR
          go_wp2_with (first
            | (go_at_call 7; first
                | (refine (action_any HW.out (proper_rep k)).mono ?_; rintro e w1 ⟨u1, rfl, hn1, hb1⟩; have HN1 := Lib.hid hn1; have HG1 := Lib.hid (HG0.out.trans (hb1.mono HG0.out.size)); have HO1 := Lib.hid (Heap.own_new HOX.out hb1); clear hn1 hb1 HW)
                | (refine (action_any HV.out (proper_rep (k + 1))).mono ?_; rintro e w5 ⟨u5, rfl, hn5, hb5⟩; have HN5 := Lib.hid hn5; have HG5 := Lib.hid (HG4.out.trans (hb5.mono HG4.out.size)); clear hn5 hb5 HV))
            | (go_at_call 8; first
                | (obtain ⟨p1, c1, rfl, hr1⟩ := HN1.out; refine (right_any (cell_on HG1.out HM.out) hr1).mono ?_; rw [HR1.out]; rintro e w2 ⟨rfl, hb2⟩; have HG2 := Lib.hid (HG1.out.trans (hb2.mono HG1.out.size)); have HO2 := Lib.hid (Heap.own_new HO1.out hb2); clear hb2 HN1 hr1)
                | (obtain ⟨p5, c5, rfl, hr5⟩ := HN5.out; refine (right_any (cell_on HG5.out HM.out) hr5).mono ?_; rw [HR2.out]; rintro e w6 ⟨rfl, hb6⟩; have HG6 := Lib.hid (HG5.out.trans (hb6.mono HG5.out.size)); clear hb6 HN5 hr5))
            | (go_at_call 6; go_must (refine of_exact.mono ?_; rintro e w3 ⟨rfl, hb3⟩; have HG3 := Lib.hid (HG2.out.trans (hb3.mono HG2.out.size)); have HO3 := Lib.hid (Heap.own_new HO2.out hb3); clear hb3))
            | (with_reducible refine at55 ?_; go_must (refine Lib.hid (wpList_wanted (wanted_at (g := 3) (b := true) (t := 51) rfl rfl rfl) (wp_append_own _ _ _ _ rfl w.heap.size 25 ti _ 5 64 Try.underlying23 hi hz hsz hby rfl (by decide) (.slice (some ⟨g, 0, none⟩) k k) k _ rfl (HO3.out.alloc _) ⟨w3.heap.size, 0, none⟩ 1 1 [.int .u8 18, .string { data := #[] }, .int .i64 0, .int .i64 0, .slice none 0 0] rfl rfl (news5 w3) (by simp [Value.oneCell']) (by unfold maxLen; omega) (by omega) (Nat.le_trans HG3.out.size (by simp)) fun v' w4 how hgr _ => ?_)); have HV := Lib.hid (kids_more how (by omega)); have HG4 := Lib.hid ((HG3.out.alloc HG3.out.size _).grown hgr (Below.size (HG3.out.alloc HG3.out.size _)) (fun j hj => own_ge (hg := HBG.out) hj)); clear how hgr))
            | (go_at_call 10; go_must (refine (awake_any (cell_on HG6.out HM.out)).mono ?_; rintro e w7 ⟨rfl, hb7⟩; have HG7 := Lib.hid (HG6.out.trans (hb7.mono HG6.out.size)); clear hb7)))
          go_ret
          exact ⟨rfl, HG7.out⟩
end Go.Proofs.Ytkjpdhnibfhaaaa.NodeZ
