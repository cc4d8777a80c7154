/- The law NodeParts, walked. (Printed by mk_partf.py.) -/
import Derived.Test.YtkjpdhnibfhaaaaPartA
import Derived.Test.YtkjpdhnibfhaaaaKitJ
import Derived.Deep.Cut
namespace Go.Proofs.Ytkjpdhnibfhaaaa.PartF
open Go Go.RowKit Go.Proofs.Ytkjpdhnibfhaaaa.Heap Go.Proofs.Ytkjpdhnibfhaaaa.Dat Go.Proofs.Ytkjpdhnibfhaaaa.Nodey Go.Proofs.Ytkjpdhnibfhaaaa.NodeA Go.Proofs.Ytkjpdhnibfhaaaa.NodeB Go.Proofs.Ytkjpdhnibfhaaaa.NodeF Go.Proofs.Ytkjpdhnibfhaaaa.NodeI Go.Proofs.Ytkjpdhnibfhaaaa.NodeK Go.Proofs.Ytkjpdhnibfhaaaa.NodeM Go.Proofs.Ytkjpdhnibfhaaaa.NodeS Go.Proofs.Ytkjpdhnibfhaaaa.NodeT Go.Proofs.Ytkjpdhnibfhaaaa.NodeU Go.Proofs.Ytkjpdhnibfhaaaa.Cut Go.Proofs.Ytkjpdhnibfhaaaa.Build Go.Proofs.Ytkjpdhnibfhaaaa.KitA Go.Proofs.Ytkjpdhnibfhaaaa.KitB Go.Proofs.Ytkjpdhnibfhaaaa.KitC Go.Proofs.Ytkjpdhnibfhaaaa.KitD Go.Proofs.Ytkjpdhnibfhaaaa.KitG Go.Proofs.Ytkjpdhnibfhaaaa.KitH Go.Proofs.Ytkjpdhnibfhaaaa.KitI Go.Proofs.Ytkjpdhnibfhaaaa.KitJ Go.Proofs.Ytkjpdhnibfhaaaa.PartA Go.Proofs.Ytkjpdhnibfhaaaa.PartP Go.Proofs.Ytkjpdhnibfhaaaa.PartB Go.Proofs.Ytkjpdhnibfhaaaa.PartC Go.Proofs.Ytkjpdhnibfhaaaa.PartD Go.Proofs.Ytkjpdhnibfhaaaa.PartE

mutual
theorem deep_wt : ∀ x : Nd, deepN x ≤ wtN x
  | .mk k t n a l => by have := deeps_wt l; rw [deepN, wtN]; omega
theorem deeps_wt : ∀ l : List Nd, deepL l ≤ wtL l
  | [] => by rw [deepL, wtL]; omega
  | x :: l => by have := deep_wt x; have := deeps_wt l; rw [deepL, wtL]; omega
end
mutual
theorem ok_moved (d : Int) : ∀ x : Nd, okN x → okN (movedN d x)
  | .mk k t n a l, h => by
    rw [okN] at h
    rw [movedN, okN, movedL_map, List.length_map, ← movedL_map]
    exact ⟨h.1, h.2.1, oks_moved (d + 1) l h.2.2⟩
theorem oks_moved (d : Int) : ∀ l : List Nd, okL l → okL (movedL d l)
  | [], _ => by rw [movedL, okL]; trivial
  | x :: l, h => by
    rw [okL] at h
    rw [movedL, okL]
    exact ⟨ok_moved d x h.1, oks_moved d l h.2⟩
end
theorem moved_len (d : Int) (l : List Nd) : (movedL d l).length = l.length := by rw [movedL_map]; simp
theorem bare_all {u : World} {x y : Nd} {v v' : Value} (h : bareN x = bareN y) (hv : IsNode u v (bareN x)) (hv' : IsNode u v' (bareN y)) : Calls Try.prog 20 #[v, v'] u fun e w' => e = .returned (.bool true) ∧ Below u.heap.size u w' := by
  obtain ⟨p, c, rfl, hr⟩ := hv
  obtain ⟨p', c', rfl, hr'⟩ := hv'
  have e : allN (bareN x) (bareN y) = true := by rw [h]; exact allN_refl _
  have h2 := all_any (bareN x) (bareN y) p c p' c' u hr hr'
  rw [e] at h2
  exact h2
section
variable {Q : Exit → Act → World → Prop} {specs : List BSpec} {ds : List Tmp} {a0 : Act} {w0 : World} {i : Nat} {o : Oper}
theorem st_pickF {j1 j2 : Nat} {t1 t2 : Tmp} {b : Bool} {c : Value} (hs : specs[i]? = some (.val (.bool b))) (d1 : (depsOf o).contains j1 = true) (e1 : ds.getD j1 0 = t1) (l1 : specs[j1]? = some (.val (.bool false))) (d2 : (depsOf o).contains j2 = true) (e2 : ds.getD j2 0 = t2) (l2 : specs[j2]? = some (.val (.bool b))) (ho : o.op = .pick (.tmp t1) (.const c) (.tmp t2)) :
    StepT Try.prog Q (fun u => Below w0.heap.size w0 u) (FS specs w0) ds a0 i o := by
  refine st_val hs fun a w hd => ?_
  simp only [execOp, ho, get_val hd d1 e1 l1, get_val hd d2 e2 l2]
  go_simp
/-- what is reckoned out of a slot that stands ahead -/
theorem sv_out {t : Tmp} {u v : Value} (hs : specs[i]? = some (.val v)) (ht : ds.contains t = false) (ha : a0.tmps[t]? = some u) (hr : ∀ (a : Act) w, a.tmps[t]? = some u → (execOp a.eval o).run Try.prog w = .ok (.value v) w) :
    StepT Try.prog Q (fun u => Below w0.heap.size w0 u) (FS specs w0) ds a0 i o := by
  intro a w hS _ hfr _ K hK
  exact wp_val (hr a w ((hfr t (by simpa using ht)).trans ha)) (hK.out _ _ hS (Below.refl _ _) ⟨_, hs, rfl⟩)
/-- a cell is read -/
theorem sv_cell {t : Tmp} {q : Addr} {v : Value} (hs : specs[i]? = some (.val v)) (h1 : HasV specs ds o t (.pointer (some q))) (hc : w0.cell? q = some v) (hr : ∀ (a : Act) w, a.tmps[t]? = some (.pointer (some q)) → w.cell? q = some v → (execOp a.eval o).run Try.prog w = .ok (.value v) w) :
    StepT Try.prog Q (fun u => Below w0.heap.size w0 u) (FS specs w0) ds a0 i o := by
  intro a w hS _ hfr hd K hK
  exact wp_val (hr a w (h1.at hd) ((hS.cell (World.block_lt_of_cell? _ _ hc)).trans hc)) (hK.out _ _ hS (Below.refl _ _) ⟨_, hs, rfl⟩)
end
theorem less_len2 {l : List Nd} {i m : Nat} (hi : i < l.length) (hm : l.length - (i + 1) = m) : (lessL l i).length = i + m := by rw [less_len hi]; omega
theorem swap_len {l : List Nd} {i k : Nat} {hi : i < l.length} {hk : k < l.length} : (swapL l i k hi hk).length = l.length := by unfold swapL; simp
theorem list10 {α : Type} {vs : List α} (h : vs.length = 10) : ∃ v0 v1 v2 v3 v4 v5 v6 v7 v8 v9, vs = [v0, v1, v2, v3, v4, v5, v6, v7, v8, v9] := by
  match vs, h with
  | [v0, v1, v2, v3, v4, v5, v6, v7, v8, v9], _ => exact ⟨v0, v1, v2, v3, v4, v5, v6, v7, v8, v9, rfl⟩
theorem list9 {α : Type} {vs : List α} (h : vs.length = 9) : ∃ v0 v1 v2 v3 v4 v5 v6 v7 v8, vs = [v0, v1, v2, v3, v4, v5, v6, v7, v8] := by
  match vs, h with
  | [v0, v1, v2, v3, v4, v5, v6, v7, v8], _ => exact ⟨v0, v1, v2, v3, v4, v5, v6, v7, v8, rfl⟩
theorem moved_ready {u : World} {B kk : Nat} {t : ByteArray} {n a d : Int} {l : List Nd} {p2 : Option Addr} {c2 : Nat} {bk : List Nat} (h : Lies u B (kidsD (movedL (d + 1) l)) (.slice p2 l.length c2) bk) (hok : okN (.mk kk t n a l)) : Ready u p2 c2 (movedN d (.mk kk t n a l)) := by
  have h2 := hok
  rw [okN] at h2
  have hl : Lies u B (.row 25 5 (movedL (d + 1) l).length (ndsD (movedL (d + 1) l))) (.slice p2 l.length c2) bk := h
  obtain ⟨p', c', he, hc, hk⟩ := lies_kids (oks_moved _ _ h2.2.2) hl
  simp only [Value.slice.injEq] at he
  obtain ⟨rfl, _, rfl⟩ := he
  rw [movedN]
  exact ⟨hk, hc, by show (movedL (d + 1) l).length ≤ 1000000; rw [moved_len]; exact h2.2.1, h2.1⟩
theorem node_moved {kk : Nat} {t : ByteArray} {n a d : Int} {l : List Nd} {p2 : Option Addr} {c2 : Nat} : nodeC (movedN d (.mk kk t n a l)) p2 c2 = #[.int .u8 (kk : Int), .string t, .int .i64 n, .int .i64 (max a 0 % 1000 + d), .slice p2 l.length c2] := by
  rw [movedN]
  unfold nodeC
  simp only [Nd.kind, Nd.text, Nd.num, Nd.at_, Nd.kids, moved_len]
theorem cast1 : ((1 : Nat) : Int) = 1 := rfl
theorem cast9 : ((9 : Nat) : Int) = 9 := rfl
theorem list25 {α : Type} {vs : List α} (h : vs.length = 25) : ∃ v0 v1 v2 v3 v4 v5 v6 v7 v8 v9 v10 v11 v12 v13 v14 v15 v16 v17 v18 v19 v20 v21 v22 v23 v24, vs = [v0, v1, v2, v3, v4, v5, v6, v7, v8, v9, v10, v11, v12, v13, v14, v15, v16, v17, v18, v19, v20, v21, v22, v23, v24] := by
  match vs, h with
  | [v0, v1, v2, v3, v4, v5, v6, v7, v8, v9, v10, v11, v12, v13, v14, v15, v16, v17, v18, v19, v20, v21, v22, v23, v24], _ => exact ⟨v0, v1, v2, v3, v4, v5, v6, v7, v8, v9, v10, v11, v12, v13, v14, v15, v16, v17, v18, v19, v20, v21, v22, v23, v24, rfl⟩
set_option maxRecDepth 100000 in
set_option maxHeartbeats 8000000 in
theorem parts_law {x : Nd} {p : Option Addr} {c : Nat} {w : World} {mm i k by_ : Int} (hm : w.cell? ⟨0, 0, none⟩ = some (.int .i64 mm)) (hx : Big w p c x) :
    Calls Try.prog 5 #[.agg (nodeC x p c), .int .i64 i, .int .i64 k, .int .i64 by_] w fun e w' => e = .returned (.bool true) ∧ Below w.heap.size w w' := by
  have HM := Lib.hid hm
  have HAW := Lib.hid (fun (u : World) (hu : Below w.heap.size w u) => NodeX.awake_any (w := u) (cell_on hu hm))
  have HMA := Lib.hid (fun (u : World) (hu : Below w.heap.size w u) => many_at hx hu)
  have HRA := Lib.hid (fun (h : wtN x ≤ 40000) => hx.ready h)
  clear hx hm
  have HB : Hid (On w.heap.size w (w.alloc (.cells (nodeC x p c) 25))) := Lib.hid ⟨(Below.refl w.heap.size w).alloc (Nat.le_refl _) (.cells (nodeC x p c) 25), by simp⟩
  obtain ⟨kk, t, n, a, l⟩ := x
  have HA := Lib.hid (Box5.new (w := w) (v0 := .int .u8 (kk : Int)) (v1 := .string t) (v2 := .int .i64 n) (v3 := .int .i64 a) (v4 := .slice p l.length c) (T := 25))
  unfold nodeC at HB HMA ⊢
  simp only [Nd.kind, Nd.text, Nd.num, Nd.at_, Nd.kids] at HB HMA ⊢
  go_enter Try.func5, Try.ntmps5
  go_upto_region 1 with fail
  generalize w.alloc (.cells #[.int .u8 (kk : Int), .string t, .int .i64 n, .int .i64 a, .slice p l.length c] 25) = W at *
  generalize hH : w.heap.size = H at *
  have HHH := Lib.hid hH; clear hH
  go_upto_region 3 with (go_at_call 10; (with_reducible refine (HAW.out _ HB.out.b).mono ?_); go_must (rintro e w1 ⟨rfl, hb⟩; have HW1 := Lib.hid (HB.out.next hb); have HA1 := Lib.hid (HA.out.below hb); clear hb))
  obtain ⟨a0, a1, a2, a3, a4⟩ := HA1.out
  by_cases h1 : wtN (.mk kk t n a l) ≤ 40000
  · have e1 : min (wtN (.mk kk t n a l)) 40001 = wtN (.mk kk t n a l) := by omega
    rw [e1] at HMA
    have RA := Lib.hid (HRA.out h1)
    have HWT := Lib.hid h1
    have l1 : ((wtN (.mk kk t n a l) : Nat) : Int) ≤ 40000 := by omega
    clear HRA e1 h1
    generalize hna : ((wtN (.mk kk t n a l) : Nat) : Int) = na at *
    clear hna
    by_cases hk : kk = 1 ∨ kk = 9
    · rcases hk with rfl | rfl
      · go_upto_region 5 with (go_at_call 11; go_must (refine (HMA.out _ HW1.out.b).mono ?_; rintro e w2 ⟨rfl, hb⟩; clear a0 a1 a2 a3 a4; have HA2 := Lib.hid (HA1.out.below hb); obtain ⟨a0, a1, a2, a3, a4⟩ := HA2.out; have HW2 := Lib.hid (HW1.out.next hb); clear hb))
        have RA2 := Lib.hid (RA.out.below (HHH.out ▸ HW2.out.b))
        clear HMA HA HB HA1 HW1 RA
        have HCOPY := Lib.hid (fun (u : World) (hu : Below w2.heap.size w2 u) => copy_any (.mk 1 t n a l) p c u (RA2.out.below hu))
        have HPICK := Lib.hid (fun (u : World) => pick_any (x := by_) (n := 1000) (by omega) (by omega) u)
        obtain ⟨d, hd⟩ : ∃ d, by_ % ((1000 : Nat) : Int) = d := ⟨_, rfl⟩
        have HD0 := Lib.hid (show 0 ≤ d ∧ d < 1000 by omega)
        rw [hd] at HPICK; clear hd
        unfold nodeC at HCOPY
        simp only [Nd.kind, Nd.text, Nd.num, Nd.at_, Nd.kids] at HCOPY
        have HMV := Lib.hid (fun (u : World) (B : Nat) (q : Option Addr) (qc : Nat) (bk : List Nat) (hL : Lies u B (kidsD l) (.slice q l.length qc) bk) (hnd : bk.Nodup) => moved_any (.mk 1 t n a l) q qc d u B bk hL hnd (by have := RA2.out; rw [okN]; exact ⟨this.text, this.len, ok_kids this.kids⟩) HD0.out.1 (by have := HD0.out.2; have := deep_wt (.mk 1 t n a l); have := HWT.out; omega))
        unfold nodeC at HMV
        simp only [Nd.kind, Nd.text, Nd.num, Nd.at_, Nd.kids] at HMV
        go_upto_region 6 with (first
          | (go_at_call 18; go_must (refine (HCOPY.out _ (Below.refl _ _)).mono ?_; rintro e w3 ⟨p2, c2, bk, rfl, hL, hnd, hb⟩; have HL3 := Lib.hid hL; have HN3 := Lib.hid hnd; have HB3 := Lib.hid hb; clear hL hnd hb))
          | (go_at_call 19; go_must (refine (HPICK.out _).mono ?_; rintro e w4 ⟨rfl, hb⟩; have HL4 := Lib.hid (HL3.out.below hb (fun b hb => (Lies.lt HL3.out b hb).2)); have HB4 := Lib.hid (HB3.out.trans (hb.mono HB3.out.size)); clear hb))
          | (go_at_call 17; go_must (refine (HMV.out _ _ _ _ _ HL4.out HN3.out).mono ?_; rintro e w5 ⟨rfl, hL, hT⟩; have HL5 := Lib.hid hL; have HT5 := Lib.hid hT; clear hL hT)))
        have hok : okN (.mk 1 t n a l) := by have := RA2.out; rw [okN]; exact ⟨this.text, this.len, ok_kids this.kids⟩
        have h25 : Below w2.heap.size w2 w5 := HB4.out.trans (HT5.out.below HB4.out.size (fun i hi => (Lies.lt HL3.out i hi).1))
        have h26 := h25.alloc h25.size (.cells #[.int .u8 1, .string t, .int .i64 n, .int .i64 (max a 0 % 1000 + d), .slice p2 l.length c2] 25)
        have hal := (Below.refl w5.heap.size w5).alloc (Nat.le_refl _) (.cells #[.int .u8 1, .string t, .int .i64 n, .int .i64 (max a 0 % 1000 + d), .slice p2 l.length c2] 25)
        have HW6 := Lib.hid (HW2.out.next h26)
        have HA6 := Lib.hid (HA2.out.below h26)
        have HO6 := Lib.hid (Box5.new (w := w5) (v0 := .int .u8 1) (v1 := .string t) (v2 := .int .i64 n) (v3 := .int .i64 (max a 0 % 1000 + d)) (v4 := .slice p2 l.length c2) (T := 25))
        have RA6 := Lib.hid (RA2.out.below h26)
        have RO6 := Lib.hid ((moved_ready (kk := 1) (t := t) (n := n) (a := a) HL5.out hok).below hal)
        have HS6 := Lib.hid (show (w5.alloc (.cells #[.int .u8 1, .string t, .int .i64 n, .int .i64 (max a 0 % 1000 + d), .slice p2 l.length c2] 25)).heap.size = w5.heap.size + 1 by simp)
        clear hok h25 h26 hal HL3 HN3 HL4 HB3 HB4 HL5 HT5 HCOPY HPICK HMV RA2 HA2 HW2 a0 a1 a2 a3 a4
        generalize w5.alloc (.cells #[.int .u8 1, .string t, .int .i64 n, .int .i64 (max a 0 % 1000 + d), .slice p2 l.length c2] 25) = w6 at *
        generalize hO5 : w5.heap.size = O5 at *
        clear hO5
        have HSAO := Lib.hid (fun u (hu : Below w6.heap.size w6 u) => same_any (.mk 1 t n a l) (movedN d (.mk 1 t n a l)) _ _ _ _ u (RA6.out.below hu) (RO6.out.below hu))
        rw [same_moved, node_moved] at HSAO
        have HSOA := Lib.hid (fun u (hu : Below w6.heap.size w6 u) => same_any (movedN d (.mk 1 t n a l)) (.mk 1 t n a l) _ _ _ _ u (RO6.out.below hu) (RA6.out.below hu))
        rw [moved_same, node_moved] at HSOA
        have hdw : deepN (.mk 1 t n a l) ≤ 1000000000 := by have := deep_wt (.mk 1 t n a l); have := HWT.out; omega
        have HDA := Lib.hid (fun u (hu : Below w6.heap.size w6 u) => deep_any (.mk 1 t n a l) _ _ u (RA6.out.below hu) hdw)
        have HDO := Lib.hid (fun u (hu : Below w6.heap.size w6 u) => deep_any (movedN d (.mk 1 t n a l)) _ _ u (RO6.out.below hu) (by rw [deep_moved]; exact hdw))
        rw [deep_moved, node_moved] at HDO
        have HBA := Lib.hid (fun u (hu : Below w6.heap.size w6 u) => bare_node (RA6.out.below hu))
        have HBO := Lib.hid (fun u (hu : Below w6.heap.size w6 u) => bare_node (RO6.out.below hu))
        rw [node_moved] at HBO
        have HBB := Lib.hid (fun (u : World) (v v' : Value) (_ : Below w6.heap.size w6 u) (hv : IsNode u v (bareN (.mk 1 t n a l))) (hv' : IsNode u v' (bareN (movedN d (.mk 1 t n a l)))) => bare_all (bare_moved d (.mk 1 t n a l)).symm hv hv')
        generalize hdd : ((deepN (.mk 1 t n a l) : Nat) : Int) = dd at *
        have HDD := Lib.hid hdd; clear hdd
        clear hdw
        unfold nodeC at HSAO HSOA HDA HBA
        simp only [Nd.kind, Nd.text, Nd.num, Nd.at_, Nd.kids] at HSAO HSOA HDA HBA
        refine wp_region_typedE (l1 := [_, _, _, _, _, _, _, _, _, _, _, _, _, _, _, _, _, _, _, _, _, _, _, _, _]) (l2 := []) [] [34, 35, 36, 37, 38, 39, 40, 41, 42, 43, 44, 45, 46, 47, 48, 49, 50, 51, 52, 53, 54, 55, 56, 57, 58] (fun u => Below w6.heap.size w6 u) (FS [.val (.agg #[.int .u8 1, .string t, .int .i64 n, .int .i64 a, .slice p l.length c]), .val (.agg #[.int .u8 1, .string t, .int .i64 n, .int .i64 (max a 0 % 1000 + d), .slice p2 l.length c2]), .val (.bool true), .val (.bool false), .val (.bool false), .val (.agg #[.int .u8 1, .string t, .int .i64 n, .int .i64 (max a 0 % 1000 + d), .slice p2 l.length c2]), .val (.agg #[.int .u8 1, .string t, .int .i64 n, .int .i64 a, .slice p l.length c]), .val (.bool true), .val (.bool false), .val (.bool false), .val (.bool false), .val (.agg #[.int .u8 1, .string t, .int .i64 n, .int .i64 (max a 0 % 1000 + d), .slice p2 l.length c2]), .val (.int .i64 dd), .val (.agg #[.int .u8 1, .string t, .int .i64 n, .int .i64 a, .slice p l.length c]), .val (.int .i64 dd), .val (.bool false), .val (.bool false), .val (.bool false), .val (.agg #[.int .u8 1, .string t, .int .i64 n, .int .i64 a, .slice p l.length c]), .node (bareN (.mk 1 t n a l)), .val (.agg #[.int .u8 1, .string t, .int .i64 n, .int .i64 (max a 0 % 1000 + d), .slice p2 l.length c2]), .node (bareN (movedN d (.mk 1 t n a l))), .val (.bool true), .val (.bool false), .val (.bool false)] w6) (by kernel_rfl) (by kernel_rfl) (met_at (by first | rfl | kernel_rfl | decide)) (by kernel_rfl) FS.below ((Below.refl _ _).drew) ⟨?_, ?_, ?_, ?_, ?_, ?_, ?_, ?_, ?_, ?_, ?_, ?_, ?_, ?_, ?_, ?_, ?_, ?_, ?_, ?_, ?_, ?_, ?_, ?_, ?_, trivial⟩ (fun i hi => by cases hi) ?_
        · exact (sv_load rfl rfl rfl (b := H) rfl HA6.out).toA rfl
        · exact (sv_load rfl rfl rfl (b := O5) rfl HO6.out).toA rfl
        · exact (sv_call2 (f := 13) rfl (t := 34) (t' := 35) (u := (.agg #[.int .u8 1, .string t, .int .i64 n, .int .i64 a, .slice p l.length c])) (u' := (.agg #[.int .u8 1, .string t, .int .i64 n, .int .i64 (max a 0 % 1000 + d), .slice p2 l.length c2])) (.of 0 (by decide) rfl rfl) (.of 1 (by decide) rfl rfl) (fun a' w h1 h2 => by simp only [execOp]; go_simp) HSAO.out).toA rfl
        · exact (st_not (j := 2) (t := 36) (b := true) (c := false) rfl (by decide) rfl rfl rfl rfl).toA rfl
        · exact (st_movev (j := 3) rfl (by decide) rfl rfl rfl).toA rfl
        · exact (sv_load rfl rfl rfl (b := O5) rfl HO6.out).toA rfl
        · exact (sv_load rfl rfl rfl (b := H) rfl HA6.out).toA rfl
        · exact (sv_call2 (f := 13) rfl (t := 39) (t' := 40) (u := (.agg #[.int .u8 1, .string t, .int .i64 n, .int .i64 (max a 0 % 1000 + d), .slice p2 l.length c2])) (u' := (.agg #[.int .u8 1, .string t, .int .i64 n, .int .i64 a, .slice p l.length c])) (.of 5 (by decide) rfl rfl) (.of 6 (by decide) rfl rfl) (fun a' w h1 h2 => by simp only [execOp]; go_simp) HSOA.out).toA rfl
        · exact (st_not (j := 7) (t := 41) (b := true) (c := false) rfl (by decide) rfl rfl rfl rfl).toA rfl
        · exact (st_pickF (j1 := 4) (j2 := 8) (b := false) rfl (by decide) rfl rfl (by decide) rfl rfl rfl).toA rfl
        · exact (st_movev (j := 9) rfl (by decide) rfl rfl rfl).toA rfl
        · exact (sv_load rfl rfl rfl (b := O5) rfl HO6.out).toA rfl
        · exact (sv_call1 (f := 9) rfl (t := 45) (u := (.agg #[.int .u8 1, .string t, .int .i64 n, .int .i64 (max a 0 % 1000 + d), .slice p2 l.length c2])) (.of 11 (by decide) rfl rfl) (fun a' w h1 => by have e1 := eval_tmp h1; simp only [execOp]; go_simp) HDO.out).toA rfl
        · exact (sv_load rfl rfl rfl (b := H) rfl HA6.out).toA rfl
        · exact (sv_call1 (f := 9) rfl (t := 47) (u := (.agg #[.int .u8 1, .string t, .int .i64 n, .int .i64 a, .slice p l.length c])) (.of 13 (by decide) rfl rfl) (fun a' w h1 => by have e1 := eval_tmp h1; simp only [execOp]; go_simp) HDA.out).toA rfl
        · exact (sv_two rfl (t := 46) (t' := 48) (u := .int .i64 dd) (u' := .int .i64 dd) (.of 12 (by decide) rfl rfl) (.of 14 (by decide) rfl rfl) (fun a' w h1 h2 => by have e1 := eval_tmp h1; have e2 := eval_tmp h2; simp only [execOp, e1, e2]; go_simp)).toA rfl
        · exact (st_pickF (j1 := 10) (j2 := 15) (b := false) rfl (by decide) rfl rfl (by decide) rfl rfl rfl).toA rfl
        · exact (st_movev (j := 16) rfl (by decide) rfl rfl rfl).toA rfl
        · exact (sv_load rfl rfl rfl (b := H) rfl HA6.out).toA rfl
        · exact (sv_node (f := 16) rfl (t := 52) (u := (.agg #[.int .u8 1, .string t, .int .i64 n, .int .i64 a, .slice p l.length c])) (.of 18 (by decide) rfl rfl) (fun a' w h1 => by have e1 := eval_tmp h1; simp only [execOp]; go_simp) HBA.out).toA rfl
        · exact (sv_load rfl rfl rfl (b := O5) rfl HO6.out).toA rfl
        · exact (sv_node (f := 16) rfl (t := 54) (u := (.agg #[.int .u8 1, .string t, .int .i64 n, .int .i64 (max a 0 % 1000 + d), .slice p2 l.length c2])) (.of 20 (by decide) rfl rfl) (fun a' w h1 => by have e1 := eval_tmp h1; simp only [execOp]; go_simp) HBO.out).toA rfl
        · exact (sv_nn (f := 20) rfl (t := 53) (t' := 55) (.of 19 (by decide) rfl rfl) (.of 21 (by decide) rfl rfl) (fun a' w u u' h1 h2 => by simp only [execOp]; go_simp) HBB.out).toA rfl
        · exact (st_not (j := 22) (t := 56) (b := true) (c := false) rfl (by decide) rfl rfl rfl rfl).toA rfl
        · exact (st_pickF (j1 := 17) (j2 := 23) (b := false) rfl (by decide) rfl rfl (by decide) rfl rfl rfl).toA rfl
        intro vs wx hlen hx hF _
        obtain ⟨v0, v1, v2, v3, v4, v5, v6, v7, v8, v9, v10, v11, v12, v13, v14, v15, v16, v17, v18, v19, v20, v21, v22, v23, v24, rfl⟩ := list25 hlen
        obtain rfl : v0 = _ := FS.of (hF 0 v0 rfl) rfl
        obtain rfl : v1 = _ := FS.of (hF 1 v1 rfl) rfl
        obtain rfl : v2 = _ := FS.of (hF 2 v2 rfl) rfl
        obtain rfl : v3 = _ := FS.of (hF 3 v3 rfl) rfl
        obtain rfl : v4 = _ := FS.of (hF 4 v4 rfl) rfl
        obtain rfl : v5 = _ := FS.of (hF 5 v5 rfl) rfl
        obtain rfl : v6 = _ := FS.of (hF 6 v6 rfl) rfl
        obtain rfl : v7 = _ := FS.of (hF 7 v7 rfl) rfl
        obtain rfl : v8 = _ := FS.of (hF 8 v8 rfl) rfl
        obtain rfl : v9 = _ := FS.of (hF 9 v9 rfl) rfl
        obtain rfl : v10 = _ := FS.of (hF 10 v10 rfl) rfl
        obtain rfl : v11 = _ := FS.of (hF 11 v11 rfl) rfl
        obtain rfl : v12 = _ := FS.of (hF 12 v12 rfl) rfl
        obtain rfl : v13 = _ := FS.of (hF 13 v13 rfl) rfl
        obtain rfl : v14 = _ := FS.of (hF 14 v14 rfl) rfl
        obtain rfl : v15 = _ := FS.of (hF 15 v15 rfl) rfl
        obtain rfl : v16 = _ := FS.of (hF 16 v16 rfl) rfl
        obtain rfl : v17 = _ := FS.of (hF 17 v17 rfl) rfl
        obtain rfl : v18 = _ := FS.of (hF 18 v18 rfl) rfl
        obtain rfl : v20 = _ := FS.of (hF 20 v20 rfl) rfl
        obtain rfl : v22 = _ := FS.of (hF 22 v22 rfl) rfl
        obtain rfl : v23 = _ := FS.of (hF 23 v23 rfl) rfl
        obtain rfl : v24 = _ := FS.of (hF 24 v24 rfl) rfl
        have HX0 := Lib.hid hx
        clear hF hlen hx
        show wpList _ _ _ _ (putAll _ [(34, _), (35, _), (36, _), (37, _), (38, _), (39, _), (40, _), (41, _), (42, _), (43, _), (44, _), (45, _), (46, _), (47, _), (48, _), (49, _), (50, _), (51, _), (52, _), (53, _), (54, _), (55, _), (56, _), (57, _), (58, _)]) _
        simp only [putAll, Act.put, List.setIfInBounds_toArray, List.set_cons_succ, List.set_cons_zero]
        refine wpList_nil ?_
        go_upto_region 8 with fail
        clear HSAO HSOA HDO HBO HBB
        have HRA := Lib.hid (fun u (hu : Below w6.heap.size w6 u) (hm : u.cell? ⟨0, 0, none⟩ = some (.int .i64 mm)) => right_any hm (RA6.out.below hu))
        have HMM := Lib.hid (fun u (hu : Below w6.heap.size w6 u) => cell_on (show Below w.heap.size w u from HHH.out ▸ (HW6.out.next hu).b) HM.out)
        unfold nodeC at HRA
        simp only [Nd.kind, Nd.text, Nd.num, Nd.at_, Nd.kids, cast1] at HRA
        obtain ⟨a0, a1, a2, a3, a4⟩ := HA6.out.below HX0.out
        cases hr : rightN (.mk 1 t n a l) with
        | false =>
          rw [hr] at HRA
          clear hr
          go_wp2_with (go_at_call 8; go_must (refine (HRA.out _ HX0.out (HMM.out _ HX0.out)).mono ?_; rintro e w7 ⟨rfl, hb⟩; have HX1 := Lib.hid (HX0.out.trans (hb.mono HX0.out.size)); clear hb))
          go_ret
          exact ⟨rfl, HHH.out ▸ (HW6.out.next HX1.out).b⟩
        | true =>
          rw [hr] at HRA
          have HRT := Lib.hid hr; clear hr
          have HRO := Lib.hid (fun u (hu : Below w6.heap.size w6 u) (hm : u.cell? ⟨0, 0, none⟩ = some (.int .i64 mm)) => right_any hm (RO6.out.below hu))
          rw [right_moved HD0.out.1 HRT.out, node_moved, cast1] at HRO
          have HRB := Lib.hid (fun (u : World) (p3 : Option Addr) (c3 : Nat) (hr : Ready u p3 c3 (bareN (.mk 1 t n a l))) (hm : u.cell? ⟨0, 0, none⟩ = some (.int .i64 mm)) => right_any hm hr)
          rw [right_bare HRT.out] at HRB
          have hdd : dd ≤ 60 := by have := right_deep HRT.out; have := HDD.out; omega
          go_upto_region 12 with (first
            | (go_at_call 8; (with_reducible refine (HRA.out _ HX0.out (HMM.out _ HX0.out)).mono ?_); go_must (rintro e w7 ⟨rfl, hb⟩; have HX1 := Lib.hid (HX0.out.trans (hb.mono HX0.out.size)); clear hb a0 a1 a2 a3 a4; obtain ⟨o0, o1, o2, o3, o4⟩ := HO6.out.below HX1.out))
            | (go_at_call 8; (with_reducible refine (HRO.out _ HX1.out (HMM.out _ HX1.out)).mono ?_); go_must (rintro e w8 ⟨rfl, hb⟩; have HX2 := Lib.hid (HX1.out.trans (hb.mono HX1.out.size)); clear hb o0 o1 o2 o3 o4; obtain ⟨a0, a1, a2, a3, a4⟩ := HA6.out.below HX2.out))
            | (go_at_call 16; go_must (refine (HBA.out _ HX2.out).mono ?_; rintro e w9 ⟨v, rfl, ⟨p3, c3, rfl, hr3⟩, hb⟩; have HX3 := Lib.hid (HX2.out.trans (hb.mono HX2.out.size)); have HR3 := Lib.hid hr3; clear hr3 hb a0 a1 a2 a3 a4))
            | (go_at_call 8; (with_reducible refine (HRB.out _ _ _ HR3.out (HMM.out _ HX3.out)).mono ?_); go_must (rintro e w10 ⟨rfl, hb⟩; have HX4 := Lib.hid (HX3.out.trans (hb.mono HX3.out.size)); clear hb; obtain ⟨a0, a1, a2, a3, a4⟩ := HA6.out.below HX4.out))
            | (go_at_call 9; go_must (refine (HDA.out _ HX4.out).mono ?_; rintro e w11 ⟨rfl, hb⟩; have HX5 := Lib.hid (HX4.out.trans (hb.mono HX4.out.size)); clear hb a0 a1 a2 a3 a4)))
          clear HRO HRB HDA HBA HO6 HR3 HX0 HX1 HX2 HX3 HX4 hdd
          obtain ⟨a0, a1, a2, a3, a4⟩ := HA6.out.below HX5.out
          go_wp2_with fail
          clear a0 a1 a2 a3 a4
          go_loopg [10, 11] l.length (fun gk i _ wr => ∃ q : Nat, q ≤ l.length ∧ gk = l.length - q ∧ i = .int .i64 (q : Int) ∧ Below w6.heap.size w6 wr)
          case atStart => exact ⟨0, by omega, by omega, rfl, HX5.out⟩
          case round =>
            obtain ⟨q, hq, rfl, rfl, hbw⟩ := hrel
            have HBW := Lib.hid hbw; clear hbw HX5
            obtain ⟨a0, a1, a2, a3, a4⟩ := HA6.out.below HBW.out
            by_cases hlt : q < l.length
            · obtain ⟨g, o, hp, hk1⟩ := kids_one RA6.out.kids q hlt
              subst hp
              have hcap : l.length ≤ c := RA6.out.cap
              have hll : l.length ≤ 1000000 := RA6.out.len
              have HONE := Lib.hid (fun u (hu : Below w6.heap.size w6 u) (hm : u.cell? ⟨0, 0, none⟩ = some (.int .i64 mm)) => right_any (x := .mk 1 t n a [l[q]]) (p := some ⟨g, o + q * 5, none⟩) (c := c - q) hm ⟨KidsV.below hu hk1, by show 1 ≤ c - q; omega, by show 1 ≤ 1000000; omega, RA6.out.text⟩)
              rw [right_one HRT.out q hlt] at HONE
              unfold nodeC at HONE
              simp only [Nd.kind, Nd.text, Nd.num, Nd.at_, Nd.kids, List.length_cons, List.length_nil, Nat.zero_add, cast1] at HONE
              have j0 : (0 : Int) ≤ (q : Int) := by omega
              have j1 : (q : Int) < (l.length : Int) := by omega
              have j2 : (q : Int) + 1 ≤ (c : Int) := by omega
              have j3 : -9223372036854775808 ≤ (q : Int) + 1 ∧ (q : Int) + 1 ≤ 9223372036854775807 := by omega
              have hsw : w6.heap.size ≤ wr.heap.size := HBW.out.size
              clear hk1
              have hHl : H < wr.heap.size := World.block_lt_of_cell? _ _ a4
              go_upto_region 17 with fail
              have hw17 := HBW.out.alloc hsw (.cells #[.int .u8 1, .string t, .int .i64 n, .int .i64 a, .slice (some ⟨g, o + q * 5, none⟩) 1 (c - q)] 25)
              have HW17 := Lib.hid hw17; clear hw17
              obtain ⟨z0, z1, z2, z3, z4⟩ := Box5.new (w := wr) (v0 := .int .u8 1) (v1 := .string t) (v2 := .int .i64 n) (v3 := .int .i64 a) (v4 := .slice (some ⟨g, o + q * 5, none⟩) 1 (c - q)) (T := 25)
              clear a0 a1 a2 a3 a4
              generalize wr.alloc (.cells #[.int .u8 1, .string t, .int .i64 n, .int .i64 a, .slice (some ⟨g, o + q * 5, none⟩) 1 (c - q)] 25) = w17 at *
              generalize wr.heap.size = B11 at *
              go_wp2_with (go_at_call 8; go_must (refine (HONE.out _ HW17.out (HMM.out _ HW17.out)).mono ?_; rintro e w18 ⟨rfl, hb⟩; have HW18 := Lib.hid (HW17.out.trans (hb.mono HW17.out.size)); clear hb))
              go_roundg (l.length - (q + 1))
              case measure => omega
              case rel =>
                have hwk : wrap64 ((q : Int) + 1) = ((q + 1 : Nat) : Int) := (IntWalk.wrap64_in ((q : Int) + 1) j3).trans (by omega)
                exact ⟨q + 1, hlt, rfl, by first | exact congrArg (Value.int .i64) hwk | go_num, HW18.out⟩
            · obtain rfl : q = l.length := by omega
              by_cases h0 : l.length = 0
              · have h0' : (l.length : Int) = 0 := by omega
                go_wp2_with fail
                go_ret
                exact ⟨rfl, HHH.out ▸ (HW6.out.next HBW.out).b⟩
              · have h0' : (l.length : Int) ≠ 0 := by omega
                have hll : l.length ≤ 1000000 := RA6.out.len
                have HPI := Lib.hid (fun (u : World) => pick_any (x := i) (n := l.length) (by omega) (by omega) u)
                have HPK := Lib.hid (fun (u : World) => pick_any (x := k) (n := l.length) (by omega) (by omega) u)
                obtain ⟨i1, hi1⟩ : ∃ i1 : Nat, i % (l.length : Int) = (i1 : Int) := ⟨(i % (l.length : Int)).toNat, by have := Int.emod_nonneg i h0'; omega⟩
                obtain ⟨k1, hk1⟩ : ∃ k1 : Nat, k % (l.length : Int) = (k1 : Int) := ⟨(k % (l.length : Int)).toNat, by have := Int.emod_nonneg k h0'; omega⟩
                have hil : i1 < l.length := by have := Int.emod_lt_of_pos i (show (0 : Int) < (l.length : Int) by omega); omega
                have hkl : k1 < l.length := by have := Int.emod_lt_of_pos k (show (0 : Int) < (l.length : Int) by omega); omega
                rw [hi1] at HPI; rw [hk1] at HPK
                clear hi1 hk1
                go_upto_region 21 with fail
                refine wp_region_typedE (l1 := [_, _, _, _, _, _, _, _, _, _]) (l2 := [_, _]) [] [98, 99, 100, 101, 102, 103, 104, 105, 106, 107] (fun u => Below wr.heap.size wr u) (FS [.val (.int .i64 i), .val (.pointer (some ⟨H, 4, none⟩)), .val (.slice p l.length c), .val (.int .i64 (l.length : Int)), .val (.int .i64 (i1 : Int)), .val (.int .i64 k), .val (.pointer (some ⟨H, 4, none⟩)), .val (.slice p l.length c), .val (.int .i64 (l.length : Int)), .val (.int .i64 (k1 : Int))] wr) (by kernel_rfl) (by kernel_rfl) (no_guards (by kernel_rfl)) (by kernel_rfl) FS.below ((Below.refl _ _).drew) ⟨?_, ?_, ?_, ?_, ?_, ?_, ?_, ?_, ?_, ?_, trivial⟩ (fun i hi => by cases hi) ?_
                · exact (sv_out rfl (t := 1) (u := .int .i64 i) rfl rfl (fun a' w h1 => by have e1 := eval_tmp h1; simp only [execOp, e1]; go_simp)).toA rfl
                · exact (sv_out rfl (t := 4) (u := .pointer (some ⟨H, 0, none⟩)) rfl rfl (fun a' w h1 => by have e1 := eval_tmp h1; simp only [execOp, e1]; go_simp)).toA rfl
                · exact (sv_cell rfl (t := 99) (q := ⟨H, 4, none⟩) (.of 1 (by decide) rfl rfl) a4 (fun a' w h1 hc => by have e1 := eval_tmp h1; simp only [execOp, e1]; go_simp)).toA rfl
                · exact (sv_one rfl (t := 100) (u := (.slice p l.length c)) (.of 2 (by decide) rfl rfl) (fun a' w h1 => by have e1 := eval_tmp h1; simp only [execOp, e1]; go_simp)).toA rfl
                · exact (sv_call2 (f := 19) rfl (t := 98) (t' := 101) (u := .int .i64 i) (u' := .int .i64 (l.length : Int)) (.of 0 (by decide) rfl rfl) (.of 3 (by decide) rfl rfl) (fun a' w h1 h2 => by have e1 := eval_tmp h1; have e2 := eval_tmp h2; simp only [execOp]; go_simp) (fun u _ => HPI.out u)).toA rfl
                · exact (sv_out rfl (t := 2) (u := .int .i64 k) rfl rfl (fun a' w h1 => by have e1 := eval_tmp h1; simp only [execOp, e1]; go_simp)).toA rfl
                · exact (sv_out rfl (t := 4) (u := .pointer (some ⟨H, 0, none⟩)) rfl rfl (fun a' w h1 => by have e1 := eval_tmp h1; simp only [execOp, e1]; go_simp)).toA rfl
                · exact (sv_cell rfl (t := 104) (q := ⟨H, 4, none⟩) (.of 6 (by decide) rfl rfl) a4 (fun a' w h1 hc => by have e1 := eval_tmp h1; simp only [execOp, e1]; go_simp)).toA rfl
                · exact (sv_one rfl (t := 105) (u := (.slice p l.length c)) (.of 7 (by decide) rfl rfl) (fun a' w h1 => by have e1 := eval_tmp h1; simp only [execOp, e1]; go_simp)).toA rfl
                · exact (sv_call2 (f := 19) rfl (t := 103) (t' := 106) (u := .int .i64 k) (u' := .int .i64 (l.length : Int)) (.of 5 (by decide) rfl rfl) (.of 8 (by decide) rfl rfl) (fun a' w h1 h2 => by have e1 := eval_tmp h1; have e2 := eval_tmp h2; simp only [execOp]; go_simp) (fun u _ => HPK.out u)).toA rfl
                intro vs wy hlen hy hF _
                obtain ⟨v0, v1, v2, v3, v4, v5, v6, v7, v8, v9, rfl⟩ := list10 hlen
                obtain rfl : v0 = _ := FS.of (hF 0 v0 rfl) rfl
                obtain rfl : v1 = _ := FS.of (hF 1 v1 rfl) rfl
                obtain rfl : v2 = _ := FS.of (hF 2 v2 rfl) rfl
                obtain rfl : v3 = _ := FS.of (hF 3 v3 rfl) rfl
                obtain rfl : v4 = _ := FS.of (hF 4 v4 rfl) rfl
                obtain rfl : v5 = _ := FS.of (hF 5 v5 rfl) rfl
                obtain rfl : v6 = _ := FS.of (hF 6 v6 rfl) rfl
                obtain rfl : v7 = _ := FS.of (hF 7 v7 rfl) rfl
                obtain rfl : v8 = _ := FS.of (hF 8 v8 rfl) rfl
                obtain rfl : v9 = _ := FS.of (hF 9 v9 rfl) rfl
                have HWY := Lib.hid (HBW.out.trans (hy.mono HBW.out.size))
                clear hF hlen hy a0 a1 a2 a3 a4 HPI HPK HBW
                show wpList _ _ _ _ (putAll _ [(98, _), (99, _), (100, _), (101, _), (102, _), (103, _), (104, _), (105, _), (106, _), (107, _)]) _
                simp only [putAll, Act.put, List.setIfInBounds_toArray, List.set_cons_succ, List.set_cons_zero]
                go_upto_region 22 with fail
                have hok : okN (.mk 1 t n a l) := by have := RA6.out; rw [okN]; exact ⟨this.text, this.len, ok_kids this.kids⟩
                have HOKL := Lib.hid (show okL l by rw [okN] at hok; exact hok.2.2)
                clear hok
                have hlne : l ≠ [] := fun e => by rw [e] at h0; exact h0 rfl
                have HLNE := Lib.hid hlne; clear hlne
                have HCOPY := Lib.hid (fun (u : World) (hu : Below w6.heap.size w6 u) => copy_any (.mk 1 t n a l) p c u (RA6.out.below hu))
                unfold nodeC at HCOPY
                simp only [Nd.kind, Nd.text, Nd.num, Nd.at_, Nd.kids, cast1] at HCOPY
                obtain ⟨a0, a1, a2, a3, a4⟩ := HA6.out.below HWY.out
                go_upto_region 23 with (go_at_call 18; go_must (refine (HCOPY.out _ HWY.out).mono ?_; rintro e wa ⟨pa, ca, bka, rfl, hL, hnd, hb⟩; have HLA := Lib.hid hL; have HNA := Lib.hid hnd; have HWA := Lib.hid (HWY.out.trans (hb.mono HWY.out.size)); clear hL hnd hb a0 a1 a2 a3 a4))
                obtain ⟨g, cap, es, he, hes, hgB, hown⟩ := own_of HLA.out HNA.out HOKL.out hll HLNE.out
                simp only [Value.slice.injEq] at he
                obtain ⟨rfl, _, rfl⟩ := he
                have hel : es.length = l.length := by rw [← hes]; simp
                have hgs : w6.heap.size ≤ g := Nat.le_trans HWY.out.size hgB
                have h23 := HWA.out.alloc HWA.out.size (.cells #[.int .u8 1, .string t, .int .i64 n, .int .i64 a, .slice (some ⟨g, 0, none⟩) l.length ca] 25)
                have hO23 := hown.below ((Below.refl wa.heap.size wa).alloc (Nat.le_refl _) (.cells #[.int .u8 1, .string t, .int .i64 n, .int .i64 a, .slice (some ⟨g, 0, none⟩) l.length ca] 25))
                have hB23 := Box5.new (w := wa) (v0 := .int .u8 1) (v1 := .string t) (v2 := .int .i64 n) (v3 := .int .i64 a) (v4 := .slice (some ⟨g, 0, none⟩) l.length ca) (T := 25)
                have hgw : g < wa.heap.size := hown.lt
                have hsz23 : (wa.alloc (.cells #[.int .u8 1, .string t, .int .i64 n, .int .i64 a, .slice (some ⟨g, 0, none⟩) l.length ca] 25)).heap.size = wa.heap.size + 1 := by simp
                clear hown hgB
                generalize wa.alloc (.cells #[.int .u8 1, .string t, .int .i64 n, .int .i64 a, .slice (some ⟨g, 0, none⟩) l.length ca] 25) = w23 at *
                generalize hB12 : wa.heap.size = B12 at *
                clear hB12
                have hiE : i1 < es.length := by omega
                have hkE : k1 < es.length := by omega
                obtain ⟨ei, hei⟩ : ∃ e, es[i1] = e := ⟨_, rfl⟩
                obtain ⟨ek, hek⟩ : ∃ e, es[k1] = e := ⟨_, rfl⟩
                have hOd := hO23.below (w' := w23.drew) (Below.refl _ _).drew
                have rI := hOd.one i1 hiE; rw [hei] at rI
                have rK := hOd.one k1 hkE; rw [hek] at rK
                have tI := hOd.at_ i1 hiE
                have hO3 := hOd.swap i1 k1 hiE hkE
                rw [hei, hek] at hO3
                have hesw := ent_swap hes i1 k1 hiE hkE hil hkl
                rw [hei, hek] at hesw
                have c12 : w23.drew.cell? ⟨B12, 4, none⟩ = some (.slice (some ⟨g, 0, none⟩) l.length ca) := by exact hB23.c4
                have hgn : g ≠ B12 := by omega
                have c12' : (w23.drew.setCells g (i1 * 5) (five ek)).cell? ⟨B12, 4, none⟩ = some (.slice (some ⟨g, 0, none⟩) l.length ca) := (World.cell?_of_block (far_cells (Ne.symm hgn) _ _ _)).trans c12
                have j0 : (0 : Int) ≤ (i1 : Int) := by omega
                have j1 : (i1 : Int) < (l.length : Int) := by omega
                have j2 : (0 : Int) ≤ (k1 : Int) := by omega
                have j3 : (k1 : Int) < (l.length : Int) := by omega
                refine wp_region_store (l1 := [_, _, _, _, _, _, _, _, _, _, _, _, _, _, _, _, _, _]) (l2 := [_, _]) [some (110, (.pointer (some ⟨B12, 4, none⟩))), some (111, (.slice (some ⟨g, 0, none⟩) l.length ca)), some (112, (.int .i64 (i1 : Int))), some (113, (.pointer (some ⟨B12, 4, none⟩))), some (114, (.slice (some ⟨g, 0, none⟩) l.length ca)), some (115, (.int .i64 (k1 : Int))), some (116, (.pointer (some ⟨B12, 4, none⟩))), some (117, (.slice (some ⟨g, 0, none⟩) l.length ca)), some (118, (.int .i64 (k1 : Int))), some (119, (.pointer (some ⟨g, k1 * 5, none⟩))), some (120, (.agg #[.int .u8 (ek.1.kind : Int), .string ek.1.text, .int .i64 ek.1.num, .int .i64 ek.1.at_, .slice ek.2.1 ek.1.kids.length ek.2.2])), some (121, (.pointer (some ⟨B12, 4, none⟩))), some (122, (.slice (some ⟨g, 0, none⟩) l.length ca)), some (123, (.int .i64 (i1 : Int))), some (124, (.pointer (some ⟨g, i1 * 5, none⟩))), some (125, (.agg #[.int .u8 (ei.1.kind : Int), .string ei.1.text, .int .i64 ei.1.num, .int .i64 ei.1.at_, .slice ei.2.1 ei.1.kids.length ei.2.2])), some (126, (.pointer (some ⟨g, i1 * 5, none⟩))), none] [110, 111, 112, 113, 114, 115, 116, 117, 118, 119, 120, 121, 122, 123, 124, 125, 126] 17 _ (fun u => u = w23.drew) (fun u => u = w23.drew.setCells g (i1 * 5) (five ek)) (by kernel_rfl) rfl (by kernel_rfl) rfl (by kernel_rfl) (by kernel_rfl) rfl ⟨?_, ?_, ?_, ?_, ?_, ?_, ?_, ?_, ?_, ?_, ?_, ?_, ?_, ?_, ?_, ?_, ?_, ?_, trivial⟩ ?_ ?_
                · exact ReadR.of rfl fun a' u hS hfr hh => by have e1 := eval_tmp (show a'.tmps[12]? = some (.pointer (some ⟨B12, 0, none⟩)) from (hfr 12 (by decide)).trans rfl); simp only [execOp, e1]; go_simp
                · exact ReadR.of rfl fun a' u hS hfr hh => by have e1 := eval_tmp (hh.at (j := 0) (by decide) rfl); have hc : u.cell? ⟨B12, 4, none⟩ = some (.slice (some ⟨g, 0, none⟩) l.length ca) := hS.elim (fun e => e ▸ c12) (fun e => e.2 ▸ c12'); simp only [execOp, e1]; go_simp
                · exact ReadR.of rfl fun a' u hS hfr hh => by have e1 := eval_tmp (show a'.tmps[1]? = some (.int .i64 (i1 : Int)) from (hfr 1 (by decide)).trans rfl); simp only [execOp, e1]; go_simp
                · exact ReadR.of rfl fun a' u hS hfr hh => by have e1 := eval_tmp (show a'.tmps[12]? = some (.pointer (some ⟨B12, 0, none⟩)) from (hfr 12 (by decide)).trans rfl); simp only [execOp, e1]; go_simp
                · exact ReadR.of rfl fun a' u hS hfr hh => by have e1 := eval_tmp (hh.at (j := 3) (by decide) rfl); have hc : u.cell? ⟨B12, 4, none⟩ = some (.slice (some ⟨g, 0, none⟩) l.length ca) := hS.elim (fun e => e ▸ c12) (fun e => e.2 ▸ c12'); simp only [execOp, e1]; go_simp
                · exact ReadR.of rfl fun a' u hS hfr hh => by have e1 := eval_tmp (show a'.tmps[2]? = some (.int .i64 (k1 : Int)) from (hfr 2 (by decide)).trans rfl); simp only [execOp, e1]; go_simp
                · exact ReadR.of rfl fun a' u hS hfr hh => by have e1 := eval_tmp (show a'.tmps[12]? = some (.pointer (some ⟨B12, 0, none⟩)) from (hfr 12 (by decide)).trans rfl); simp only [execOp, e1]; go_simp
                · exact ReadR.of rfl fun a' u hS hfr hh => by have e1 := eval_tmp (hh.at (j := 6) (by decide) rfl); have hc : u.cell? ⟨B12, 4, none⟩ = some (.slice (some ⟨g, 0, none⟩) l.length ca) := hS.elim (fun e => e ▸ c12) (fun e => e.2 ▸ c12'); simp only [execOp, e1]; go_simp
                · exact ReadR.of rfl fun a' u hS hfr hh => by have e1 := eval_tmp (show a'.tmps[2]? = some (.int .i64 (k1 : Int)) from (hfr 2 (by decide)).trans rfl); simp only [execOp, e1]; go_simp
                · exact ReadR.of rfl fun a' u hS hfr hh => by have e1 := eval_tmp (hh.at (j := 7) (by decide) rfl); have e2 := eval_tmp (hh.at (j := 8) (by decide) rfl); simp only [execOp, e1, e2]; go_simp
                · exact ReadR.of rfl fun a' u hS hfr hh => by have e1 := eval_tmp (hh.at (j := 9) (by decide) rfl); have hu : u = w23.drew := hS.elim id (fun e => absurd e.1 (by decide)); subst hu; have c0 := rK 0 _ rfl; have c1 := rK 1 _ rfl; have c2 := rK 2 _ rfl; have c3 := rK 3 _ rfl; have c4 := rK 4 _ rfl; simp only [Nat.add_zero] at c0; simp only [execOp, e1]; go_simp
                · exact ReadR.of rfl fun a' u hS hfr hh => by have e1 := eval_tmp (show a'.tmps[12]? = some (.pointer (some ⟨B12, 0, none⟩)) from (hfr 12 (by decide)).trans rfl); simp only [execOp, e1]; go_simp
                · exact ReadR.of rfl fun a' u hS hfr hh => by have e1 := eval_tmp (hh.at (j := 11) (by decide) rfl); have hc : u.cell? ⟨B12, 4, none⟩ = some (.slice (some ⟨g, 0, none⟩) l.length ca) := hS.elim (fun e => e ▸ c12) (fun e => e.2 ▸ c12'); simp only [execOp, e1]; go_simp
                · exact ReadR.of rfl fun a' u hS hfr hh => by have e1 := eval_tmp (show a'.tmps[1]? = some (.int .i64 (i1 : Int)) from (hfr 1 (by decide)).trans rfl); simp only [execOp, e1]; go_simp
                · exact ReadR.of rfl fun a' u hS hfr hh => by have e1 := eval_tmp (hh.at (j := 12) (by decide) rfl); have e2 := eval_tmp (hh.at (j := 13) (by decide) rfl); simp only [execOp, e1, e2]; go_simp
                · exact ReadR.of rfl fun a' u hS hfr hh => by have e1 := eval_tmp (hh.at (j := 14) (by decide) rfl); have hu : u = w23.drew := hS.elim id (fun e => absurd e.1 (by decide)); subst hu; have c0 := rI 0 _ rfl; have c1 := rI 1 _ rfl; have c2 := rI 2 _ rfl; have c3 := rI 3 _ rfl; have c4 := rI 4 _ rfl; simp only [Nat.add_zero] at c0; simp only [execOp, e1]; go_simp
                · exact ReadR.of rfl fun a' u hS hfr hh => by have e1 := eval_tmp (hh.at (j := 1) (by decide) rfl); have e2 := eval_tmp (hh.at (j := 2) (by decide) rfl); simp only [execOp, e1, e2]; go_simp
                · intro d' v' hv'; cases hv'
                · rintro a' u rfl hfr hh
                  have e1 := eval_tmp (hh.at (j := 16) (by decide) rfl)
                  have e2 := eval_tmp (hh.at (j := 10) (by decide) rfl)
                  exact ⟨_, exec_store_mid 25 (.tmp 126) (.tmp 120) rfl g (i1 * 5) #[.int .u8 (ek.1.kind : Int), .string ek.1.text, .int .i64 ek.1.num, .int .i64 ek.1.at_, .slice ek.2.1 ek.1.kids.length ek.2.2] e1 e2 tI (by kernel_rfl) (by simp [Value.oneCell']), rfl⟩
                intro u hu
                subst hu
                show wpList _ _ _ _ (putAll _ [(110, _), (111, _), (112, _), (113, _), (114, _), (115, _), (116, _), (117, _), (118, _), (119, _), (120, _), (121, _), (122, _), (123, _), (124, _), (125, _), (126, _)]) _
                simp only [putAll, Act.put, List.setIfInBounds_toArray, List.set_cons_succ, List.set_cons_zero]
                refine list_step rfl ?_
                refine wp_val (v := (.pointer (some ⟨g, k1 * 5, none⟩))) (w' := w23.drew.setCells g (i1 * 5) (five ek)) ?_ ?_
                · go_simp
                simp only [Act.put, List.setIfInBounds_toArray, List.set_cons_succ, List.set_cons_zero]
                refine wpList_store_mid rfl 25 (.tmp 127) (.tmp 125) rfl g (k1 * 5) #[.int .u8 (ei.1.kind : Int), .string ei.1.text, .int .i64 ei.1.num, .int .i64 ei.1.at_, .slice ei.2.1 ei.1.kids.length ei.2.2] rfl rfl (World.there_setCells (hOd.at_ k1 hkE) g (i1 * 5) (five ek)) (by kernel_rfl) (by simp [Value.oneCell']) ?_
                refine wpList_nil ?_
                simp only [Act.put, List.setIfInBounds_toArray, List.set_cons_succ, List.set_cons_zero]
                have h24 : Below w6.heap.size w6 ((w23.drew.setCells g (i1 * 5) (five ek)).setCells g (k1 * 5) (#[.int .u8 (ei.1.kind : Int), .string ei.1.text, .int .i64 ei.1.num, .int .i64 ei.1.at_, .slice ei.2.1 ei.1.kids.length ei.2.2] : Array Value).toList) := below_cells hgs _ _ (below_cells hgs _ _ h23.drew)
                have hO4 : OwnRow ((w23.drew.setCells g (i1 * 5) (five ek)).setCells g (k1 * 5) (#[.int .u8 (ei.1.kind : Int), .string ei.1.text, .int .i64 ei.1.num, .int .i64 ei.1.at_, .slice ei.2.1 ei.1.kids.length ei.2.2] : Array Value).toList) g ca ((es.set i1 ek).set k1 ei) := hO3
                have hB4 : Box5 ((w23.drew.setCells g (i1 * 5) (five ek)).setCells g (k1 * 5) (#[.int .u8 (ei.1.kind : Int), .string ei.1.text, .int .i64 ei.1.num, .int .i64 ei.1.at_, .slice ei.2.1 ei.1.kids.length ei.2.2] : Array Value).toList) B12 (.int .u8 1) (.string t) (.int .i64 n) (.int .i64 a) (.slice (some ⟨g, 0, none⟩) l.length ca) := box_same hB23 ((far_cells (Ne.symm hgn) _ _ _).trans ((far_cells (Ne.symm hgn) _ _ _).trans rfl))
                have HO4 := Lib.hid hO4; have HB4 := Lib.hid hB4; have H24 := Lib.hid h24; have HESW := Lib.hid hesw
                clear hO4 hB4 h24 hesw hO3 hOd hO23 hB23 h23 rI rK tI c12 c12' HLA HNA HWA HWY hgs hgw hsz23 hes hel hei hek hiE hkE
                generalize (w23.drew.setCells g (i1 * 5) (five ek)).setCells g (k1 * 5) (#[.int .u8 (ei.1.kind : Int), .string ei.1.text, .int .i64 ei.1.num, .int .i64 ei.1.at_, .slice ei.2.1 ei.1.kids.length ei.2.2] : Array Value).toList = w24 at *
                obtain ⟨a0, a1, a2, a3, a4⟩ := HA6.out.below H24.out
                go_upto_region 25 with (go_at_call 18; go_must (refine (HCOPY.out _ H24.out).mono ?_; rintro e wb ⟨pb, cb, bkb, rfl, hL, hnd, hb⟩; have HLB := Lib.hid hL; have HNB := Lib.hid hnd; have HBB := Lib.hid hb; have HWB := Lib.hid (H24.out.trans (hb.mono H24.out.size)); clear hL hnd hb a0 a1 a2 a3 a4))
                obtain ⟨gb, capb, eb, he, heb, hgbB, hownb⟩ := own_of HLB.out HNB.out HOKL.out hll HLNE.out
                simp only [Value.slice.injEq] at he
                obtain ⟨rfl, _, rfl⟩ := he
                have hel : eb.length = l.length := by rw [← heb]; simp
                have h25 : Below w6.heap.size w6 (wb.alloc (.cells #[.int .u8 1, .string t, .int .i64 n, .int .i64 a, .slice (some ⟨gb, 0, none⟩) l.length cb] 25)) := HWB.out.alloc HWB.out.size _
                have h245 : Below w24.heap.size w24 (wb.alloc (.cells #[.int .u8 1, .string t, .int .i64 n, .int .i64 a, .slice (some ⟨gb, 0, none⟩) l.length cb] 25)) := HBB.out.alloc HBB.out.size _
                have hab : Below wb.heap.size wb (wb.alloc (.cells #[.int .u8 1, .string t, .int .i64 n, .int .i64 a, .slice (some ⟨gb, 0, none⟩) l.length cb] 25)) := (Below.refl wb.heap.size wb).alloc (Nat.le_refl _) _
                have hB25 := heap_alloc_new wb (.cells #[.int .u8 1, .string t, .int .i64 n, .int .i64 a, .slice (some ⟨gb, 0, none⟩) l.length cb] 25)
                have hgw : gb < wb.heap.size := hownb.lt
                have hsb : w24.heap.size ≤ wb.heap.size := HBB.out.size
                generalize wb.alloc (.cells #[.int .u8 1, .string t, .int .i64 n, .int .i64 a, .slice (some ⟨gb, 0, none⟩) l.length cb] 25) = w25 at *
                obtain ⟨B13, hB13⟩ : ∃ b, wb.heap.size = b := ⟨_, rfl⟩
                simp only [hB13] at hB25 ⊢
                have hbox25 := box_of hB25
                obtain ⟨ad, had, hadn⟩ := slice_tail gb l.length cb i1 hil (by have := hownb.cap; omega)
                obtain ⟨m2, hm2⟩ : ∃ m, l.length - (i1 + 1) = m := ⟨_, rfl⟩
                rw [hm2] at had
                have hcapb : l.length ≤ cb := by have := hownb.cap; omega
                have j4 : (i1 : Int) ≤ (cb : Int) := by omega
                have j5 : -9223372036854775808 ≤ (i1 : Int) + 1 ∧ (i1 : Int) + 1 ≤ 9223372036854775807 := by omega
                refine wp_region_typedE (l1 := [_, _, _, _, _, _, _, _, _]) (l2 := [_, _, _]) [] [130, 131, 132, 133, 134, 135, 136, 137, 138] (fun u => Below w25.heap.size w25 u) (FS [.val (.pointer (some ⟨B13, 4, none⟩)), .val (.slice (some ⟨gb, 0, none⟩) l.length cb), .val (.int .i64 (i1 : Int)), .val (.slice (some ⟨gb, 0, none⟩) i1 cb), .val (.pointer (some ⟨B13, 4, none⟩)), .val (.slice (some ⟨gb, 0, none⟩) l.length cb), .val (.int .i64 (i1 : Int)), .val (.int .i64 ((i1 : Int) + 1)), .val (.slice (some ad) m2 (cb - (i1 + 1)))] w25) (by kernel_rfl) (by kernel_rfl) (no_guards (by kernel_rfl)) (by kernel_rfl) FS.below ((Below.refl _ _).drew) ⟨?_, ?_, ?_, ?_, ?_, ?_, ?_, ?_, ?_, trivial⟩ (fun i hi => by cases hi) ?_
                · exact (sv_out rfl (t := 13) (u := .pointer (some ⟨B13, 0, none⟩)) rfl rfl (fun a' w h1 => by have e1 := eval_tmp h1; simp only [execOp, e1]; go_simp)).toA rfl
                · exact (sv_cell rfl (t := 130) (q := ⟨B13, 4, none⟩) (.of 0 (by decide) rfl rfl) hbox25.c4 (fun a' w h1 hc => by have e1 := eval_tmp h1; simp only [execOp, e1]; go_simp)).toA rfl
                · exact (sv_out rfl (t := 1) (u := .int .i64 (i1 : Int)) rfl rfl (fun a' w h1 => by have e1 := eval_tmp h1; simp only [execOp, e1]; go_simp)).toA rfl
                · exact (sv_two rfl (t := 131) (t' := 132) (u := (.slice (some ⟨gb, 0, none⟩) l.length cb)) (u' := .int .i64 (i1 : Int)) (.of 1 (by decide) rfl rfl) (.of 2 (by decide) rfl rfl) (fun a' w h1 h2 => by have e1 := eval_tmp h1; have e2 := eval_tmp h2; simp only [execOp, e1, e2]; go_simp)).toA rfl
                · exact (sv_out rfl (t := 13) (u := .pointer (some ⟨B13, 0, none⟩)) rfl rfl (fun a' w h1 => by have e1 := eval_tmp h1; simp only [execOp, e1]; go_simp)).toA rfl
                · exact (sv_cell rfl (t := 134) (q := ⟨B13, 4, none⟩) (.of 4 (by decide) rfl rfl) hbox25.c4 (fun a' w h1 hc => by have e1 := eval_tmp h1; simp only [execOp, e1]; go_simp)).toA rfl
                · exact (sv_out rfl (t := 1) (u := .int .i64 (i1 : Int)) rfl rfl (fun a' w h1 => by have e1 := eval_tmp h1; simp only [execOp, e1]; go_simp)).toA rfl
                · exact (sv_one rfl (t := 136) (u := .int .i64 (i1 : Int)) (.of 6 (by decide) rfl rfl) (fun a' w h1 => by have e1 := eval_tmp h1; simp only [execOp, e1]; go_simp; exact IntWalk.i64_in _ j5)).toA rfl
                · exact (sv_two rfl (t := 135) (t' := 137) (u := (.slice (some ⟨gb, 0, none⟩) l.length cb)) (u' := .int .i64 ((i1 : Int) + 1)) (.of 5 (by decide) rfl rfl) (.of 7 (by decide) rfl rfl) (fun a' w h1 h2 => by have e1 := eval_tmp h1; have e2 := eval_tmp h2; simp only [execOp, Option.map_some, Option.map_none, e1, e2]; simp only [Sem.run_bind, Sem.run_map, had w]; first | rfl | go_simp)).toA rfl
                intro vs wz hlen hz hF _
                obtain ⟨v0, v1, v2, v3, v4, v5, v6, v7, v8, rfl⟩ := list9 hlen
                obtain rfl : v0 = _ := FS.of (hF 0 v0 rfl) rfl
                obtain rfl : v1 = _ := FS.of (hF 1 v1 rfl) rfl
                obtain rfl : v2 = _ := FS.of (hF 2 v2 rfl) rfl
                obtain rfl : v3 = _ := FS.of (hF 3 v3 rfl) rfl
                obtain rfl : v4 = _ := FS.of (hF 4 v4 rfl) rfl
                obtain rfl : v5 = _ := FS.of (hF 5 v5 rfl) rfl
                obtain rfl : v6 = _ := FS.of (hF 6 v6 rfl) rfl
                obtain rfl : v7 = _ := FS.of (hF 7 v7 rfl) rfl
                obtain rfl : v8 = _ := FS.of (hF 8 v8 rfl) rfl
                clear hF hlen
                show wpList _ _ _ _ (putAll _ [(130, _), (131, _), (132, _), (133, _), (134, _), (135, _), (136, _), (137, _), (138, _)]) _
                simp only [putAll, Act.put, List.setIfInBounds_toArray, List.set_cons_succ, List.set_cons_zero]
                obtain ⟨ti, hti, htz, hts, htb⟩ := nodeInfo
                have hOz := (hownb.below hab).below hz
                have hsz25 : B13 < w25.heap.size := (Array.getElem?_eq_some_iff.1 hB25).1
                have hbz := (hz.block B13 hsz25).trans hB25
                have hgbn : B13 ≠ gb := by omega
                have hdl : (rowOf (eb.drop (i1 + 1))).length = m2 * 5 := by rw [Build.rowOf_len, List.length_drop, hel, hm2]
                refine wpList_append_arg wz rfl (.tmp 133) (.tmp 138) 23 rfl 25 ti (.agg zeros) 5 64 Try.underlying23 hti htz hts htb (by rfl) (by omega) gb 0 i1 cb (rowOf (eb.take i1)) rfl (by rw [Build.rowOf_len, List.length_take]; omega) (hOz.head i1) ad m2 (cb - (i1 + 1)) (rowOf (eb.drop (i1 + 1))) rfl hdl ?nc (rowOf_one _) ?sp (by unfold maxLen; omega) (by omega) ?room ?grow
                case nc =>
                  intro j u hj
                  rcases hadn with e | e
                  · have := (List.getElem?_eq_some_iff.1 hj).1; rw [hdl] at this; omega
                  · rw [e, Addr.add_mid]; exact hOz.tail (i1 + 1) (by omega) j u hj
                case sp =>
                  intro _ j hj
                  rw [hdl] at hj
                  have := hOz.there (i1 * 5 + j) (by omega)
                  rwa [← Nat.add_assoc] at this
                case grow => intro hlt; omega
                case room =>
                  intro _
                  rw [Nat.zero_add]
                  have hlc := hOz.less_cells i1 (by omega)
                  have hsb2 := (far_cells hgbn (rowOf (eb.drop (i1 + 1))) (i1 * 5) wz).trans hbz
                  have hfz := frozen_of_row _ B13 4 _ _ hsb2
                  have hcz := (box_of hsb2).c4
                  have hgs : w6.heap.size ≤ gb := Nat.le_trans H24.out.size hgbB
                  have b1 := below_cells hgs (rowOf (eb.drop (i1 + 1))) (i1 * 5) (h25.trans (hz.mono h25.size))
                  have b2 := below_cells hgbB (rowOf (eb.drop (i1 + 1))) (i1 * 5) (h245.trans (hz.mono h245.size))
                  have k1' : ∀ i, i < wb.heap.size → i ≠ gb → (wz.setCells gb (i1 * 5) (rowOf (eb.drop (i1 + 1)))).heap[i]? = wb.heap[i]? := fun i hi hn => (far_cells hn _ _ _).trans ((hz.block i (by have := hab.size; omega)).trans (hab.block i hi))
                  generalize wz.setCells gb (i1 * 5) (rowOf (eb.drop (i1 + 1))) = ws at *
                  simp only [Act.put, List.setIfInBounds_toArray, List.set_cons_succ, List.set_cons_zero]
                  refine list_step rfl ?_
                  refine wp_val (v := .pointer (some ⟨B13, 4, none⟩)) (w' := ws) ?_ ?_
                  · go_simp
                  simp only [Act.put, List.setIfInBounds_toArray, List.set_cons_succ, List.set_cons_zero]
                  refine list_step rfl ?_
                  refine wp_do (w' := ws.setCell ⟨B13, 4, none⟩ (.slice (some ⟨gb, 0, none⟩) (i1 + m2) cb)) ?_ ?_
                  · go_simp
                  refine wpList_nil ?_
                  have hL3 := hownb.less i1 (w2 := ws.setCell ⟨B13, 4, none⟩ (.slice (some ⟨gb, 0, none⟩) (i1 + m2) cb)) (fun j u hj => (World.cell?_of_block (Below.heap_setCell ws ⟨B13, 4, none⟩ (.slice (some ⟨gb, 0, none⟩) (i1 + m2) cb) gb (Ne.symm hgbn))).trans (hlc j u hj)) (fun i hi hn => (Below.heap_setCell ws ⟨B13, 4, none⟩ (.slice (some ⟨gb, 0, none⟩) (i1 + m2) cb) i (by show i ≠ B13; omega)).trans (k1' i hi hn))
                  rw [ent_less heb i1] at hL3
                  have hB3 : Box5 (ws.setCell ⟨B13, 4, none⟩ (.slice (some ⟨gb, 0, none⟩) (i1 + m2) cb)) B13 (.int .u8 1) (.string t) (.int .i64 n) (.int .i64 a) (.slice (some ⟨gb, 0, none⟩) (i1 + m2) cb) := box_of (blk_set hsb2 4 _)
                  have hF6 : Below w6.heap.size w6 (ws.setCell ⟨B13, 4, none⟩ (.slice (some ⟨gb, 0, none⟩) (i1 + m2) cb)) := b1.setCell (by show w6.heap.size ≤ B13; have := HWB.out.size; omega) _
                  have hF24 : Below w24.heap.size w24 (ws.setCell ⟨B13, 4, none⟩ (.slice (some ⟨gb, 0, none⟩) (i1 + m2) cb)) := b2.setCell (by show w24.heap.size ≤ B13; omega) _
                  have HL3 := Lib.hid hL3; have HB3 := Lib.hid hB3; have HF6 := Lib.hid hF6
                  have HO5 := Lib.hid (HO4.out.below hF24); have HB5 := Lib.hid (HB4.out.below hF24)
                  have hm3 := less_len2 hil hm2
                  have hmc : i1 + m2 ≤ cb := by omega
                  have hml : i1 + m2 ≤ 1000000 := by omega
                  clear hL3 hB3 hF6 hF24 b1 b2 k1' hlc hsb2 hfz hcz hdl hgbn hbz hsz25 hOz hti htz hts htb had hadn hbox25 hB25 hz hab h245 h25 hownb hgbB heb hel hgw hsb hgs HLB HNB HBB HWB H24 HO4 HB4
                  generalize ws.setCell ⟨B13, 4, none⟩ (.slice (some ⟨gb, 0, none⟩) (i1 + m2) cb) = wf at *
                  generalize hm4 : i1 + m2 = m4 at *
                  have HRAB := Lib.hid (fun u (hu : Below wf.heap.size wf u) (hm : u.cell? ⟨0, 0, none⟩ = some (.int .i64 mm)) => right_any (x := .mk 1 t n a (swapL l i1 k1 hil hkl)) (p := some ⟨g, 0, none⟩) (c := ca) hm ⟨by have := (HO5.out.below hu).kidsV; rw [HESW.out] at this; exact this, by have := HO5.out.cap; show (swapL l i1 k1 hil hkl).length ≤ ca; rw [← HESW.out, List.length_map]; exact this, by show (swapL l i1 k1 hil hkl).length ≤ 1000000; rw [swap_len]; exact hll, RA6.out.text⟩)
                  rw [right_swap HRT.out] at HRAB
                  unfold nodeC at HRAB
                  simp only [Nd.kind, Nd.text, Nd.num, Nd.at_, Nd.kids, swap_len, cast1] at HRAB
                  have RL := Lib.hid (fun u (hu : Below wf.heap.size wf u) => show Ready u (some ⟨gb, 0, none⟩) cb (.mk 1 t n a (lessL l i1)) from ⟨KidsV.below hu HL3.out, by show (lessL l i1).length ≤ cb; rw [hm3]; exact hmc, by show (lessL l i1).length ≤ 1000000; rw [hm3]; exact hml, RA6.out.text⟩)
                  have HRLB := Lib.hid (fun u (hu : Below wf.heap.size wf u) (hm : u.cell? ⟨0, 0, none⟩ = some (.int .i64 mm)) => right_any hm (RL.out u hu))
                  rw [right_less HRT.out] at HRLB
                  unfold nodeC at HRLB
                  simp only [Nd.kind, Nd.text, Nd.num, Nd.at_, Nd.kids, hm3, cast1] at HRLB
                  have HSML := Lib.hid (fun u (hu : Below wf.heap.size wf u) => same_any (.mk 1 t n a l) (.mk 1 t n a (lessL l i1)) p c (some ⟨gb, 0, none⟩) cb u (RA6.out.below (HF6.out.trans (hu.mono HF6.out.size))) (RL.out u hu))
                  rw [same_less hil] at HSML
                  unfold nodeC at HSML
                  simp only [Nd.kind, Nd.text, Nd.num, Nd.at_, Nd.kids, hm3, cast1] at HSML
                  have HMF := Lib.hid (fun u (hu : Below wf.heap.size wf u) => HMM.out u (HF6.out.trans (hu.mono HF6.out.size)))
                  have HAF := Lib.hid (HA6.out.below HF6.out)
                  have HWF := Lib.hid (HW6.out.next HF6.out)
                  clear HL3 HO5 HMM HA6 HF6 HESW RL HCOPY HRA hm3 hmc hml HOKL HLNE HS6 HW6 RA6 RO6 HDD HRT HD0 HWT
                  obtain ⟨a0, a1, a2, a3, a4⟩ := HB5.out
                  go_wp2_with (first
                    | (go_at_call 8; (with_reducible refine (HRAB.out _ (Below.refl _ _) (HMF.out _ (Below.refl _ _))).mono ?_); go_must (rintro e y1 ⟨rfl, hb⟩; have HY1 := Lib.hid hb; clear hb a0 a1 a2 a3 a4; obtain ⟨b0, b1, b2, b3, b4⟩ := HB3.out.below HY1.out))
                    | (go_at_call 8; (with_reducible refine (HRLB.out _ HY1.out (HMF.out _ HY1.out)).mono ?_); go_must (rintro e y2 ⟨rfl, hb⟩; have HY2 := Lib.hid (HY1.out.trans (hb.mono HY1.out.size)); clear hb b0 b1 b2 b3 b4; obtain ⟨b0, b1, b2, b3, b4⟩ := HB3.out.below HY2.out; obtain ⟨a0, a1, a2, a3, a4⟩ := HAF.out.below HY2.out))
                    | (go_at_call 13; (with_reducible refine (HSML.out _ HY2.out).mono ?_); go_must (rintro e y3 ⟨rfl, hb⟩; have HY3 := Lib.hid (HY2.out.trans (hb.mono HY2.out.size)); clear hb)))
                  go_ret
                  exact ⟨rfl, HHH.out ▸ (HWF.out.next HY3.out).b⟩
      · go_upto_region 5 with (go_at_call 11; go_must (refine (HMA.out _ HW1.out.b).mono ?_; rintro e w2 ⟨rfl, hb⟩; clear a0 a1 a2 a3 a4; have HA2 := Lib.hid (HA1.out.below hb); obtain ⟨a0, a1, a2, a3, a4⟩ := HA2.out; have HW2 := Lib.hid (HW1.out.next hb); clear hb))
        have RA2 := Lib.hid (RA.out.below (HHH.out ▸ HW2.out.b))
        clear HMA HA HB HA1 HW1 RA
        have HCOPY := Lib.hid (fun (u : World) (hu : Below w2.heap.size w2 u) => copy_any (.mk 9 t n a l) p c u (RA2.out.below hu))
        have HPICK := Lib.hid (fun (u : World) => pick_any (x := by_) (n := 1000) (by omega) (by omega) u)
        obtain ⟨d, hd⟩ : ∃ d, by_ % ((1000 : Nat) : Int) = d := ⟨_, rfl⟩
        have HD0 := Lib.hid (show 0 ≤ d ∧ d < 1000 by omega)
        rw [hd] at HPICK; clear hd
        unfold nodeC at HCOPY
        simp only [Nd.kind, Nd.text, Nd.num, Nd.at_, Nd.kids] at HCOPY
        have HMV := Lib.hid (fun (u : World) (B : Nat) (q : Option Addr) (qc : Nat) (bk : List Nat) (hL : Lies u B (kidsD l) (.slice q l.length qc) bk) (hnd : bk.Nodup) => moved_any (.mk 9 t n a l) q qc d u B bk hL hnd (by have := RA2.out; rw [okN]; exact ⟨this.text, this.len, ok_kids this.kids⟩) HD0.out.1 (by have := HD0.out.2; have := deep_wt (.mk 9 t n a l); have := HWT.out; omega))
        unfold nodeC at HMV
        simp only [Nd.kind, Nd.text, Nd.num, Nd.at_, Nd.kids] at HMV
        go_upto_region 6 with (first
          | (go_at_call 18; go_must (refine (HCOPY.out _ (Below.refl _ _)).mono ?_; rintro e w3 ⟨p2, c2, bk, rfl, hL, hnd, hb⟩; have HL3 := Lib.hid hL; have HN3 := Lib.hid hnd; have HB3 := Lib.hid hb; clear hL hnd hb))
          | (go_at_call 19; go_must (refine (HPICK.out _).mono ?_; rintro e w4 ⟨rfl, hb⟩; have HL4 := Lib.hid (HL3.out.below hb (fun b hb => (Lies.lt HL3.out b hb).2)); have HB4 := Lib.hid (HB3.out.trans (hb.mono HB3.out.size)); clear hb))
          | (go_at_call 17; go_must (refine (HMV.out _ _ _ _ _ HL4.out HN3.out).mono ?_; rintro e w5 ⟨rfl, hL, hT⟩; have HL5 := Lib.hid hL; have HT5 := Lib.hid hT; clear hL hT)))
        have hok : okN (.mk 9 t n a l) := by have := RA2.out; rw [okN]; exact ⟨this.text, this.len, ok_kids this.kids⟩
        have h25 : Below w2.heap.size w2 w5 := HB4.out.trans (HT5.out.below HB4.out.size (fun i hi => (Lies.lt HL3.out i hi).1))
        have h26 := h25.alloc h25.size (.cells #[.int .u8 9, .string t, .int .i64 n, .int .i64 (max a 0 % 1000 + d), .slice p2 l.length c2] 25)
        have hal := (Below.refl w5.heap.size w5).alloc (Nat.le_refl _) (.cells #[.int .u8 9, .string t, .int .i64 n, .int .i64 (max a 0 % 1000 + d), .slice p2 l.length c2] 25)
        have HW6 := Lib.hid (HW2.out.next h26)
        have HA6 := Lib.hid (HA2.out.below h26)
        have HO6 := Lib.hid (Box5.new (w := w5) (v0 := .int .u8 9) (v1 := .string t) (v2 := .int .i64 n) (v3 := .int .i64 (max a 0 % 1000 + d)) (v4 := .slice p2 l.length c2) (T := 25))
        have RA6 := Lib.hid (RA2.out.below h26)
        have RO6 := Lib.hid ((moved_ready (kk := 9) (t := t) (n := n) (a := a) HL5.out hok).below hal)
        have HS6 := Lib.hid (show (w5.alloc (.cells #[.int .u8 9, .string t, .int .i64 n, .int .i64 (max a 0 % 1000 + d), .slice p2 l.length c2] 25)).heap.size = w5.heap.size + 1 by simp)
        clear hok h25 h26 hal HL3 HN3 HL4 HB3 HB4 HL5 HT5 HCOPY HPICK HMV RA2 HA2 HW2 a0 a1 a2 a3 a4
        generalize w5.alloc (.cells #[.int .u8 9, .string t, .int .i64 n, .int .i64 (max a 0 % 1000 + d), .slice p2 l.length c2] 25) = w6 at *
        generalize hO5 : w5.heap.size = O5 at *
        clear hO5
        have HSAO := Lib.hid (fun u (hu : Below w6.heap.size w6 u) => same_any (.mk 9 t n a l) (movedN d (.mk 9 t n a l)) _ _ _ _ u (RA6.out.below hu) (RO6.out.below hu))
        rw [same_moved, node_moved] at HSAO
        have HSOA := Lib.hid (fun u (hu : Below w6.heap.size w6 u) => same_any (movedN d (.mk 9 t n a l)) (.mk 9 t n a l) _ _ _ _ u (RO6.out.below hu) (RA6.out.below hu))
        rw [moved_same, node_moved] at HSOA
        have hdw : deepN (.mk 9 t n a l) ≤ 1000000000 := by have := deep_wt (.mk 9 t n a l); have := HWT.out; omega
        have HDA := Lib.hid (fun u (hu : Below w6.heap.size w6 u) => deep_any (.mk 9 t n a l) _ _ u (RA6.out.below hu) hdw)
        have HDO := Lib.hid (fun u (hu : Below w6.heap.size w6 u) => deep_any (movedN d (.mk 9 t n a l)) _ _ u (RO6.out.below hu) (by rw [deep_moved]; exact hdw))
        rw [deep_moved, node_moved] at HDO
        have HBA := Lib.hid (fun u (hu : Below w6.heap.size w6 u) => bare_node (RA6.out.below hu))
        have HBO := Lib.hid (fun u (hu : Below w6.heap.size w6 u) => bare_node (RO6.out.below hu))
        rw [node_moved] at HBO
        have HBB := Lib.hid (fun (u : World) (v v' : Value) (_ : Below w6.heap.size w6 u) (hv : IsNode u v (bareN (.mk 9 t n a l))) (hv' : IsNode u v' (bareN (movedN d (.mk 9 t n a l)))) => bare_all (bare_moved d (.mk 9 t n a l)).symm hv hv')
        generalize hdd : ((deepN (.mk 9 t n a l) : Nat) : Int) = dd at *
        have HDD := Lib.hid hdd; clear hdd
        clear hdw
        unfold nodeC at HSAO HSOA HDA HBA
        simp only [Nd.kind, Nd.text, Nd.num, Nd.at_, Nd.kids] at HSAO HSOA HDA HBA
        refine wp_region_typedE (l1 := [_, _, _, _, _, _, _, _, _, _, _, _, _, _, _, _, _, _, _, _, _, _, _, _, _]) (l2 := []) [] [34, 35, 36, 37, 38, 39, 40, 41, 42, 43, 44, 45, 46, 47, 48, 49, 50, 51, 52, 53, 54, 55, 56, 57, 58] (fun u => Below w6.heap.size w6 u) (FS [.val (.agg #[.int .u8 9, .string t, .int .i64 n, .int .i64 a, .slice p l.length c]), .val (.agg #[.int .u8 9, .string t, .int .i64 n, .int .i64 (max a 0 % 1000 + d), .slice p2 l.length c2]), .val (.bool true), .val (.bool false), .val (.bool false), .val (.agg #[.int .u8 9, .string t, .int .i64 n, .int .i64 (max a 0 % 1000 + d), .slice p2 l.length c2]), .val (.agg #[.int .u8 9, .string t, .int .i64 n, .int .i64 a, .slice p l.length c]), .val (.bool true), .val (.bool false), .val (.bool false), .val (.bool false), .val (.agg #[.int .u8 9, .string t, .int .i64 n, .int .i64 (max a 0 % 1000 + d), .slice p2 l.length c2]), .val (.int .i64 dd), .val (.agg #[.int .u8 9, .string t, .int .i64 n, .int .i64 a, .slice p l.length c]), .val (.int .i64 dd), .val (.bool false), .val (.bool false), .val (.bool false), .val (.agg #[.int .u8 9, .string t, .int .i64 n, .int .i64 a, .slice p l.length c]), .node (bareN (.mk 9 t n a l)), .val (.agg #[.int .u8 9, .string t, .int .i64 n, .int .i64 (max a 0 % 1000 + d), .slice p2 l.length c2]), .node (bareN (movedN d (.mk 9 t n a l))), .val (.bool true), .val (.bool false), .val (.bool false)] w6) (by kernel_rfl) (by kernel_rfl) (met_at (by first | rfl | kernel_rfl | decide)) (by kernel_rfl) FS.below ((Below.refl _ _).drew) ⟨?_, ?_, ?_, ?_, ?_, ?_, ?_, ?_, ?_, ?_, ?_, ?_, ?_, ?_, ?_, ?_, ?_, ?_, ?_, ?_, ?_, ?_, ?_, ?_, ?_, trivial⟩ (fun i hi => by cases hi) ?_
        · exact (sv_load rfl rfl rfl (b := H) rfl HA6.out).toA rfl
        · exact (sv_load rfl rfl rfl (b := O5) rfl HO6.out).toA rfl
        · exact (sv_call2 (f := 13) rfl (t := 34) (t' := 35) (u := (.agg #[.int .u8 9, .string t, .int .i64 n, .int .i64 a, .slice p l.length c])) (u' := (.agg #[.int .u8 9, .string t, .int .i64 n, .int .i64 (max a 0 % 1000 + d), .slice p2 l.length c2])) (.of 0 (by decide) rfl rfl) (.of 1 (by decide) rfl rfl) (fun a' w h1 h2 => by simp only [execOp]; go_simp) HSAO.out).toA rfl
        · exact (st_not (j := 2) (t := 36) (b := true) (c := false) rfl (by decide) rfl rfl rfl rfl).toA rfl
        · exact (st_movev (j := 3) rfl (by decide) rfl rfl rfl).toA rfl
        · exact (sv_load rfl rfl rfl (b := O5) rfl HO6.out).toA rfl
        · exact (sv_load rfl rfl rfl (b := H) rfl HA6.out).toA rfl
        · exact (sv_call2 (f := 13) rfl (t := 39) (t' := 40) (u := (.agg #[.int .u8 9, .string t, .int .i64 n, .int .i64 (max a 0 % 1000 + d), .slice p2 l.length c2])) (u' := (.agg #[.int .u8 9, .string t, .int .i64 n, .int .i64 a, .slice p l.length c])) (.of 5 (by decide) rfl rfl) (.of 6 (by decide) rfl rfl) (fun a' w h1 h2 => by simp only [execOp]; go_simp) HSOA.out).toA rfl
        · exact (st_not (j := 7) (t := 41) (b := true) (c := false) rfl (by decide) rfl rfl rfl rfl).toA rfl
        · exact (st_pickF (j1 := 4) (j2 := 8) (b := false) rfl (by decide) rfl rfl (by decide) rfl rfl rfl).toA rfl
        · exact (st_movev (j := 9) rfl (by decide) rfl rfl rfl).toA rfl
        · exact (sv_load rfl rfl rfl (b := O5) rfl HO6.out).toA rfl
        · exact (sv_call1 (f := 9) rfl (t := 45) (u := (.agg #[.int .u8 9, .string t, .int .i64 n, .int .i64 (max a 0 % 1000 + d), .slice p2 l.length c2])) (.of 11 (by decide) rfl rfl) (fun a' w h1 => by have e1 := eval_tmp h1; simp only [execOp]; go_simp) HDO.out).toA rfl
        · exact (sv_load rfl rfl rfl (b := H) rfl HA6.out).toA rfl
        · exact (sv_call1 (f := 9) rfl (t := 47) (u := (.agg #[.int .u8 9, .string t, .int .i64 n, .int .i64 a, .slice p l.length c])) (.of 13 (by decide) rfl rfl) (fun a' w h1 => by have e1 := eval_tmp h1; simp only [execOp]; go_simp) HDA.out).toA rfl
        · exact (sv_two rfl (t := 46) (t' := 48) (u := .int .i64 dd) (u' := .int .i64 dd) (.of 12 (by decide) rfl rfl) (.of 14 (by decide) rfl rfl) (fun a' w h1 h2 => by have e1 := eval_tmp h1; have e2 := eval_tmp h2; simp only [execOp, e1, e2]; go_simp)).toA rfl
        · exact (st_pickF (j1 := 10) (j2 := 15) (b := false) rfl (by decide) rfl rfl (by decide) rfl rfl rfl).toA rfl
        · exact (st_movev (j := 16) rfl (by decide) rfl rfl rfl).toA rfl
        · exact (sv_load rfl rfl rfl (b := H) rfl HA6.out).toA rfl
        · exact (sv_node (f := 16) rfl (t := 52) (u := (.agg #[.int .u8 9, .string t, .int .i64 n, .int .i64 a, .slice p l.length c])) (.of 18 (by decide) rfl rfl) (fun a' w h1 => by have e1 := eval_tmp h1; simp only [execOp]; go_simp) HBA.out).toA rfl
        · exact (sv_load rfl rfl rfl (b := O5) rfl HO6.out).toA rfl
        · exact (sv_node (f := 16) rfl (t := 54) (u := (.agg #[.int .u8 9, .string t, .int .i64 n, .int .i64 (max a 0 % 1000 + d), .slice p2 l.length c2])) (.of 20 (by decide) rfl rfl) (fun a' w h1 => by have e1 := eval_tmp h1; simp only [execOp]; go_simp) HBO.out).toA rfl
        · exact (sv_nn (f := 20) rfl (t := 53) (t' := 55) (.of 19 (by decide) rfl rfl) (.of 21 (by decide) rfl rfl) (fun a' w u u' h1 h2 => by simp only [execOp]; go_simp) HBB.out).toA rfl
        · exact (st_not (j := 22) (t := 56) (b := true) (c := false) rfl (by decide) rfl rfl rfl rfl).toA rfl
        · exact (st_pickF (j1 := 17) (j2 := 23) (b := false) rfl (by decide) rfl rfl (by decide) rfl rfl rfl).toA rfl
        intro vs wx hlen hx hF _
        obtain ⟨v0, v1, v2, v3, v4, v5, v6, v7, v8, v9, v10, v11, v12, v13, v14, v15, v16, v17, v18, v19, v20, v21, v22, v23, v24, rfl⟩ := list25 hlen
        obtain rfl : v0 = _ := FS.of (hF 0 v0 rfl) rfl
        obtain rfl : v1 = _ := FS.of (hF 1 v1 rfl) rfl
        obtain rfl : v2 = _ := FS.of (hF 2 v2 rfl) rfl
        obtain rfl : v3 = _ := FS.of (hF 3 v3 rfl) rfl
        obtain rfl : v4 = _ := FS.of (hF 4 v4 rfl) rfl
        obtain rfl : v5 = _ := FS.of (hF 5 v5 rfl) rfl
        obtain rfl : v6 = _ := FS.of (hF 6 v6 rfl) rfl
        obtain rfl : v7 = _ := FS.of (hF 7 v7 rfl) rfl
        obtain rfl : v8 = _ := FS.of (hF 8 v8 rfl) rfl
        obtain rfl : v9 = _ := FS.of (hF 9 v9 rfl) rfl
        obtain rfl : v10 = _ := FS.of (hF 10 v10 rfl) rfl
        obtain rfl : v11 = _ := FS.of (hF 11 v11 rfl) rfl
        obtain rfl : v12 = _ := FS.of (hF 12 v12 rfl) rfl
        obtain rfl : v13 = _ := FS.of (hF 13 v13 rfl) rfl
        obtain rfl : v14 = _ := FS.of (hF 14 v14 rfl) rfl
        obtain rfl : v15 = _ := FS.of (hF 15 v15 rfl) rfl
        obtain rfl : v16 = _ := FS.of (hF 16 v16 rfl) rfl
        obtain rfl : v17 = _ := FS.of (hF 17 v17 rfl) rfl
        obtain rfl : v18 = _ := FS.of (hF 18 v18 rfl) rfl
        obtain rfl : v20 = _ := FS.of (hF 20 v20 rfl) rfl
        obtain rfl : v22 = _ := FS.of (hF 22 v22 rfl) rfl
        obtain rfl : v23 = _ := FS.of (hF 23 v23 rfl) rfl
        obtain rfl : v24 = _ := FS.of (hF 24 v24 rfl) rfl
        have HX0 := Lib.hid hx
        clear hF hlen hx
        show wpList _ _ _ _ (putAll _ [(34, _), (35, _), (36, _), (37, _), (38, _), (39, _), (40, _), (41, _), (42, _), (43, _), (44, _), (45, _), (46, _), (47, _), (48, _), (49, _), (50, _), (51, _), (52, _), (53, _), (54, _), (55, _), (56, _), (57, _), (58, _)]) _
        simp only [putAll, Act.put, List.setIfInBounds_toArray, List.set_cons_succ, List.set_cons_zero]
        refine wpList_nil ?_
        go_upto_region 8 with fail
        clear HSAO HSOA HDO HBO HBB
        have HRA := Lib.hid (fun u (hu : Below w6.heap.size w6 u) (hm : u.cell? ⟨0, 0, none⟩ = some (.int .i64 mm)) => right_any hm (RA6.out.below hu))
        have HMM := Lib.hid (fun u (hu : Below w6.heap.size w6 u) => cell_on (show Below w.heap.size w u from HHH.out ▸ (HW6.out.next hu).b) HM.out)
        unfold nodeC at HRA
        simp only [Nd.kind, Nd.text, Nd.num, Nd.at_, Nd.kids, cast9] at HRA
        obtain ⟨a0, a1, a2, a3, a4⟩ := HA6.out.below HX0.out
        cases hr : rightN (.mk 9 t n a l) with
        | false =>
          rw [hr] at HRA
          clear hr
          go_wp2_with (go_at_call 8; go_must (refine (HRA.out _ HX0.out (HMM.out _ HX0.out)).mono ?_; rintro e w7 ⟨rfl, hb⟩; have HX1 := Lib.hid (HX0.out.trans (hb.mono HX0.out.size)); clear hb))
          go_ret
          exact ⟨rfl, HHH.out ▸ (HW6.out.next HX1.out).b⟩
        | true =>
          rw [hr] at HRA
          have HRT := Lib.hid hr; clear hr
          have HRO := Lib.hid (fun u (hu : Below w6.heap.size w6 u) (hm : u.cell? ⟨0, 0, none⟩ = some (.int .i64 mm)) => right_any hm (RO6.out.below hu))
          rw [right_moved HD0.out.1 HRT.out, node_moved, cast9] at HRO
          have HRB := Lib.hid (fun (u : World) (p3 : Option Addr) (c3 : Nat) (hr : Ready u p3 c3 (bareN (.mk 9 t n a l))) (hm : u.cell? ⟨0, 0, none⟩ = some (.int .i64 mm)) => right_any hm hr)
          rw [right_bare HRT.out] at HRB
          have hdd : dd ≤ 60 := by have := right_deep HRT.out; have := HDD.out; omega
          go_upto_region 12 with (first
            | (go_at_call 8; (with_reducible refine (HRA.out _ HX0.out (HMM.out _ HX0.out)).mono ?_); go_must (rintro e w7 ⟨rfl, hb⟩; have HX1 := Lib.hid (HX0.out.trans (hb.mono HX0.out.size)); clear hb a0 a1 a2 a3 a4; obtain ⟨o0, o1, o2, o3, o4⟩ := HO6.out.below HX1.out))
            | (go_at_call 8; (with_reducible refine (HRO.out _ HX1.out (HMM.out _ HX1.out)).mono ?_); go_must (rintro e w8 ⟨rfl, hb⟩; have HX2 := Lib.hid (HX1.out.trans (hb.mono HX1.out.size)); clear hb o0 o1 o2 o3 o4; obtain ⟨a0, a1, a2, a3, a4⟩ := HA6.out.below HX2.out))
            | (go_at_call 16; go_must (refine (HBA.out _ HX2.out).mono ?_; rintro e w9 ⟨v, rfl, ⟨p3, c3, rfl, hr3⟩, hb⟩; have HX3 := Lib.hid (HX2.out.trans (hb.mono HX2.out.size)); have HR3 := Lib.hid hr3; clear hr3 hb a0 a1 a2 a3 a4))
            | (go_at_call 8; (with_reducible refine (HRB.out _ _ _ HR3.out (HMM.out _ HX3.out)).mono ?_); go_must (rintro e w10 ⟨rfl, hb⟩; have HX4 := Lib.hid (HX3.out.trans (hb.mono HX3.out.size)); clear hb; obtain ⟨a0, a1, a2, a3, a4⟩ := HA6.out.below HX4.out))
            | (go_at_call 9; go_must (refine (HDA.out _ HX4.out).mono ?_; rintro e w11 ⟨rfl, hb⟩; have HX5 := Lib.hid (HX4.out.trans (hb.mono HX4.out.size)); clear hb a0 a1 a2 a3 a4)))
          clear HRO HRB HDA HBA HO6 HR3 HX0 HX1 HX2 HX3 HX4 hdd
          obtain ⟨a0, a1, a2, a3, a4⟩ := HA6.out.below HX5.out
          go_wp2_with fail
          clear a0 a1 a2 a3 a4
          go_loopg [10, 11] l.length (fun gk i _ wr => ∃ q : Nat, q ≤ l.length ∧ gk = l.length - q ∧ i = .int .i64 (q : Int) ∧ Below w6.heap.size w6 wr)
          case atStart => exact ⟨0, by omega, by omega, rfl, HX5.out⟩
          case round =>
            obtain ⟨q, hq, rfl, rfl, hbw⟩ := hrel
            have HBW := Lib.hid hbw; clear hbw HX5
            obtain ⟨a0, a1, a2, a3, a4⟩ := HA6.out.below HBW.out
            by_cases hlt : q < l.length
            · obtain ⟨g, o, hp, hk1⟩ := kids_one RA6.out.kids q hlt
              subst hp
              have hcap : l.length ≤ c := RA6.out.cap
              have hll : l.length ≤ 1000000 := RA6.out.len
              have HONE := Lib.hid (fun u (hu : Below w6.heap.size w6 u) (hm : u.cell? ⟨0, 0, none⟩ = some (.int .i64 mm)) => right_any (x := .mk 9 t n a [l[q]]) (p := some ⟨g, o + q * 5, none⟩) (c := c - q) hm ⟨KidsV.below hu hk1, by show 1 ≤ c - q; omega, by show 1 ≤ 1000000; omega, RA6.out.text⟩)
              rw [right_one HRT.out q hlt] at HONE
              unfold nodeC at HONE
              simp only [Nd.kind, Nd.text, Nd.num, Nd.at_, Nd.kids, List.length_cons, List.length_nil, Nat.zero_add, cast9] at HONE
              have j0 : (0 : Int) ≤ (q : Int) := by omega
              have j1 : (q : Int) < (l.length : Int) := by omega
              have j2 : (q : Int) + 1 ≤ (c : Int) := by omega
              have j3 : -9223372036854775808 ≤ (q : Int) + 1 ∧ (q : Int) + 1 ≤ 9223372036854775807 := by omega
              have hsw : w6.heap.size ≤ wr.heap.size := HBW.out.size
              clear hk1
              have hHl : H < wr.heap.size := World.block_lt_of_cell? _ _ a4
              go_upto_region 17 with fail
              have hw17 := HBW.out.alloc hsw (.cells #[.int .u8 9, .string t, .int .i64 n, .int .i64 a, .slice (some ⟨g, o + q * 5, none⟩) 1 (c - q)] 25)
              have HW17 := Lib.hid hw17; clear hw17
              obtain ⟨z0, z1, z2, z3, z4⟩ := Box5.new (w := wr) (v0 := .int .u8 9) (v1 := .string t) (v2 := .int .i64 n) (v3 := .int .i64 a) (v4 := .slice (some ⟨g, o + q * 5, none⟩) 1 (c - q)) (T := 25)
              clear a0 a1 a2 a3 a4
              generalize wr.alloc (.cells #[.int .u8 9, .string t, .int .i64 n, .int .i64 a, .slice (some ⟨g, o + q * 5, none⟩) 1 (c - q)] 25) = w17 at *
              generalize wr.heap.size = B11 at *
              go_wp2_with (go_at_call 8; go_must (refine (HONE.out _ HW17.out (HMM.out _ HW17.out)).mono ?_; rintro e w18 ⟨rfl, hb⟩; have HW18 := Lib.hid (HW17.out.trans (hb.mono HW17.out.size)); clear hb))
              go_roundg (l.length - (q + 1))
              case measure => omega
              case rel =>
                have hwk : wrap64 ((q : Int) + 1) = ((q + 1 : Nat) : Int) := (IntWalk.wrap64_in ((q : Int) + 1) j3).trans (by omega)
                exact ⟨q + 1, hlt, rfl, by first | exact congrArg (Value.int .i64) hwk | go_num, HW18.out⟩
            · obtain rfl : q = l.length := by omega
              by_cases h0 : l.length = 0
              · have h0' : (l.length : Int) = 0 := by omega
                go_wp2_with fail
                go_ret
                exact ⟨rfl, HHH.out ▸ (HW6.out.next HBW.out).b⟩
              · have h0' : (l.length : Int) ≠ 0 := by omega
                have hll : l.length ≤ 1000000 := RA6.out.len
                have HPI := Lib.hid (fun (u : World) => pick_any (x := i) (n := l.length) (by omega) (by omega) u)
                have HPK := Lib.hid (fun (u : World) => pick_any (x := k) (n := l.length) (by omega) (by omega) u)
                obtain ⟨i1, hi1⟩ : ∃ i1 : Nat, i % (l.length : Int) = (i1 : Int) := ⟨(i % (l.length : Int)).toNat, by have := Int.emod_nonneg i h0'; omega⟩
                obtain ⟨k1, hk1⟩ : ∃ k1 : Nat, k % (l.length : Int) = (k1 : Int) := ⟨(k % (l.length : Int)).toNat, by have := Int.emod_nonneg k h0'; omega⟩
                have hil : i1 < l.length := by have := Int.emod_lt_of_pos i (show (0 : Int) < (l.length : Int) by omega); omega
                have hkl : k1 < l.length := by have := Int.emod_lt_of_pos k (show (0 : Int) < (l.length : Int) by omega); omega
                rw [hi1] at HPI; rw [hk1] at HPK
                clear hi1 hk1
                go_upto_region 21 with fail
                refine wp_region_typedE (l1 := [_, _, _, _, _, _, _, _, _, _]) (l2 := [_, _]) [] [98, 99, 100, 101, 102, 103, 104, 105, 106, 107] (fun u => Below wr.heap.size wr u) (FS [.val (.int .i64 i), .val (.pointer (some ⟨H, 4, none⟩)), .val (.slice p l.length c), .val (.int .i64 (l.length : Int)), .val (.int .i64 (i1 : Int)), .val (.int .i64 k), .val (.pointer (some ⟨H, 4, none⟩)), .val (.slice p l.length c), .val (.int .i64 (l.length : Int)), .val (.int .i64 (k1 : Int))] wr) (by kernel_rfl) (by kernel_rfl) (no_guards (by kernel_rfl)) (by kernel_rfl) FS.below ((Below.refl _ _).drew) ⟨?_, ?_, ?_, ?_, ?_, ?_, ?_, ?_, ?_, ?_, trivial⟩ (fun i hi => by cases hi) ?_
                · exact (sv_out rfl (t := 1) (u := .int .i64 i) rfl rfl (fun a' w h1 => by have e1 := eval_tmp h1; simp only [execOp, e1]; go_simp)).toA rfl
                · exact (sv_out rfl (t := 4) (u := .pointer (some ⟨H, 0, none⟩)) rfl rfl (fun a' w h1 => by have e1 := eval_tmp h1; simp only [execOp, e1]; go_simp)).toA rfl
                · exact (sv_cell rfl (t := 99) (q := ⟨H, 4, none⟩) (.of 1 (by decide) rfl rfl) a4 (fun a' w h1 hc => by have e1 := eval_tmp h1; simp only [execOp, e1]; go_simp)).toA rfl
                · exact (sv_one rfl (t := 100) (u := (.slice p l.length c)) (.of 2 (by decide) rfl rfl) (fun a' w h1 => by have e1 := eval_tmp h1; simp only [execOp, e1]; go_simp)).toA rfl
                · exact (sv_call2 (f := 19) rfl (t := 98) (t' := 101) (u := .int .i64 i) (u' := .int .i64 (l.length : Int)) (.of 0 (by decide) rfl rfl) (.of 3 (by decide) rfl rfl) (fun a' w h1 h2 => by have e1 := eval_tmp h1; have e2 := eval_tmp h2; simp only [execOp]; go_simp) (fun u _ => HPI.out u)).toA rfl
                · exact (sv_out rfl (t := 2) (u := .int .i64 k) rfl rfl (fun a' w h1 => by have e1 := eval_tmp h1; simp only [execOp, e1]; go_simp)).toA rfl
                · exact (sv_out rfl (t := 4) (u := .pointer (some ⟨H, 0, none⟩)) rfl rfl (fun a' w h1 => by have e1 := eval_tmp h1; simp only [execOp, e1]; go_simp)).toA rfl
                · exact (sv_cell rfl (t := 104) (q := ⟨H, 4, none⟩) (.of 6 (by decide) rfl rfl) a4 (fun a' w h1 hc => by have e1 := eval_tmp h1; simp only [execOp, e1]; go_simp)).toA rfl
                · exact (sv_one rfl (t := 105) (u := (.slice p l.length c)) (.of 7 (by decide) rfl rfl) (fun a' w h1 => by have e1 := eval_tmp h1; simp only [execOp, e1]; go_simp)).toA rfl
                · exact (sv_call2 (f := 19) rfl (t := 103) (t' := 106) (u := .int .i64 k) (u' := .int .i64 (l.length : Int)) (.of 5 (by decide) rfl rfl) (.of 8 (by decide) rfl rfl) (fun a' w h1 h2 => by have e1 := eval_tmp h1; have e2 := eval_tmp h2; simp only [execOp]; go_simp) (fun u _ => HPK.out u)).toA rfl
                intro vs wy hlen hy hF _
                obtain ⟨v0, v1, v2, v3, v4, v5, v6, v7, v8, v9, rfl⟩ := list10 hlen
                obtain rfl : v0 = _ := FS.of (hF 0 v0 rfl) rfl
                obtain rfl : v1 = _ := FS.of (hF 1 v1 rfl) rfl
                obtain rfl : v2 = _ := FS.of (hF 2 v2 rfl) rfl
                obtain rfl : v3 = _ := FS.of (hF 3 v3 rfl) rfl
                obtain rfl : v4 = _ := FS.of (hF 4 v4 rfl) rfl
                obtain rfl : v5 = _ := FS.of (hF 5 v5 rfl) rfl
                obtain rfl : v6 = _ := FS.of (hF 6 v6 rfl) rfl
                obtain rfl : v7 = _ := FS.of (hF 7 v7 rfl) rfl
                obtain rfl : v8 = _ := FS.of (hF 8 v8 rfl) rfl
                obtain rfl : v9 = _ := FS.of (hF 9 v9 rfl) rfl
                have HWY := Lib.hid (HBW.out.trans (hy.mono HBW.out.size))
                clear hF hlen hy a0 a1 a2 a3 a4 HPI HPK HBW
                show wpList _ _ _ _ (putAll _ [(98, _), (99, _), (100, _), (101, _), (102, _), (103, _), (104, _), (105, _), (106, _), (107, _)]) _
                simp only [putAll, Act.put, List.setIfInBounds_toArray, List.set_cons_succ, List.set_cons_zero]
                go_upto_region 22 with fail
                have hok : okN (.mk 9 t n a l) := by have := RA6.out; rw [okN]; exact ⟨this.text, this.len, ok_kids this.kids⟩
                have HOKL := Lib.hid (show okL l by rw [okN] at hok; exact hok.2.2)
                clear hok
                have hlne : l ≠ [] := fun e => by rw [e] at h0; exact h0 rfl
                have HLNE := Lib.hid hlne; clear hlne
                have HCOPY := Lib.hid (fun (u : World) (hu : Below w6.heap.size w6 u) => copy_any (.mk 9 t n a l) p c u (RA6.out.below hu))
                unfold nodeC at HCOPY
                simp only [Nd.kind, Nd.text, Nd.num, Nd.at_, Nd.kids, cast9] at HCOPY
                obtain ⟨a0, a1, a2, a3, a4⟩ := HA6.out.below HWY.out
                go_upto_region 23 with (go_at_call 18; go_must (refine (HCOPY.out _ HWY.out).mono ?_; rintro e wa ⟨pa, ca, bka, rfl, hL, hnd, hb⟩; have HLA := Lib.hid hL; have HNA := Lib.hid hnd; have HWA := Lib.hid (HWY.out.trans (hb.mono HWY.out.size)); clear hL hnd hb a0 a1 a2 a3 a4))
                obtain ⟨g, cap, es, he, hes, hgB, hown⟩ := own_of HLA.out HNA.out HOKL.out hll HLNE.out
                simp only [Value.slice.injEq] at he
                obtain ⟨rfl, _, rfl⟩ := he
                have hel : es.length = l.length := by rw [← hes]; simp
                have hgs : w6.heap.size ≤ g := Nat.le_trans HWY.out.size hgB
                have h23 := HWA.out.alloc HWA.out.size (.cells #[.int .u8 9, .string t, .int .i64 n, .int .i64 a, .slice (some ⟨g, 0, none⟩) l.length ca] 25)
                have hO23 := hown.below ((Below.refl wa.heap.size wa).alloc (Nat.le_refl _) (.cells #[.int .u8 9, .string t, .int .i64 n, .int .i64 a, .slice (some ⟨g, 0, none⟩) l.length ca] 25))
                have hB23 := Box5.new (w := wa) (v0 := .int .u8 9) (v1 := .string t) (v2 := .int .i64 n) (v3 := .int .i64 a) (v4 := .slice (some ⟨g, 0, none⟩) l.length ca) (T := 25)
                have hgw : g < wa.heap.size := hown.lt
                have hsz23 : (wa.alloc (.cells #[.int .u8 9, .string t, .int .i64 n, .int .i64 a, .slice (some ⟨g, 0, none⟩) l.length ca] 25)).heap.size = wa.heap.size + 1 := by simp
                clear hown hgB
                generalize wa.alloc (.cells #[.int .u8 9, .string t, .int .i64 n, .int .i64 a, .slice (some ⟨g, 0, none⟩) l.length ca] 25) = w23 at *
                generalize hB12 : wa.heap.size = B12 at *
                clear hB12
                have hiE : i1 < es.length := by omega
                have hkE : k1 < es.length := by omega
                obtain ⟨ei, hei⟩ : ∃ e, es[i1] = e := ⟨_, rfl⟩
                obtain ⟨ek, hek⟩ : ∃ e, es[k1] = e := ⟨_, rfl⟩
                have hOd := hO23.below (w' := w23.drew) (Below.refl _ _).drew
                have rI := hOd.one i1 hiE; rw [hei] at rI
                have rK := hOd.one k1 hkE; rw [hek] at rK
                have tI := hOd.at_ i1 hiE
                have hO3 := hOd.swap i1 k1 hiE hkE
                rw [hei, hek] at hO3
                have hesw := ent_swap hes i1 k1 hiE hkE hil hkl
                rw [hei, hek] at hesw
                have c12 : w23.drew.cell? ⟨B12, 4, none⟩ = some (.slice (some ⟨g, 0, none⟩) l.length ca) := by exact hB23.c4
                have hgn : g ≠ B12 := by omega
                have c12' : (w23.drew.setCells g (i1 * 5) (five ek)).cell? ⟨B12, 4, none⟩ = some (.slice (some ⟨g, 0, none⟩) l.length ca) := (World.cell?_of_block (far_cells (Ne.symm hgn) _ _ _)).trans c12
                have j0 : (0 : Int) ≤ (i1 : Int) := by omega
                have j1 : (i1 : Int) < (l.length : Int) := by omega
                have j2 : (0 : Int) ≤ (k1 : Int) := by omega
                have j3 : (k1 : Int) < (l.length : Int) := by omega
                refine wp_region_store (l1 := [_, _, _, _, _, _, _, _, _, _, _, _, _, _, _, _, _, _]) (l2 := [_, _]) [some (110, (.pointer (some ⟨B12, 4, none⟩))), some (111, (.slice (some ⟨g, 0, none⟩) l.length ca)), some (112, (.int .i64 (i1 : Int))), some (113, (.pointer (some ⟨B12, 4, none⟩))), some (114, (.slice (some ⟨g, 0, none⟩) l.length ca)), some (115, (.int .i64 (k1 : Int))), some (116, (.pointer (some ⟨B12, 4, none⟩))), some (117, (.slice (some ⟨g, 0, none⟩) l.length ca)), some (118, (.int .i64 (k1 : Int))), some (119, (.pointer (some ⟨g, k1 * 5, none⟩))), some (120, (.agg #[.int .u8 (ek.1.kind : Int), .string ek.1.text, .int .i64 ek.1.num, .int .i64 ek.1.at_, .slice ek.2.1 ek.1.kids.length ek.2.2])), some (121, (.pointer (some ⟨B12, 4, none⟩))), some (122, (.slice (some ⟨g, 0, none⟩) l.length ca)), some (123, (.int .i64 (i1 : Int))), some (124, (.pointer (some ⟨g, i1 * 5, none⟩))), some (125, (.agg #[.int .u8 (ei.1.kind : Int), .string ei.1.text, .int .i64 ei.1.num, .int .i64 ei.1.at_, .slice ei.2.1 ei.1.kids.length ei.2.2])), some (126, (.pointer (some ⟨g, i1 * 5, none⟩))), none] [110, 111, 112, 113, 114, 115, 116, 117, 118, 119, 120, 121, 122, 123, 124, 125, 126] 17 _ (fun u => u = w23.drew) (fun u => u = w23.drew.setCells g (i1 * 5) (five ek)) (by kernel_rfl) rfl (by kernel_rfl) rfl (by kernel_rfl) (by kernel_rfl) rfl ⟨?_, ?_, ?_, ?_, ?_, ?_, ?_, ?_, ?_, ?_, ?_, ?_, ?_, ?_, ?_, ?_, ?_, ?_, trivial⟩ ?_ ?_
                · exact ReadR.of rfl fun a' u hS hfr hh => by have e1 := eval_tmp (show a'.tmps[12]? = some (.pointer (some ⟨B12, 0, none⟩)) from (hfr 12 (by decide)).trans rfl); simp only [execOp, e1]; go_simp
                · exact ReadR.of rfl fun a' u hS hfr hh => by have e1 := eval_tmp (hh.at (j := 0) (by decide) rfl); have hc : u.cell? ⟨B12, 4, none⟩ = some (.slice (some ⟨g, 0, none⟩) l.length ca) := hS.elim (fun e => e ▸ c12) (fun e => e.2 ▸ c12'); simp only [execOp, e1]; go_simp
                · exact ReadR.of rfl fun a' u hS hfr hh => by have e1 := eval_tmp (show a'.tmps[1]? = some (.int .i64 (i1 : Int)) from (hfr 1 (by decide)).trans rfl); simp only [execOp, e1]; go_simp
                · exact ReadR.of rfl fun a' u hS hfr hh => by have e1 := eval_tmp (show a'.tmps[12]? = some (.pointer (some ⟨B12, 0, none⟩)) from (hfr 12 (by decide)).trans rfl); simp only [execOp, e1]; go_simp
                · exact ReadR.of rfl fun a' u hS hfr hh => by have e1 := eval_tmp (hh.at (j := 3) (by decide) rfl); have hc : u.cell? ⟨B12, 4, none⟩ = some (.slice (some ⟨g, 0, none⟩) l.length ca) := hS.elim (fun e => e ▸ c12) (fun e => e.2 ▸ c12'); simp only [execOp, e1]; go_simp
                · exact ReadR.of rfl fun a' u hS hfr hh => by have e1 := eval_tmp (show a'.tmps[2]? = some (.int .i64 (k1 : Int)) from (hfr 2 (by decide)).trans rfl); simp only [execOp, e1]; go_simp
                · exact ReadR.of rfl fun a' u hS hfr hh => by have e1 := eval_tmp (show a'.tmps[12]? = some (.pointer (some ⟨B12, 0, none⟩)) from (hfr 12 (by decide)).trans rfl); simp only [execOp, e1]; go_simp
                · exact ReadR.of rfl fun a' u hS hfr hh => by have e1 := eval_tmp (hh.at (j := 6) (by decide) rfl); have hc : u.cell? ⟨B12, 4, none⟩ = some (.slice (some ⟨g, 0, none⟩) l.length ca) := hS.elim (fun e => e ▸ c12) (fun e => e.2 ▸ c12'); simp only [execOp, e1]; go_simp
                · exact ReadR.of rfl fun a' u hS hfr hh => by have e1 := eval_tmp (show a'.tmps[2]? = some (.int .i64 (k1 : Int)) from (hfr 2 (by decide)).trans rfl); simp only [execOp, e1]; go_simp
                · exact ReadR.of rfl fun a' u hS hfr hh => by have e1 := eval_tmp (hh.at (j := 7) (by decide) rfl); have e2 := eval_tmp (hh.at (j := 8) (by decide) rfl); simp only [execOp, e1, e2]; go_simp
                · exact ReadR.of rfl fun a' u hS hfr hh => by have e1 := eval_tmp (hh.at (j := 9) (by decide) rfl); have hu : u = w23.drew := hS.elim id (fun e => absurd e.1 (by decide)); subst hu; have c0 := rK 0 _ rfl; have c1 := rK 1 _ rfl; have c2 := rK 2 _ rfl; have c3 := rK 3 _ rfl; have c4 := rK 4 _ rfl; simp only [Nat.add_zero] at c0; simp only [execOp, e1]; go_simp
                · exact ReadR.of rfl fun a' u hS hfr hh => by have e1 := eval_tmp (show a'.tmps[12]? = some (.pointer (some ⟨B12, 0, none⟩)) from (hfr 12 (by decide)).trans rfl); simp only [execOp, e1]; go_simp
                · exact ReadR.of rfl fun a' u hS hfr hh => by have e1 := eval_tmp (hh.at (j := 11) (by decide) rfl); have hc : u.cell? ⟨B12, 4, none⟩ = some (.slice (some ⟨g, 0, none⟩) l.length ca) := hS.elim (fun e => e ▸ c12) (fun e => e.2 ▸ c12'); simp only [execOp, e1]; go_simp
                · exact ReadR.of rfl fun a' u hS hfr hh => by have e1 := eval_tmp (show a'.tmps[1]? = some (.int .i64 (i1 : Int)) from (hfr 1 (by decide)).trans rfl); simp only [execOp, e1]; go_simp
                · exact ReadR.of rfl fun a' u hS hfr hh => by have e1 := eval_tmp (hh.at (j := 12) (by decide) rfl); have e2 := eval_tmp (hh.at (j := 13) (by decide) rfl); simp only [execOp, e1, e2]; go_simp
                · exact ReadR.of rfl fun a' u hS hfr hh => by have e1 := eval_tmp (hh.at (j := 14) (by decide) rfl); have hu : u = w23.drew := hS.elim id (fun e => absurd e.1 (by decide)); subst hu; have c0 := rI 0 _ rfl; have c1 := rI 1 _ rfl; have c2 := rI 2 _ rfl; have c3 := rI 3 _ rfl; have c4 := rI 4 _ rfl; simp only [Nat.add_zero] at c0; simp only [execOp, e1]; go_simp
                · exact ReadR.of rfl fun a' u hS hfr hh => by have e1 := eval_tmp (hh.at (j := 1) (by decide) rfl); have e2 := eval_tmp (hh.at (j := 2) (by decide) rfl); simp only [execOp, e1, e2]; go_simp
                · intro d' v' hv'; cases hv'
                · rintro a' u rfl hfr hh
                  have e1 := eval_tmp (hh.at (j := 16) (by decide) rfl)
                  have e2 := eval_tmp (hh.at (j := 10) (by decide) rfl)
                  exact ⟨_, exec_store_mid 25 (.tmp 126) (.tmp 120) rfl g (i1 * 5) #[.int .u8 (ek.1.kind : Int), .string ek.1.text, .int .i64 ek.1.num, .int .i64 ek.1.at_, .slice ek.2.1 ek.1.kids.length ek.2.2] e1 e2 tI (by kernel_rfl) (by simp [Value.oneCell']), rfl⟩
                intro u hu
                subst hu
                show wpList _ _ _ _ (putAll _ [(110, _), (111, _), (112, _), (113, _), (114, _), (115, _), (116, _), (117, _), (118, _), (119, _), (120, _), (121, _), (122, _), (123, _), (124, _), (125, _), (126, _)]) _
                simp only [putAll, Act.put, List.setIfInBounds_toArray, List.set_cons_succ, List.set_cons_zero]
                refine list_step rfl ?_
                refine wp_val (v := (.pointer (some ⟨g, k1 * 5, none⟩))) (w' := w23.drew.setCells g (i1 * 5) (five ek)) ?_ ?_
                · go_simp
                simp only [Act.put, List.setIfInBounds_toArray, List.set_cons_succ, List.set_cons_zero]
                refine wpList_store_mid rfl 25 (.tmp 127) (.tmp 125) rfl g (k1 * 5) #[.int .u8 (ei.1.kind : Int), .string ei.1.text, .int .i64 ei.1.num, .int .i64 ei.1.at_, .slice ei.2.1 ei.1.kids.length ei.2.2] rfl rfl (World.there_setCells (hOd.at_ k1 hkE) g (i1 * 5) (five ek)) (by kernel_rfl) (by simp [Value.oneCell']) ?_
                refine wpList_nil ?_
                simp only [Act.put, List.setIfInBounds_toArray, List.set_cons_succ, List.set_cons_zero]
                have h24 : Below w6.heap.size w6 ((w23.drew.setCells g (i1 * 5) (five ek)).setCells g (k1 * 5) (#[.int .u8 (ei.1.kind : Int), .string ei.1.text, .int .i64 ei.1.num, .int .i64 ei.1.at_, .slice ei.2.1 ei.1.kids.length ei.2.2] : Array Value).toList) := below_cells hgs _ _ (below_cells hgs _ _ h23.drew)
                have hO4 : OwnRow ((w23.drew.setCells g (i1 * 5) (five ek)).setCells g (k1 * 5) (#[.int .u8 (ei.1.kind : Int), .string ei.1.text, .int .i64 ei.1.num, .int .i64 ei.1.at_, .slice ei.2.1 ei.1.kids.length ei.2.2] : Array Value).toList) g ca ((es.set i1 ek).set k1 ei) := hO3
                have hB4 : Box5 ((w23.drew.setCells g (i1 * 5) (five ek)).setCells g (k1 * 5) (#[.int .u8 (ei.1.kind : Int), .string ei.1.text, .int .i64 ei.1.num, .int .i64 ei.1.at_, .slice ei.2.1 ei.1.kids.length ei.2.2] : Array Value).toList) B12 (.int .u8 9) (.string t) (.int .i64 n) (.int .i64 a) (.slice (some ⟨g, 0, none⟩) l.length ca) := box_same hB23 ((far_cells (Ne.symm hgn) _ _ _).trans ((far_cells (Ne.symm hgn) _ _ _).trans rfl))
                have HO4 := Lib.hid hO4; have HB4 := Lib.hid hB4; have H24 := Lib.hid h24; have HESW := Lib.hid hesw
                clear hO4 hB4 h24 hesw hO3 hOd hO23 hB23 h23 rI rK tI c12 c12' HLA HNA HWA HWY hgs hgw hsz23 hes hel hei hek hiE hkE
                generalize (w23.drew.setCells g (i1 * 5) (five ek)).setCells g (k1 * 5) (#[.int .u8 (ei.1.kind : Int), .string ei.1.text, .int .i64 ei.1.num, .int .i64 ei.1.at_, .slice ei.2.1 ei.1.kids.length ei.2.2] : Array Value).toList = w24 at *
                obtain ⟨a0, a1, a2, a3, a4⟩ := HA6.out.below H24.out
                go_upto_region 25 with (go_at_call 18; go_must (refine (HCOPY.out _ H24.out).mono ?_; rintro e wb ⟨pb, cb, bkb, rfl, hL, hnd, hb⟩; have HLB := Lib.hid hL; have HNB := Lib.hid hnd; have HBB := Lib.hid hb; have HWB := Lib.hid (H24.out.trans (hb.mono H24.out.size)); clear hL hnd hb a0 a1 a2 a3 a4))
                obtain ⟨gb, capb, eb, he, heb, hgbB, hownb⟩ := own_of HLB.out HNB.out HOKL.out hll HLNE.out
                simp only [Value.slice.injEq] at he
                obtain ⟨rfl, _, rfl⟩ := he
                have hel : eb.length = l.length := by rw [← heb]; simp
                have h25 : Below w6.heap.size w6 (wb.alloc (.cells #[.int .u8 9, .string t, .int .i64 n, .int .i64 a, .slice (some ⟨gb, 0, none⟩) l.length cb] 25)) := HWB.out.alloc HWB.out.size _
                have h245 : Below w24.heap.size w24 (wb.alloc (.cells #[.int .u8 9, .string t, .int .i64 n, .int .i64 a, .slice (some ⟨gb, 0, none⟩) l.length cb] 25)) := HBB.out.alloc HBB.out.size _
                have hab : Below wb.heap.size wb (wb.alloc (.cells #[.int .u8 9, .string t, .int .i64 n, .int .i64 a, .slice (some ⟨gb, 0, none⟩) l.length cb] 25)) := (Below.refl wb.heap.size wb).alloc (Nat.le_refl _) _
                have hB25 := heap_alloc_new wb (.cells #[.int .u8 9, .string t, .int .i64 n, .int .i64 a, .slice (some ⟨gb, 0, none⟩) l.length cb] 25)
                have hgw : gb < wb.heap.size := hownb.lt
                have hsb : w24.heap.size ≤ wb.heap.size := HBB.out.size
                generalize wb.alloc (.cells #[.int .u8 9, .string t, .int .i64 n, .int .i64 a, .slice (some ⟨gb, 0, none⟩) l.length cb] 25) = w25 at *
                obtain ⟨B13, hB13⟩ : ∃ b, wb.heap.size = b := ⟨_, rfl⟩
                simp only [hB13] at hB25 ⊢
                have hbox25 := box_of hB25
                obtain ⟨ad, had, hadn⟩ := slice_tail gb l.length cb i1 hil (by have := hownb.cap; omega)
                obtain ⟨m2, hm2⟩ : ∃ m, l.length - (i1 + 1) = m := ⟨_, rfl⟩
                rw [hm2] at had
                have hcapb : l.length ≤ cb := by have := hownb.cap; omega
                have j4 : (i1 : Int) ≤ (cb : Int) := by omega
                have j5 : -9223372036854775808 ≤ (i1 : Int) + 1 ∧ (i1 : Int) + 1 ≤ 9223372036854775807 := by omega
                refine wp_region_typedE (l1 := [_, _, _, _, _, _, _, _, _]) (l2 := [_, _, _]) [] [130, 131, 132, 133, 134, 135, 136, 137, 138] (fun u => Below w25.heap.size w25 u) (FS [.val (.pointer (some ⟨B13, 4, none⟩)), .val (.slice (some ⟨gb, 0, none⟩) l.length cb), .val (.int .i64 (i1 : Int)), .val (.slice (some ⟨gb, 0, none⟩) i1 cb), .val (.pointer (some ⟨B13, 4, none⟩)), .val (.slice (some ⟨gb, 0, none⟩) l.length cb), .val (.int .i64 (i1 : Int)), .val (.int .i64 ((i1 : Int) + 1)), .val (.slice (some ad) m2 (cb - (i1 + 1)))] w25) (by kernel_rfl) (by kernel_rfl) (no_guards (by kernel_rfl)) (by kernel_rfl) FS.below ((Below.refl _ _).drew) ⟨?_, ?_, ?_, ?_, ?_, ?_, ?_, ?_, ?_, trivial⟩ (fun i hi => by cases hi) ?_
                · exact (sv_out rfl (t := 13) (u := .pointer (some ⟨B13, 0, none⟩)) rfl rfl (fun a' w h1 => by have e1 := eval_tmp h1; simp only [execOp, e1]; go_simp)).toA rfl
                · exact (sv_cell rfl (t := 130) (q := ⟨B13, 4, none⟩) (.of 0 (by decide) rfl rfl) hbox25.c4 (fun a' w h1 hc => by have e1 := eval_tmp h1; simp only [execOp, e1]; go_simp)).toA rfl
                · exact (sv_out rfl (t := 1) (u := .int .i64 (i1 : Int)) rfl rfl (fun a' w h1 => by have e1 := eval_tmp h1; simp only [execOp, e1]; go_simp)).toA rfl
                · exact (sv_two rfl (t := 131) (t' := 132) (u := (.slice (some ⟨gb, 0, none⟩) l.length cb)) (u' := .int .i64 (i1 : Int)) (.of 1 (by decide) rfl rfl) (.of 2 (by decide) rfl rfl) (fun a' w h1 h2 => by have e1 := eval_tmp h1; have e2 := eval_tmp h2; simp only [execOp, e1, e2]; go_simp)).toA rfl
                · exact (sv_out rfl (t := 13) (u := .pointer (some ⟨B13, 0, none⟩)) rfl rfl (fun a' w h1 => by have e1 := eval_tmp h1; simp only [execOp, e1]; go_simp)).toA rfl
                · exact (sv_cell rfl (t := 134) (q := ⟨B13, 4, none⟩) (.of 4 (by decide) rfl rfl) hbox25.c4 (fun a' w h1 hc => by have e1 := eval_tmp h1; simp only [execOp, e1]; go_simp)).toA rfl
                · exact (sv_out rfl (t := 1) (u := .int .i64 (i1 : Int)) rfl rfl (fun a' w h1 => by have e1 := eval_tmp h1; simp only [execOp, e1]; go_simp)).toA rfl
                · exact (sv_one rfl (t := 136) (u := .int .i64 (i1 : Int)) (.of 6 (by decide) rfl rfl) (fun a' w h1 => by have e1 := eval_tmp h1; simp only [execOp, e1]; go_simp; exact IntWalk.i64_in _ j5)).toA rfl
                · exact (sv_two rfl (t := 135) (t' := 137) (u := (.slice (some ⟨gb, 0, none⟩) l.length cb)) (u' := .int .i64 ((i1 : Int) + 1)) (.of 5 (by decide) rfl rfl) (.of 7 (by decide) rfl rfl) (fun a' w h1 h2 => by have e1 := eval_tmp h1; have e2 := eval_tmp h2; simp only [execOp, Option.map_some, Option.map_none, e1, e2]; simp only [Sem.run_bind, Sem.run_map, had w]; first | rfl | go_simp)).toA rfl
                intro vs wz hlen hz hF _
                obtain ⟨v0, v1, v2, v3, v4, v5, v6, v7, v8, rfl⟩ := list9 hlen
                obtain rfl : v0 = _ := FS.of (hF 0 v0 rfl) rfl
                obtain rfl : v1 = _ := FS.of (hF 1 v1 rfl) rfl
                obtain rfl : v2 = _ := FS.of (hF 2 v2 rfl) rfl
                obtain rfl : v3 = _ := FS.of (hF 3 v3 rfl) rfl
                obtain rfl : v4 = _ := FS.of (hF 4 v4 rfl) rfl
                obtain rfl : v5 = _ := FS.of (hF 5 v5 rfl) rfl
                obtain rfl : v6 = _ := FS.of (hF 6 v6 rfl) rfl
                obtain rfl : v7 = _ := FS.of (hF 7 v7 rfl) rfl
                obtain rfl : v8 = _ := FS.of (hF 8 v8 rfl) rfl
                clear hF hlen
                show wpList _ _ _ _ (putAll _ [(130, _), (131, _), (132, _), (133, _), (134, _), (135, _), (136, _), (137, _), (138, _)]) _
                simp only [putAll, Act.put, List.setIfInBounds_toArray, List.set_cons_succ, List.set_cons_zero]
                obtain ⟨ti, hti, htz, hts, htb⟩ := nodeInfo
                have hOz := (hownb.below hab).below hz
                have hsz25 : B13 < w25.heap.size := (Array.getElem?_eq_some_iff.1 hB25).1
                have hbz := (hz.block B13 hsz25).trans hB25
                have hgbn : B13 ≠ gb := by omega
                have hdl : (rowOf (eb.drop (i1 + 1))).length = m2 * 5 := by rw [Build.rowOf_len, List.length_drop, hel, hm2]
                refine wpList_append_arg wz rfl (.tmp 133) (.tmp 138) 23 rfl 25 ti (.agg zeros) 5 64 Try.underlying23 hti htz hts htb (by rfl) (by omega) gb 0 i1 cb (rowOf (eb.take i1)) rfl (by rw [Build.rowOf_len, List.length_take]; omega) (hOz.head i1) ad m2 (cb - (i1 + 1)) (rowOf (eb.drop (i1 + 1))) rfl hdl ?nc (rowOf_one _) ?sp (by unfold maxLen; omega) (by omega) ?room ?grow
                case nc =>
                  intro j u hj
                  rcases hadn with e | e
                  · have := (List.getElem?_eq_some_iff.1 hj).1; rw [hdl] at this; omega
                  · rw [e, Addr.add_mid]; exact hOz.tail (i1 + 1) (by omega) j u hj
                case sp =>
                  intro _ j hj
                  rw [hdl] at hj
                  have := hOz.there (i1 * 5 + j) (by omega)
                  rwa [← Nat.add_assoc] at this
                case grow => intro hlt; omega
                case room =>
                  intro _
                  rw [Nat.zero_add]
                  have hlc := hOz.less_cells i1 (by omega)
                  have hsb2 := (far_cells hgbn (rowOf (eb.drop (i1 + 1))) (i1 * 5) wz).trans hbz
                  have hfz := frozen_of_row _ B13 4 _ _ hsb2
                  have hcz := (box_of hsb2).c4
                  have hgs : w6.heap.size ≤ gb := Nat.le_trans H24.out.size hgbB
                  have b1 := below_cells hgs (rowOf (eb.drop (i1 + 1))) (i1 * 5) (h25.trans (hz.mono h25.size))
                  have b2 := below_cells hgbB (rowOf (eb.drop (i1 + 1))) (i1 * 5) (h245.trans (hz.mono h245.size))
                  have k1' : ∀ i, i < wb.heap.size → i ≠ gb → (wz.setCells gb (i1 * 5) (rowOf (eb.drop (i1 + 1)))).heap[i]? = wb.heap[i]? := fun i hi hn => (far_cells hn _ _ _).trans ((hz.block i (by have := hab.size; omega)).trans (hab.block i hi))
                  generalize wz.setCells gb (i1 * 5) (rowOf (eb.drop (i1 + 1))) = ws at *
                  simp only [Act.put, List.setIfInBounds_toArray, List.set_cons_succ, List.set_cons_zero]
                  refine list_step rfl ?_
                  refine wp_val (v := .pointer (some ⟨B13, 4, none⟩)) (w' := ws) ?_ ?_
                  · go_simp
                  simp only [Act.put, List.setIfInBounds_toArray, List.set_cons_succ, List.set_cons_zero]
                  refine list_step rfl ?_
                  refine wp_do (w' := ws.setCell ⟨B13, 4, none⟩ (.slice (some ⟨gb, 0, none⟩) (i1 + m2) cb)) ?_ ?_
                  · go_simp
                  refine wpList_nil ?_
                  have hL3 := hownb.less i1 (w2 := ws.setCell ⟨B13, 4, none⟩ (.slice (some ⟨gb, 0, none⟩) (i1 + m2) cb)) (fun j u hj => (World.cell?_of_block (Below.heap_setCell ws ⟨B13, 4, none⟩ (.slice (some ⟨gb, 0, none⟩) (i1 + m2) cb) gb (Ne.symm hgbn))).trans (hlc j u hj)) (fun i hi hn => (Below.heap_setCell ws ⟨B13, 4, none⟩ (.slice (some ⟨gb, 0, none⟩) (i1 + m2) cb) i (by show i ≠ B13; omega)).trans (k1' i hi hn))
                  rw [ent_less heb i1] at hL3
                  have hB3 : Box5 (ws.setCell ⟨B13, 4, none⟩ (.slice (some ⟨gb, 0, none⟩) (i1 + m2) cb)) B13 (.int .u8 9) (.string t) (.int .i64 n) (.int .i64 a) (.slice (some ⟨gb, 0, none⟩) (i1 + m2) cb) := box_of (blk_set hsb2 4 _)
                  have hF6 : Below w6.heap.size w6 (ws.setCell ⟨B13, 4, none⟩ (.slice (some ⟨gb, 0, none⟩) (i1 + m2) cb)) := b1.setCell (by show w6.heap.size ≤ B13; have := HWB.out.size; omega) _
                  have hF24 : Below w24.heap.size w24 (ws.setCell ⟨B13, 4, none⟩ (.slice (some ⟨gb, 0, none⟩) (i1 + m2) cb)) := b2.setCell (by show w24.heap.size ≤ B13; omega) _
                  have HL3 := Lib.hid hL3; have HB3 := Lib.hid hB3; have HF6 := Lib.hid hF6
                  have HO5 := Lib.hid (HO4.out.below hF24); have HB5 := Lib.hid (HB4.out.below hF24)
                  have hm3 := less_len2 hil hm2
                  have hmc : i1 + m2 ≤ cb := by omega
                  have hml : i1 + m2 ≤ 1000000 := by omega
                  clear hL3 hB3 hF6 hF24 b1 b2 k1' hlc hsb2 hfz hcz hdl hgbn hbz hsz25 hOz hti htz hts htb had hadn hbox25 hB25 hz hab h245 h25 hownb hgbB heb hel hgw hsb hgs HLB HNB HBB HWB H24 HO4 HB4
                  generalize ws.setCell ⟨B13, 4, none⟩ (.slice (some ⟨gb, 0, none⟩) (i1 + m2) cb) = wf at *
                  generalize hm4 : i1 + m2 = m4 at *
                  have HRAB := Lib.hid (fun u (hu : Below wf.heap.size wf u) (hm : u.cell? ⟨0, 0, none⟩ = some (.int .i64 mm)) => right_any (x := .mk 9 t n a (swapL l i1 k1 hil hkl)) (p := some ⟨g, 0, none⟩) (c := ca) hm ⟨by have := (HO5.out.below hu).kidsV; rw [HESW.out] at this; exact this, by have := HO5.out.cap; show (swapL l i1 k1 hil hkl).length ≤ ca; rw [← HESW.out, List.length_map]; exact this, by show (swapL l i1 k1 hil hkl).length ≤ 1000000; rw [swap_len]; exact hll, RA6.out.text⟩)
                  rw [right_swap HRT.out] at HRAB
                  unfold nodeC at HRAB
                  simp only [Nd.kind, Nd.text, Nd.num, Nd.at_, Nd.kids, swap_len, cast9] at HRAB
                  have RL := Lib.hid (fun u (hu : Below wf.heap.size wf u) => show Ready u (some ⟨gb, 0, none⟩) cb (.mk 9 t n a (lessL l i1)) from ⟨KidsV.below hu HL3.out, by show (lessL l i1).length ≤ cb; rw [hm3]; exact hmc, by show (lessL l i1).length ≤ 1000000; rw [hm3]; exact hml, RA6.out.text⟩)
                  have HRLB := Lib.hid (fun u (hu : Below wf.heap.size wf u) (hm : u.cell? ⟨0, 0, none⟩ = some (.int .i64 mm)) => right_any hm (RL.out u hu))
                  rw [right_less HRT.out] at HRLB
                  unfold nodeC at HRLB
                  simp only [Nd.kind, Nd.text, Nd.num, Nd.at_, Nd.kids, hm3, cast9] at HRLB
                  have HSML := Lib.hid (fun u (hu : Below wf.heap.size wf u) => same_any (.mk 9 t n a l) (.mk 9 t n a (lessL l i1)) p c (some ⟨gb, 0, none⟩) cb u (RA6.out.below (HF6.out.trans (hu.mono HF6.out.size))) (RL.out u hu))
                  rw [same_less hil] at HSML
                  unfold nodeC at HSML
                  simp only [Nd.kind, Nd.text, Nd.num, Nd.at_, Nd.kids, hm3, cast9] at HSML
                  have HMF := Lib.hid (fun u (hu : Below wf.heap.size wf u) => HMM.out u (HF6.out.trans (hu.mono HF6.out.size)))
                  have HAF := Lib.hid (HA6.out.below HF6.out)
                  have HWF := Lib.hid (HW6.out.next HF6.out)
                  clear HL3 HO5 HMM HA6 HF6 HESW RL HCOPY HRA hm3 hmc hml HOKL HLNE HS6 HW6 RA6 RO6 HDD HRT HD0 HWT
                  obtain ⟨a0, a1, a2, a3, a4⟩ := HB5.out
                  go_wp2_with (first
                    | (go_at_call 8; (with_reducible refine (HRAB.out _ (Below.refl _ _) (HMF.out _ (Below.refl _ _))).mono ?_); go_must (rintro e y1 ⟨rfl, hb⟩; have HY1 := Lib.hid hb; clear hb a0 a1 a2 a3 a4; obtain ⟨b0, b1, b2, b3, b4⟩ := HB3.out.below HY1.out))
                    | (go_at_call 8; (with_reducible refine (HRLB.out _ HY1.out (HMF.out _ HY1.out)).mono ?_); go_must (rintro e y2 ⟨rfl, hb⟩; have HY2 := Lib.hid (HY1.out.trans (hb.mono HY1.out.size)); clear hb b0 b1 b2 b3 b4; obtain ⟨b0, b1, b2, b3, b4⟩ := HB3.out.below HY2.out; obtain ⟨a0, a1, a2, a3, a4⟩ := HAF.out.below HY2.out))
                    | (go_at_call 13; (with_reducible refine (HSML.out _ HY2.out).mono ?_); go_must (rintro e y3 ⟨rfl, hb⟩; have HY3 := Lib.hid (HY2.out.trans (hb.mono HY2.out.size)); clear hb)))
                  go_ret
                  exact ⟨rfl, HHH.out ▸ (HWF.out.next HY3.out).b⟩
    · have qb : ((kk : Int) != 1 && (kk : Int) != 9) = true := by simp; omega
      go_wp2_with (go_at_call 11; (with_reducible refine (HMA.out _ HW1.out.b).mono ?_); go_must (rintro e w2 ⟨rfl, hb⟩; clear a0 a1 a2 a3 a4; have HA2 := Lib.hid (HA1.out.below hb); obtain ⟨a0, a1, a2, a3, a4⟩ := HA2.out; have HW2 := Lib.hid (HW1.out.next hb); clear hb))
      go_ret
      exact ⟨rfl, HHH.out ▸ HW2.out.b⟩
  · have e1 : min (wtN (.mk kk t n a l)) 40001 = 40001 := by omega
    rw [e1] at HMA
    go_wp2_with (go_at_call 11; (with_reducible refine (HMA.out _ HW1.out.b).mono ?_); go_must (rintro e w2 ⟨rfl, hb⟩; have HW2 := Lib.hid (HW1.out.next hb); clear hb))
    go_ret
    exact ⟨rfl, HHH.out ▸ HW2.out.b⟩
end Go.Proofs.Ytkjpdhnibfhaaaa.PartF
