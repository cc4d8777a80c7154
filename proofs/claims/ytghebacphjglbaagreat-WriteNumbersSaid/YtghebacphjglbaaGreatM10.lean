/- gristmillkit.KeptRules, at what LentRules told: true. (Printed by src2_gen.py.) -/
import Derived.Test.YtghebacphjglbaaGreatM9
namespace Go.Proofs.YtghebacphjglbaaGreat.SrcE
open Go Go.RowKit Go.Proofs.YtghebacphjglbaaGreat.Lexy Go.Proofs.YtghebacphjglbaaGreat.LexA Go.Proofs.YtghebacphjglbaaGreat.LexB Go.Proofs.YtghebacphjglbaaGreat.LexC Go.Proofs.YtghebacphjglbaaGreat.LexD Go.Proofs.YtghebacphjglbaaGreat.LexE Go.Proofs.YtghebacphjglbaaGreat.LexF Go.Proofs.YtghebacphjglbaaGreat.LexG Go.Proofs.YtghebacphjglbaaGreat.Heap Go.Proofs.YtghebacphjglbaaGreat.Dat Go.Proofs.YtghebacphjglbaaGreat.Ready Go.Proofs.YtghebacphjglbaaGreat.ReadA Go.Proofs.YtghebacphjglbaaGreat.ReadC Go.Proofs.YtghebacphjglbaaGreat.ReadH Go.Proofs.YtghebacphjglbaaGreat.ReadI Go.Proofs.YtghebacphjglbaaGreat.ReadM Go.Proofs.YtghebacphjglbaaGreat.ReadO Go.Proofs.YtghebacphjglbaaGreat.Same Go.Proofs.YtghebacphjglbaaGreat.Cut Go.Proofs.YtghebacphjglbaaGreat.LentK Go.Proofs.YtghebacphjglbaaGreat.SrcA Go.Proofs.YtghebacphjglbaaGreat.SrcB Go.Proofs.YtghebacphjglbaaGreat.SrcC Go.Proofs.YtghebacphjglbaaGreat.SrcD

set_option maxRecDepth 100000 in
set_option maxHeartbeats 8000000 in
theorem kept_Rule {y : Ru} {w : World} {B g0 g1 : Nat} {s0 s1 : Value} (hg0 : LentD mkV w B (.row 9 1 y.params.length (nmsD y.params)) (.slice (some ⟨g0, 0, none⟩) y.params.length (y.params.length + 12))) (hr0 : Reads w (.row 9 1 y.params.length (nmsD y.params)) s0) (hg1 : LentD mkV w B (.row 35 6 y.alts.length (alsD y.alts)) (.slice (some ⟨g1, 0, none⟩) y.alts.length (y.alts.length + 12))) (hr1 : Reads w (.row 35 6 y.alts.length (alsD y.alts)) s1) (ho : RuOk y) :
    Calls Tryz.prog 62 #[.agg #[.string (bs y.name), .slice (some ⟨g0, 0, none⟩) y.params.length (y.params.length + 12), .slice (some ⟨g1, 0, none⟩) y.alts.length (y.alts.length + 12), .int .i64 y.at_], .agg #[.string (bs y.name), s0, s1, .int .i64 y.at_]] w fun e w' => e = .returned (.bool true) ∧ Below w.heap.size w w' := by
  obtain ⟨x0, y0, rfl⟩ := Reads.slice hr0
  obtain ⟨x1, y1, rfl⟩ := Reads.slice hr1
  have HS := Lib.hid (fun (u : World) (hu : Below w.heap.size w u) => show Calls Tryz.prog 63 #[.agg #[.string (bs y.name), .slice (some ⟨g0, 0, none⟩) y.params.length (y.params.length + 12), .slice (some ⟨g1, 0, none⟩) y.alts.length (y.alts.length + 12), .int .i64 y.at_], .agg #[.string (bs y.name), .slice x0 y.params.length y0, .slice x1 y.alts.length y1, .int .i64 y.at_]] u fun e w' => e = .returned (.bool true) ∧ Below u.heap.size u w' from same_rule (x := y) (hg0.below hu).reads (Reads.below hu hr0) (hg1.below hu).reads (Reads.below hu hr1))
  have HK0 := Lib.hid (fun (u : World) (hu : Below w.heap.size w u) => kepts_Texts (hg0.below hu) (Reads.below hu hr0) ho.n)
  have HK1 := Lib.hid (fun (u : World) (hu : Below w.heap.size w u) => kepts_Alt (fun x hx => kept_al x (ho.alts x hx)) (hg1.below hu) (Reads.below hu hr1) ho.m)
  clear hg0 hr0 hg1 hr1 ho
  generalize (bs y.name) = z0 at *
  generalize y.at_ = z3 at *
  generalize y.params.length = n0x at *
  generalize y.alts.length = n1x at *
  have HB := Lib.hid (((Below.refl w.heap.size w).alloc (Nat.le_refl _) (.cells #[.string z0, .slice (some ⟨g0, 0, none⟩) n0x (n0x + 12), .slice (some ⟨g1, 0, none⟩) n1x (n1x + 12), .int .i64 z3] 38)).alloc (by simp) (.cells #[.string z0, .slice x0 n0x y0, .slice x1 n1x y1, .int .i64 z3] 38))
  have HSZ := Lib.hid (show ((w.alloc (.cells #[.string z0, .slice (some ⟨g0, 0, none⟩) n0x (n0x + 12), .slice (some ⟨g1, 0, none⟩) n1x (n1x + 12), .int .i64 z3] 38)).alloc (.cells #[.string z0, .slice x0 n0x y0, .slice x1 n1x y1, .int .i64 z3] 38)).heap.size = w.heap.size + 2 by simp)
  have XB := Lib.hid (show ((w.alloc (.cells #[.string z0, .slice (some ⟨g0, 0, none⟩) n0x (n0x + 12), .slice (some ⟨g1, 0, none⟩) n1x (n1x + 12), .int .i64 z3] 38)).alloc (.cells #[.string z0, .slice x0 n0x y0, .slice x1 n1x y1, .int .i64 z3] 38)).heap[w.heap.size + 1]? = some (.cells #[.string z0, .slice x0 n0x y0, .slice x1 n1x y1, .int .i64 z3] 38 (0, 0)) from alloc2 w _ _)
  have XA := Lib.hid (show ((w.alloc (.cells #[.string z0, .slice (some ⟨g0, 0, none⟩) n0x (n0x + 12), .slice (some ⟨g1, 0, none⟩) n1x (n1x + 12), .int .i64 z3] 38)).alloc (.cells #[.string z0, .slice x0 n0x y0, .slice x1 n1x y1, .int .i64 z3] 38)).heap[w.heap.size]? = some (.cells #[.string z0, .slice (some ⟨g0, 0, none⟩) n0x (n0x + 12), .slice (some ⟨g1, 0, none⟩) n1x (n1x + 12), .int .i64 z3] 38 (0, 0)) from (Below.heap_alloc _ _ _ (by simp)).trans (heap_alloc_new _ _))
  go_enter Tryz.func62, Tryz.ntmps62
  go_upto_region 1 with fail
  generalize ((w.alloc (.cells #[.string z0, .slice (some ⟨g0, 0, none⟩) n0x (n0x + 12), .slice (some ⟨g1, 0, none⟩) n1x (n1x + 12), .int .i64 z3] 38)).alloc (.cells #[.string z0, .slice x0 n0x y0, .slice x1 n1x y1, .int .i64 z3] 38)) = W at *
  have hl0 : w.heap.size + 1 < W.heap.size := by rw [HSZ.out]; omega
  generalize hH : w.heap.size = H at *
  have a0 : W.cell? ⟨H, 0, none⟩ = some (.string z0) := cell_of_row W H 0 _ _ (0, 0) XA.out
  have b0 : W.cell? ⟨H + 1, 0, none⟩ = some (.string z0) := cell_of_row W (H + 1) 0 _ _ (0, 0) XB.out
  have a1 : W.cell? ⟨H, 1, none⟩ = some (.slice (some ⟨g0, 0, none⟩) n0x (n0x + 12)) := cell_of_row W H 1 _ _ (0, 0) XA.out
  have b1 : W.cell? ⟨H + 1, 1, none⟩ = some (.slice x0 n0x y0) := cell_of_row W (H + 1) 1 _ _ (0, 0) XB.out
  have a2 : W.cell? ⟨H, 2, none⟩ = some (.slice (some ⟨g1, 0, none⟩) n1x (n1x + 12)) := cell_of_row W H 2 _ _ (0, 0) XA.out
  have b2 : W.cell? ⟨H + 1, 2, none⟩ = some (.slice x1 n1x y1) := cell_of_row W (H + 1) 2 _ _ (0, 0) XB.out
  have a3 : W.cell? ⟨H, 3, none⟩ = some (.int .i64 z3) := cell_of_row W H 3 _ _ (0, 0) XA.out
  have b3 : W.cell? ⟨H + 1, 3, none⟩ = some (.int .i64 z3) := cell_of_row W (H + 1) 3 _ _ (0, 0) XB.out
  go_wp2_with (first
    | (go_at_call 63; go_must (refine (HS.out _ HB.out).mono ?_; rintro e w2 ⟨rfl, hb⟩; clear a0 b0 a1 b1 a2 b2 a3 b3; have a0 := cell_of_row w2 H 0 _ _ (0, 0) ((hb.block H (by omega)).trans XA.out); have b0 := cell_of_row w2 (H + 1) 0 _ _ (0, 0) ((hb.block (H + 1) (by omega)).trans XB.out); have a1 := cell_of_row w2 H 1 _ _ (0, 0) ((hb.block H (by omega)).trans XA.out); have b1 := cell_of_row w2 (H + 1) 1 _ _ (0, 0) ((hb.block (H + 1) (by omega)).trans XB.out); have a2 := cell_of_row w2 H 2 _ _ (0, 0) ((hb.block H (by omega)).trans XA.out); have b2 := cell_of_row w2 (H + 1) 2 _ _ (0, 0) ((hb.block (H + 1) (by omega)).trans XB.out); have a3 := cell_of_row w2 H 3 _ _ (0, 0) ((hb.block H (by omega)).trans XA.out); have b3 := cell_of_row w2 (H + 1) 3 _ _ (0, 0) ((hb.block (H + 1) (by omega)).trans XB.out); have HBs := Lib.hid hb; have HB0 := Lib.hid (HB.out.trans (hb.mono (by omega))); clear hb))
    | (go_at_call 75; go_must (refine (HK0.out _ HB0.out).mono ?_; rintro e w3 ⟨rfl, hb⟩; clear a0 b0 a1 b1 a2 b2 a3 b3; have hbb := HBs.out.trans (hb.mono HBs.out.size); have a0 := cell_of_row w3 H 0 _ _ (0, 0) ((hbb.block H (by omega)).trans XA.out); have b0 := cell_of_row w3 (H + 1) 0 _ _ (0, 0) ((hbb.block (H + 1) (by omega)).trans XB.out); have a1 := cell_of_row w3 H 1 _ _ (0, 0) ((hbb.block H (by omega)).trans XA.out); have b1 := cell_of_row w3 (H + 1) 1 _ _ (0, 0) ((hbb.block (H + 1) (by omega)).trans XB.out); have a2 := cell_of_row w3 H 2 _ _ (0, 0) ((hbb.block H (by omega)).trans XA.out); have b2 := cell_of_row w3 (H + 1) 2 _ _ (0, 0) ((hbb.block (H + 1) (by omega)).trans XB.out); have a3 := cell_of_row w3 H 3 _ _ (0, 0) ((hbb.block H (by omega)).trans XA.out); have b3 := cell_of_row w3 (H + 1) 3 _ _ (0, 0) ((hbb.block (H + 1) (by omega)).trans XB.out); clear HBs; have HBs := Lib.hid hbb; have HB1 := Lib.hid (HB0.out.trans (hb.mono (by have := HB0.out.size; omega))); clear hb hbb))
    | (go_at_call 77; go_must (refine (HK1.out _ HB1.out).mono ?_; rintro e w4 ⟨rfl, hb⟩; clear a0 b0 a1 b1 a2 b2 a3 b3; have hbb := HBs.out.trans (hb.mono HBs.out.size); have a0 := cell_of_row w4 H 0 _ _ (0, 0) ((hbb.block H (by omega)).trans XA.out); have b0 := cell_of_row w4 (H + 1) 0 _ _ (0, 0) ((hbb.block (H + 1) (by omega)).trans XB.out); have a1 := cell_of_row w4 H 1 _ _ (0, 0) ((hbb.block H (by omega)).trans XA.out); have b1 := cell_of_row w4 (H + 1) 1 _ _ (0, 0) ((hbb.block (H + 1) (by omega)).trans XB.out); have a2 := cell_of_row w4 H 2 _ _ (0, 0) ((hbb.block H (by omega)).trans XA.out); have b2 := cell_of_row w4 (H + 1) 2 _ _ (0, 0) ((hbb.block (H + 1) (by omega)).trans XB.out); have a3 := cell_of_row w4 H 3 _ _ (0, 0) ((hbb.block H (by omega)).trans XA.out); have b3 := cell_of_row w4 (H + 1) 3 _ _ (0, 0) ((hbb.block (H + 1) (by omega)).trans XB.out); clear HBs; have HBs := Lib.hid hbb; have HB2 := Lib.hid (HB1.out.trans (hb.mono (by have := HB1.out.size; omega))); clear hb hbb)))
  go_ret
  exact ⟨rfl, by have := HB2.out; rw [hH]; exact this⟩
theorem lcells_Rule {w : World} {B g o : Nat} {l : List Ru} (h : LentL mkV w B g o (rusD l)) {k : Nat} (hk : k < l.length) :
    ∃ g0 g1, w.cell? ⟨g, o + k * 4, none⟩ = some (.string (bs (l[k]'hk).name)) ∧ w.cell? ⟨g, o + k * 4 + 1, none⟩ = some (.slice (some ⟨g0, 0, none⟩) (l[k]'hk).params.length ((l[k]'hk).params.length + 12)) ∧ w.cell? ⟨g, o + k * 4 + 2, none⟩ = some (.slice (some ⟨g1, 0, none⟩) (l[k]'hk).alts.length ((l[k]'hk).alts.length + 12)) ∧ w.cell? ⟨g, o + k * 4 + 3, none⟩ = some (.int .i64 (l[k]'hk).at_) ∧ LentD mkV w B (.row 9 1 (l[k]'hk).params.length (nmsD (l[k]'hk).params)) (.slice (some ⟨g0, 0, none⟩) (l[k]'hk).params.length ((l[k]'hk).params.length + 12)) ∧ LentD mkV w B (.row 35 6 (l[k]'hk).alts.length (alsD (l[k]'hk).alts)) (.slice (some ⟨g1, 0, none⟩) (l[k]'hk).alts.length ((l[k]'hk).alts.length + 12)) := by
  rw [rusD_flat] at h
  obtain ⟨us, hu, hc⟩ := elem_lent ruD_len h hk
  obtain ⟨u0, _, rfl, h0, ⟨u1, _, rfl, h1, ⟨u2, _, rfl, h2, ⟨u3, _, rfl, h3, rfl⟩⟩⟩⟩ := hu
  rw [LentD.lit_iff] at h0
  subst h0
  obtain ⟨g0, rfl, _⟩ := lent_slice h1
  obtain ⟨g1, rfl, _⟩ := lent_slice h2
  rw [LentD.lit_iff] at h3
  subst h3
  exact ⟨g0, g1, hc 0 _ rfl, hc 1 _ rfl, hc 2 _ rfl, hc 3 _ rfl, h1, h2⟩
def KeptOKRule (y : Ru) : Prop := ∀ (B g0 g1 : Nat) (s0 s1 : Value) (w : World), LentD mkV w B (.row 9 1 y.params.length (nmsD y.params)) (.slice (some ⟨g0, 0, none⟩) y.params.length (y.params.length + 12)) → Reads w (.row 9 1 y.params.length (nmsD y.params)) s0 → LentD mkV w B (.row 35 6 y.alts.length (alsD y.alts)) (.slice (some ⟨g1, 0, none⟩) y.alts.length (y.alts.length + 12)) → Reads w (.row 35 6 y.alts.length (alsD y.alts)) s1 → Calls Tryz.prog 62 #[.agg #[.string (bs y.name), .slice (some ⟨g0, 0, none⟩) y.params.length (y.params.length + 12), .slice (some ⟨g1, 0, none⟩) y.alts.length (y.alts.length + 12), .int .i64 y.at_], .agg #[.string (bs y.name), s0, s1, .int .i64 y.at_]] w fun e w' => e = .returned (.bool true) ∧ Below w.heap.size w w'
set_option maxRecDepth 100000 in
set_option maxHeartbeats 16000000 in
theorem kepts_Rule {l : List Ru} {B : Nat} {v s : Value} {w : World} (ih : ∀ y ∈ l, KeptOKRule y) (hv : LentD mkV w B (.row 38 4 l.length (rusD l)) v) (h2 : Reads w (.row 38 4 l.length (rusD l)) s) (hl : l.length ≤ 1000000) :
    Calls Tryz.prog 39 #[v, s] w fun e w' => e = .returned (.bool true) ∧ Below w.heap.size w w' := by
  obtain ⟨g, rfl, _, hL, hM⟩ := lent_slice hv
  obtain ⟨p2, c2, rfl⟩ := Reads.slice h2
  have HL := Lib.hid hL; have HM := Lib.hid hM; have H2 := Lib.hid h2; have HIH := Lib.hid ih; clear hv hL hM h2 ih
  generalize hnk : l.length = nk at *
  have HNK := Lib.hid hnk; clear hnk
  generalize hN : nk + 12 = N at *
  have e1 : ((nk : Int) + 12) = (N : Int) := by omega
  have e2 : (0 : Int) ≤ (N : Int) := by omega
  go_enter Tryz.func39, Tryz.ntmps39
  go_wp2_with fail
  go_loopg [6] N (fun gk i wr => ∃ q : Nat, q ≤ N ∧ gk = N - q ∧ i = .int .i64 (q : Int) ∧ Below w.heap.size w wr)
  case atStart => exact ⟨0, by omega, by omega, rfl, Below.refl _ _⟩
  case round =>
    obtain ⟨q, hq, rfl, rfl, hbw⟩ := hrel
    have HBW := Lib.hid hbw; clear hbw
    by_cases hlt : q < N
    · have j0 : (0 : Int) ≤ (q : Int) := by omega
      have j1 : (q : Int) < (N : Int) := by omega
      by_cases hqn : q < nk
      · have j2 : (q : Int) < (nk : Int) := by omega
        have j3 : ¬ (nk : Int) ≤ (q : Int) := by omega
        have hkl : q < l.length := by have := HNK.out; omega
        obtain ⟨g2, o2, rfl, r1⟩ := Reads.elems H2.out (by omega)
        obtain ⟨x0, y0, x1, y1, f0, f1, f2, f3, hr0, hr1⟩ := rule_cells r1 hkl
        obtain ⟨g0, g1, d0, d1, d2, d3, hg0, hg1⟩ := lcells_Rule HL.out hkl
        have hmem : l[q]'hkl ∈ l := List.getElem_mem hkl
        have HY := Lib.hid (fun (u : World) (hu : Below w.heap.size w u) => HIH.out _ hmem B g0 g1 _ _ u (hg0.below hu) (Reads.below hu hr0) (hg1.below hu) (Reads.below hu hr1))
        rw [Nat.zero_add] at d0 d1 d2 d3
        have m0 := cell_on rfl HBW.out d0; have nn0 := cell_on rfl HBW.out f0
        have m1 := cell_on rfl HBW.out d1; have nn1 := cell_on rfl HBW.out f1
        have m2 := cell_on rfl HBW.out d2; have nn2 := cell_on rfl HBW.out f2
        have m3 := cell_on rfl HBW.out d3; have nn3 := cell_on rfl HBW.out f3
        clear d0 f0 d1 f1 d2 f2 d3 f3 r1 hg0 hr0 hg1 hr1 hmem
        generalize l[q]'hkl = y at *
        generalize (bs y.name) = z0 at *
        generalize y.at_ = z3 at *
        generalize y.params.length = n0x at *
        generalize y.alts.length = n1x at *
        go_wp2_with fail
        refine wp_region_mixS (l1 := [_, _, _, _, _, _, _, _, _, _, _, _, _, _, _, _, _, _, _, _, _, _, _, _, _, _, _, _, _, _, _, _, _, _]) (l2 := [_]) [(0, true), (1, true), (2, true), (3, true), (4, true), (5, true), (6, true), (7, true), (8, true), (9, true), (10, true), (11, true), (12, true), (13, false), (14, true), (15, true), (16, true), (17, true), (18, true), (19, true), (20, true), (21, true), (22, true), (23, true), (24, true), (25, true), (26, true), (27, true), (28, true), (29, true), (30, true), (31, true), (32, true), (33, true)] (fun u => Below wr.heap.size wr u) (by kernel_rfl) (by kernel_rfl) (by repeat (first | refine loose_then ?_ | refine loose_block ?_ | exact loose_body (P := Tryz.prog) (fn := Tryz.f39))) ((Below.refl _ wr).drew) ?_
        refine mixS_take (.int .i64 (q : Int)) rfl rfl (fun u hu => by go_simp) ?_
        refine mixS_take (.slice (some ⟨g2, o2, none⟩) nk c2) rfl rfl (fun u hu => by go_simp) ?_
        refine mixS_take (.int .i64 (nk : Int)) rfl rfl (fun u hu => by go_simp) ?_
        refine mixS_take (.bool true) rfl rfl (fun u hu => by go_simp) ?_
        refine mixS_take (.bool true) rfl rfl (fun u hu => by go_simp) ?_
        refine mixS_take (.slice (some ⟨g, 0, none⟩) N N) rfl (wanted_at (g := 4) (b := true) (t := 27) rfl rfl (by (repeat refine put_far (by decide) ?_); refine put_here rfl ?_; (repeat refine put_size ?_); exact of_decide_eq_true rfl)) (fun u hu => by go_simp) ?_
        refine mixS_take (.int .i64 (q : Int)) rfl (wanted_at (g := 4) (b := true) (t := 27) rfl rfl (by (repeat refine put_far (by decide) ?_); refine put_here rfl ?_; (repeat refine put_size ?_); exact of_decide_eq_true rfl)) (fun u hu => by go_simp) ?_
        refine mixS_take (.pointer (some ⟨g, q * 4, none⟩)) rfl (wanted_at (g := 4) (b := true) (t := 27) rfl rfl (by (repeat refine put_far (by decide) ?_); refine put_here rfl ?_; (repeat refine put_size ?_); exact of_decide_eq_true rfl)) (fun u hu => by go_simp) ?_
        refine mixS_take (.agg #[.string z0, .slice (some ⟨g0, 0, none⟩) n0x (n0x + 12), .slice (some ⟨g1, 0, none⟩) n1x (n1x + 12), .int .i64 z3]) rfl (wanted_at (g := 4) (b := true) (t := 27) rfl rfl (by (repeat refine put_far (by decide) ?_); refine put_here rfl ?_; (repeat refine put_size ?_); exact of_decide_eq_true rfl)) (fun u hu => by have e0 := cell_on rfl hu m0; have e1 := cell_on rfl hu m1; have e2 := cell_on rfl hu m2; have e3 := cell_on rfl hu m3; go_simp) ?_
        refine mixS_take (.slice (some ⟨g2, o2, none⟩) nk c2) rfl (wanted_at (g := 4) (b := true) (t := 27) rfl rfl (by (repeat refine put_far (by decide) ?_); refine put_here rfl ?_; (repeat refine put_size ?_); exact of_decide_eq_true rfl)) (fun u hu => by go_simp) ?_
        refine mixS_take (.int .i64 (q : Int)) rfl (wanted_at (g := 4) (b := true) (t := 27) rfl rfl (by (repeat refine put_far (by decide) ?_); refine put_here rfl ?_; (repeat refine put_size ?_); exact of_decide_eq_true rfl)) (fun u hu => by go_simp) ?_
        refine mixS_take (.pointer (some ⟨g2, o2 + q * 4, none⟩)) rfl (wanted_at (g := 4) (b := true) (t := 27) rfl rfl (by (repeat refine put_far (by decide) ?_); refine put_here rfl ?_; (repeat refine put_size ?_); exact of_decide_eq_true rfl)) (fun u hu => by go_simp) ?_
        refine mixS_take (.agg #[.string z0, .slice x0 n0x y0, .slice x1 n1x y1, .int .i64 z3]) rfl (wanted_at (g := 4) (b := true) (t := 27) rfl rfl (by (repeat refine put_far (by decide) ?_); refine put_here rfl ?_; (repeat refine put_size ?_); exact of_decide_eq_true rfl)) (fun u hu => by have e0 := cell_on rfl hu nn0; have e1 := cell_on rfl hu nn1; have e2 := cell_on rfl hu nn2; have e3 := cell_on rfl hu nn3; go_simp) ?_
        have HBD := Lib.hid (HBW.out.drew)
        clear m0 nn0 m1 nn1 m2 nn2 m3 nn3
        refine mixS_go rfl (wanted_at (g := 4) (b := true) (t := 27) rfl rfl (by (repeat refine put_far (by decide) ?_); refine put_here rfl ?_; (repeat refine put_size ?_); exact of_decide_eq_true rfl)) fun K hK => wp_go (f := 62) (args := #[(.agg #[.string z0, .slice (some ⟨g0, 0, none⟩) n0x (n0x + 12), .slice (some ⟨g1, 0, none⟩) n1x (n1x + 12), .int .i64 z3]), (.agg #[.string z0, .slice x0 n0x y0, .slice x1 n1x y1, .int .i64 z3])]) (by go_simp) ((HY.out _ HBD.out).mono ?_)
        rintro e w2 ⟨rfl, hb⟩
        have HB2 := Lib.hid (HBD.out.trans (hb.mono HBD.out.size))
        refine hK.out _ _ (((Below.refl _ wr).drew).trans (hb.mono (by simp))) ?_
        clear hK hb
        refine mixS_take (.bool false) rfl (wanted_at (g := 4) (b := true) (t := 27) rfl rfl (by (repeat refine put_far (by decide) ?_); refine put_here rfl ?_; (repeat refine put_size ?_); exact of_decide_eq_true rfl)) (fun u hu => by go_simp) ?_
        refine mixS_take (.bool false) rfl rfl (fun u hu => by go_simp) ?_
        refine mixS_take (.bool false) rfl rfl (fun u hu => by go_simp) ?_
        refine mixS_take (.int .i64 (q : Int)) rfl (wanted_at (g := 16) (b := false) (t := 39) rfl rfl (by (repeat refine put_far (by decide) ?_); refine put_here rfl ?_; (repeat refine put_size ?_); exact of_decide_eq_true rfl)) (fun u hu => by go_simp) ?_
        refine mixS_take (.slice (some ⟨g2, o2, none⟩) nk c2) rfl (wanted_at (g := 16) (b := false) (t := 39) rfl rfl (by (repeat refine put_far (by decide) ?_); refine put_here rfl ?_; (repeat refine put_size ?_); exact of_decide_eq_true rfl)) (fun u hu => by go_simp) ?_
        refine mixS_take (.int .i64 (nk : Int)) rfl (wanted_at (g := 16) (b := false) (t := 39) rfl rfl (by (repeat refine put_far (by decide) ?_); refine put_here rfl ?_; (repeat refine put_size ?_); exact of_decide_eq_true rfl)) (fun u hu => by go_simp) ?_
        refine mixS_take (.bool false) rfl (wanted_at (g := 16) (b := false) (t := 39) rfl rfl (by (repeat refine put_far (by decide) ?_); refine put_here rfl ?_; (repeat refine put_size ?_); exact of_decide_eq_true rfl)) (fun u hu => by go_simp) ?_
        refine mixS_take (.bool false) rfl (wanted_at (g := 16) (b := false) (t := 39) rfl rfl (by (repeat refine put_far (by decide) ?_); refine put_here rfl ?_; (repeat refine put_size ?_); exact of_decide_eq_true rfl)) (fun u hu => by go_simp) ?_
        refine mixS_skip rfl (unwanted_at (g := 21) (b := true) (t := 44) (c := false) rfl rfl (by (repeat refine put_far (by decide) ?_); refine put_here rfl ?_; (repeat refine put_size ?_); exact of_decide_eq_true rfl) (by decide)) ?_
        refine mixS_skip rfl (unwanted_at (g := 21) (b := true) (t := 44) (c := false) rfl rfl (by (repeat refine put_far (by decide) ?_); refine put_here rfl ?_; (repeat refine put_size ?_); exact of_decide_eq_true rfl) (by decide)) ?_
        refine mixS_skip rfl (unwanted_at (g := 21) (b := true) (t := 44) (c := false) rfl rfl (by (repeat refine put_far (by decide) ?_); refine put_here rfl ?_; (repeat refine put_size ?_); exact of_decide_eq_true rfl) (by decide)) ?_
        refine mixS_skip rfl (unwanted_at (g := 21) (b := true) (t := 44) (c := false) rfl rfl (by (repeat refine put_far (by decide) ?_); refine put_here rfl ?_; (repeat refine put_size ?_); exact of_decide_eq_true rfl) (by decide)) ?_
        refine mixS_skip rfl (unwanted_at (g := 21) (b := true) (t := 44) (c := false) rfl rfl (by (repeat refine put_far (by decide) ?_); refine put_here rfl ?_; (repeat refine put_size ?_); exact of_decide_eq_true rfl) (by decide)) ?_
        refine mixS_skip rfl (unwanted_at (g := 21) (b := true) (t := 44) (c := false) rfl rfl (by (repeat refine put_far (by decide) ?_); refine put_here rfl ?_; (repeat refine put_size ?_); exact of_decide_eq_true rfl) (by decide)) ?_
        refine mixS_skip rfl (unwanted_at (g := 21) (b := true) (t := 44) (c := false) rfl rfl (by (repeat refine put_far (by decide) ?_); refine put_here rfl ?_; (repeat refine put_size ?_); exact of_decide_eq_true rfl) (by decide)) ?_
        refine mixS_skip rfl (unwanted_at (g := 21) (b := true) (t := 44) (c := false) rfl rfl (by (repeat refine put_far (by decide) ?_); refine put_here rfl ?_; (repeat refine put_size ?_); exact of_decide_eq_true rfl) (by decide)) ?_
        refine mixS_skip rfl (unwanted_at (g := 21) (b := true) (t := 44) (c := false) rfl rfl (by (repeat refine put_far (by decide) ?_); refine put_here rfl ?_; (repeat refine put_size ?_); exact of_decide_eq_true rfl) (by decide)) ?_
        refine mixS_skip rfl (unwanted_at (g := 21) (b := true) (t := 44) (c := false) rfl rfl (by (repeat refine put_far (by decide) ?_); refine put_here rfl ?_; (repeat refine put_size ?_); exact of_decide_eq_true rfl) (by decide)) ?_
        refine mixS_skip rfl (unwanted_at (g := 21) (b := true) (t := 44) (c := false) rfl rfl (by (repeat refine put_far (by decide) ?_); refine put_here rfl ?_; (repeat refine put_size ?_); exact of_decide_eq_true rfl) (by decide)) ?_
        refine mixS_take (.bool false) rfl (wanted_at (g := 16) (b := false) (t := 39) rfl rfl (by (repeat refine put_far (by decide) ?_); refine put_here rfl ?_; (repeat refine put_size ?_); exact of_decide_eq_true rfl)) (fun u hu => by go_simp) ?_
        show wpList _ _ _ _ _ _
        go_wp2
        go_roundg (N - (q + 1))
        case measure => omega
        case rel => exact ⟨q + 1, by omega, rfl, by go_num, HB2.out⟩
      · obtain ⟨j, hj⟩ : ∃ j, q = nk + j := ⟨q - nk, by omega⟩
        have hj12 : j < 12 := by omega
        have j2 : ¬ (q : Int) < (nk : Int) := by omega
        have j3 : (nk : Int) ≤ (q : Int) := by omega
        have j4 : (q : Int) - (nk : Int) = (j : Int) := by omega
        have d0 := HM.out (j * 4 + 0) _ (mark_at (f := (fun i : Nat => [.string { data := #[] }, .slice none 0 0, .slice none 0 0, .int .i64 (8000024 + (i : Int))])) (S := 4) (fun _ => rfl) hj12 (by omega))
        rw [show nk * 4 + (j * 4 + 0) = q * 4 by omega] at d0
        have m0 : wr.cell? ⟨g, q * 4, none⟩ = some (.string { data := #[] }) := cell_on rfl HBW.out d0
        have d1 := HM.out (j * 4 + 1) _ (mark_at (f := (fun i : Nat => [.string { data := #[] }, .slice none 0 0, .slice none 0 0, .int .i64 (8000024 + (i : Int))])) (S := 4) (fun _ => rfl) hj12 (by omega))
        rw [show nk * 4 + (j * 4 + 1) = q * 4 + 1 by omega] at d1
        have m1 : wr.cell? ⟨g, q * 4 + 1, none⟩ = some (.slice none 0 0) := cell_on rfl HBW.out d1
        have d2 := HM.out (j * 4 + 2) _ (mark_at (f := (fun i : Nat => [.string { data := #[] }, .slice none 0 0, .slice none 0 0, .int .i64 (8000024 + (i : Int))])) (S := 4) (fun _ => rfl) hj12 (by omega))
        rw [show nk * 4 + (j * 4 + 2) = q * 4 + 2 by omega] at d2
        have m2 : wr.cell? ⟨g, q * 4 + 2, none⟩ = some (.slice none 0 0) := cell_on rfl HBW.out d2
        have d3 := HM.out (j * 4 + 3) _ (mark_at (f := (fun i : Nat => [.string { data := #[] }, .slice none 0 0, .slice none 0 0, .int .i64 (8000024 + (i : Int))])) (S := 4) (fun _ => rfl) hj12 (by omega))
        rw [show nk * 4 + (j * 4 + 3) = q * 4 + 3 by omega] at d3
        have m3 : wr.cell? ⟨g, q * 4 + 3, none⟩ = some (.int .i64 (8000024 + (j : Int))) := cell_on rfl HBW.out d3
        have HSM := Lib.hid (fun (u : World) (_ : Below w.heap.size w u) => show Calls Tryz.prog 63 #[.agg #[.string { data := #[] }, .slice none 0 0, .slice none 0 0, .int .i64 (8000024 + (j : Int))], .agg #[.string { data := #[] }, .slice none 0 0, .slice none 0 0, .int .i64 (8000024 + (j : Int))]] u fun e w' => e = .returned (.bool true) ∧ Below u.heap.size u w' from same_rule (x := ⟨[], [], [], (8000024 + (j : Int))⟩) (nil_row _ _ _) (nil_row _ _ _) (nil_row _ _ _) (nil_row _ _ _))
        have HMK := Lib.hid (fun u => mark_Rule j (by omega) u)
        clear d0 d1 d2 d3
        generalize 8000024 + (j : Int) = mj at *
        have HJ := Lib.hid hj; clear hj
        go_wp2_with fail
        refine wp_region_mixS (l1 := [_, _, _, _, _, _, _, _, _, _, _, _, _, _, _, _, _, _, _, _, _, _, _, _, _, _, _, _, _, _, _, _, _, _]) (l2 := [_]) [(0, true), (1, true), (2, true), (3, true), (4, true), (5, true), (6, true), (7, true), (8, true), (9, true), (10, true), (11, true), (12, true), (13, true), (14, true), (15, true), (16, true), (17, true), (18, true), (19, true), (20, true), (21, true), (22, true), (23, true), (24, true), (25, true), (26, true), (27, true), (28, true), (29, true), (30, false), (31, false), (32, true), (33, true)] (fun u => Below wr.heap.size wr u) (by kernel_rfl) (by kernel_rfl) (by repeat (first | refine loose_then ?_ | refine loose_block ?_ | exact loose_body (P := Tryz.prog) (fn := Tryz.f39))) ((Below.refl _ wr).drew) ?_
        refine mixS_take (.int .i64 (q : Int)) rfl rfl (fun u hu => by go_simp) ?_
        refine mixS_take (.slice p2 nk c2) rfl rfl (fun u hu => by go_simp) ?_
        refine mixS_take (.int .i64 (nk : Int)) rfl rfl (fun u hu => by go_simp) ?_
        refine mixS_take (.bool false) rfl rfl (fun u hu => by go_simp) ?_
        refine mixS_take (.bool false) rfl rfl (fun u hu => by go_simp) ?_
        refine mixS_skip rfl (unwanted_at (g := 4) (b := true) (t := 27) (c := false) rfl rfl (by (repeat refine put_far (by decide) ?_); refine put_here rfl ?_; (repeat refine put_size ?_); exact of_decide_eq_true rfl) (by decide)) ?_
        refine mixS_skip rfl (unwanted_at (g := 4) (b := true) (t := 27) (c := false) rfl rfl (by (repeat refine put_far (by decide) ?_); refine put_here rfl ?_; (repeat refine put_size ?_); exact of_decide_eq_true rfl) (by decide)) ?_
        refine mixS_skip rfl (unwanted_at (g := 4) (b := true) (t := 27) (c := false) rfl rfl (by (repeat refine put_far (by decide) ?_); refine put_here rfl ?_; (repeat refine put_size ?_); exact of_decide_eq_true rfl) (by decide)) ?_
        refine mixS_skip rfl (unwanted_at (g := 4) (b := true) (t := 27) (c := false) rfl rfl (by (repeat refine put_far (by decide) ?_); refine put_here rfl ?_; (repeat refine put_size ?_); exact of_decide_eq_true rfl) (by decide)) ?_
        refine mixS_skip rfl (unwanted_at (g := 4) (b := true) (t := 27) (c := false) rfl rfl (by (repeat refine put_far (by decide) ?_); refine put_here rfl ?_; (repeat refine put_size ?_); exact of_decide_eq_true rfl) (by decide)) ?_
        refine mixS_skip rfl (unwanted_at (g := 4) (b := true) (t := 27) (c := false) rfl rfl (by (repeat refine put_far (by decide) ?_); refine put_here rfl ?_; (repeat refine put_size ?_); exact of_decide_eq_true rfl) (by decide)) ?_
        refine mixS_skip rfl (unwanted_at (g := 4) (b := true) (t := 27) (c := false) rfl rfl (by (repeat refine put_far (by decide) ?_); refine put_here rfl ?_; (repeat refine put_size ?_); exact of_decide_eq_true rfl) (by decide)) ?_
        refine mixS_skip rfl (unwanted_at (g := 4) (b := true) (t := 27) (c := false) rfl rfl (by (repeat refine put_far (by decide) ?_); refine put_here rfl ?_; (repeat refine put_size ?_); exact of_decide_eq_true rfl) (by decide)) ?_
        refine mixS_skip rfl (unwanted_at (g := 4) (b := true) (t := 27) (c := false) rfl rfl (by (repeat refine put_far (by decide) ?_); refine put_here rfl ?_; (repeat refine put_size ?_); exact of_decide_eq_true rfl) (by decide)) ?_
        refine mixS_skip rfl (unwanted_at (g := 4) (b := true) (t := 27) (c := false) rfl rfl (by (repeat refine put_far (by decide) ?_); refine put_here rfl ?_; (repeat refine put_size ?_); exact of_decide_eq_true rfl) (by decide)) ?_
        refine mixS_take (.bool false) rfl rfl (fun u hu => by go_simp) ?_
        refine mixS_take (.bool false) rfl rfl (fun u hu => by go_simp) ?_
        refine mixS_take (.int .i64 (q : Int)) rfl (wanted_at (g := 16) (b := false) (t := 39) rfl rfl (by (repeat refine put_far (by decide) ?_); refine put_here rfl ?_; (repeat refine put_size ?_); exact of_decide_eq_true rfl)) (fun u hu => by go_simp) ?_
        refine mixS_take (.slice p2 nk c2) rfl (wanted_at (g := 16) (b := false) (t := 39) rfl rfl (by (repeat refine put_far (by decide) ?_); refine put_here rfl ?_; (repeat refine put_size ?_); exact of_decide_eq_true rfl)) (fun u hu => by go_simp) ?_
        refine mixS_take (.int .i64 (nk : Int)) rfl (wanted_at (g := 16) (b := false) (t := 39) rfl rfl (by (repeat refine put_far (by decide) ?_); refine put_here rfl ?_; (repeat refine put_size ?_); exact of_decide_eq_true rfl)) (fun u hu => by go_simp) ?_
        refine mixS_take (.bool true) rfl (wanted_at (g := 16) (b := false) (t := 39) rfl rfl (by (repeat refine put_far (by decide) ?_); refine put_here rfl ?_; (repeat refine put_size ?_); exact of_decide_eq_true rfl)) (fun u hu => by go_simp) ?_
        refine mixS_take (.bool true) rfl (wanted_at (g := 16) (b := false) (t := 39) rfl rfl (by (repeat refine put_far (by decide) ?_); refine put_here rfl ?_; (repeat refine put_size ?_); exact of_decide_eq_true rfl)) (fun u hu => by go_simp) ?_
        refine mixS_take (.slice (some ⟨g, 0, none⟩) N N) rfl (wanted_at (g := 21) (b := true) (t := 44) rfl rfl (by (repeat refine put_far (by decide) ?_); refine put_here rfl ?_; (repeat refine put_size ?_); exact of_decide_eq_true rfl)) (fun u hu => by go_simp) ?_
        refine mixS_take (.int .i64 (q : Int)) rfl (wanted_at (g := 21) (b := true) (t := 44) rfl rfl (by (repeat refine put_far (by decide) ?_); refine put_here rfl ?_; (repeat refine put_size ?_); exact of_decide_eq_true rfl)) (fun u hu => by go_simp) ?_
        refine mixS_take (.pointer (some ⟨g, q * 4, none⟩)) rfl (wanted_at (g := 21) (b := true) (t := 44) rfl rfl (by (repeat refine put_far (by decide) ?_); refine put_here rfl ?_; (repeat refine put_size ?_); exact of_decide_eq_true rfl)) (fun u hu => by go_simp) ?_
        refine mixS_take (.agg #[.string { data := #[] }, .slice none 0 0, .slice none 0 0, .int .i64 mj]) rfl (wanted_at (g := 21) (b := true) (t := 44) rfl rfl (by (repeat refine put_far (by decide) ?_); refine put_here rfl ?_; (repeat refine put_size ?_); exact of_decide_eq_true rfl)) (fun u hu => by have e0 := cell_on rfl hu m0; have e1 := cell_on rfl hu m1; have e2 := cell_on rfl hu m2; have e3 := cell_on rfl hu m3; go_simp) ?_
        refine mixS_take (.int .i64 (q : Int)) rfl (wanted_at (g := 21) (b := true) (t := 44) rfl rfl (by (repeat refine put_far (by decide) ?_); refine put_here rfl ?_; (repeat refine put_size ?_); exact of_decide_eq_true rfl)) (fun u hu => by go_simp) ?_
        refine mixS_take (.slice p2 nk c2) rfl (wanted_at (g := 21) (b := true) (t := 44) rfl rfl (by (repeat refine put_far (by decide) ?_); refine put_here rfl ?_; (repeat refine put_size ?_); exact of_decide_eq_true rfl)) (fun u hu => by go_simp) ?_
        refine mixS_take (.int .i64 (nk : Int)) rfl (wanted_at (g := 21) (b := true) (t := 44) rfl rfl (by (repeat refine put_far (by decide) ?_); refine put_here rfl ?_; (repeat refine put_size ?_); exact of_decide_eq_true rfl)) (fun u hu => by go_simp) ?_
        refine mixS_take (.int .i64 (j : Int)) rfl (wanted_at (g := 21) (b := true) (t := 44) rfl rfl (by (repeat refine put_far (by decide) ?_); refine put_here rfl ?_; (repeat refine put_size ?_); exact of_decide_eq_true rfl)) (fun u hu => by go_simp; exact IntWalk.i64_in _ ⟨by omega, by omega⟩) ?_
        have HBD := Lib.hid (HBW.out.drew)
        clear m0 m1 m2 m3
        refine mixS_go rfl (wanted_at (g := 21) (b := true) (t := 44) rfl rfl (by (repeat refine put_far (by decide) ?_); refine put_here rfl ?_; (repeat refine put_size ?_); exact of_decide_eq_true rfl)) fun K hK => wp_go (f := 47) (args := #[.int .i64 1, .int .i64 (j : Int)]) (by go_simp) ((HMK.out _).mono ?_)
        rintro e w2 ⟨rfl, hb⟩
        have HB2 := Lib.hid (HBD.out.trans (hb.mono HBD.out.size))
        have HBR2 := Lib.hid (show Below wr.heap.size wr w2 from ((Below.refl _ wr).drew).trans (hb.mono (by simp)))
        refine hK.out _ _ HBR2.out ?_
        clear hK hb
        refine mixS_go rfl (wanted_at (g := 21) (b := true) (t := 44) rfl rfl (by (repeat refine put_far (by decide) ?_); refine put_here rfl ?_; (repeat refine put_size ?_); exact of_decide_eq_true rfl)) fun K hK => wp_go (f := 63) (args := #[(.agg #[.string { data := #[] }, .slice none 0 0, .slice none 0 0, .int .i64 mj]), (.agg #[.string { data := #[] }, .slice none 0 0, .slice none 0 0, .int .i64 mj])]) (by go_simp) ((HSM.out _ HB2.out).mono ?_)
        rintro e w3 ⟨rfl, hb⟩
        have HB3 := Lib.hid (HB2.out.trans (hb.mono HB2.out.size))
        refine hK.out _ _ (HBR2.out.trans (hb.mono HBR2.out.size)) ?_
        clear hK hb
        refine mixS_take (.bool false) rfl (wanted_at (g := 21) (b := true) (t := 44) rfl rfl (by (repeat refine put_far (by decide) ?_); refine put_here rfl ?_; (repeat refine put_size ?_); exact of_decide_eq_true rfl)) (fun u hu => by go_simp) ?_
        refine mixS_take (.bool false) rfl (wanted_at (g := 16) (b := false) (t := 39) rfl rfl (by (repeat refine put_far (by decide) ?_); refine put_here rfl ?_; (repeat refine put_size ?_); exact of_decide_eq_true rfl)) (fun u hu => by go_simp) ?_
        show wpList _ _ _ _ _ _
        go_wp2
        go_roundg (N - (q + 1))
        case measure => omega
        case rel => exact ⟨q + 1, by omega, rfl, by go_num, HB3.out⟩
    · obtain rfl : q = N := by omega
      go_wp2
      go_ret
      exact ⟨rfl, HBW.out⟩
theorem kept_ru (x : Ru) (ho : RuOk x) : KeptOKRule x := fun _ _ _ _ _ _ hg0 hr0 hg1 hr1 => kept_Rule hg0 hr0 hg1 hr1 ho
end Go.Proofs.YtghebacphjglbaaGreat.SrcE
/- gristmillkit.KeptSource, at what LentSource told: true. (Printed by src2_gen.py.) -/
namespace Go.Proofs.YtghebacphjglbaaGreat.SrcF
open Go Go.RowKit Go.Proofs.YtghebacphjglbaaGreat.Lexy Go.Proofs.YtghebacphjglbaaGreat.LexA Go.Proofs.YtghebacphjglbaaGreat.LexB Go.Proofs.YtghebacphjglbaaGreat.LexC Go.Proofs.YtghebacphjglbaaGreat.LexD Go.Proofs.YtghebacphjglbaaGreat.LexE Go.Proofs.YtghebacphjglbaaGreat.LexF Go.Proofs.YtghebacphjglbaaGreat.LexG Go.Proofs.YtghebacphjglbaaGreat.Heap Go.Proofs.YtghebacphjglbaaGreat.Dat Go.Proofs.YtghebacphjglbaaGreat.Ready Go.Proofs.YtghebacphjglbaaGreat.ReadA Go.Proofs.YtghebacphjglbaaGreat.ReadC Go.Proofs.YtghebacphjglbaaGreat.ReadH Go.Proofs.YtghebacphjglbaaGreat.ReadI Go.Proofs.YtghebacphjglbaaGreat.ReadM Go.Proofs.YtghebacphjglbaaGreat.ReadO Go.Proofs.YtghebacphjglbaaGreat.Same Go.Proofs.YtghebacphjglbaaGreat.Cut Go.Proofs.YtghebacphjglbaaGreat.LentK Go.Proofs.YtghebacphjglbaaGreat.SrcA Go.Proofs.YtghebacphjglbaaGreat.SrcB Go.Proofs.YtghebacphjglbaaGreat.SrcC Go.Proofs.YtghebacphjglbaaGreat.SrcD Go.Proofs.YtghebacphjglbaaGreat.SrcE

set_option maxRecDepth 100000 in
set_option maxHeartbeats 8000000 in
theorem kept_Decl {y : De} {w : World} {B g0 : Nat} {s0 : Value} (hg0 : LentD mkV w B (.row 9 1 y.names.length (nmsD y.names)) (.slice (some ⟨g0, 0, none⟩) y.names.length (y.names.length + 12))) (hr0 : Reads w (.row 9 1 y.names.length (nmsD y.names)) s0) (ho : DeOk y) :
    Calls Tryz.prog 60 #[.agg #[.string (bs y.kind), .string (bs y.type), .slice (some ⟨g0, 0, none⟩) y.names.length (y.names.length + 12), .int .i64 y.at_], .agg #[.string (bs y.kind), .string (bs y.type), s0, .int .i64 y.at_]] w fun e w' => e = .returned (.bool true) ∧ Below w.heap.size w w' := by
  obtain ⟨x0, y0, rfl⟩ := Reads.slice hr0
  have HS := Lib.hid (fun (u : World) (hu : Below w.heap.size w u) => show Calls Tryz.prog 61 #[.agg #[.string (bs y.kind), .string (bs y.type), .slice (some ⟨g0, 0, none⟩) y.names.length (y.names.length + 12), .int .i64 y.at_], .agg #[.string (bs y.kind), .string (bs y.type), .slice x0 y.names.length y0, .int .i64 y.at_]] u fun e w' => e = .returned (.bool true) ∧ Below u.heap.size u w' from same_decl (x := y) (hg0.below hu).reads (Reads.below hu hr0))
  have HK0 := Lib.hid (fun (u : World) (hu : Below w.heap.size w u) => kepts_Texts (hg0.below hu) (Reads.below hu hr0) ho)
  clear hg0 hr0 ho
  generalize (bs y.kind) = z0 at *
  generalize (bs y.type) = z1 at *
  generalize y.at_ = z3 at *
  generalize y.names.length = n0x at *
  have HB := Lib.hid (((Below.refl w.heap.size w).alloc (Nat.le_refl _) (.cells #[.string z0, .string z1, .slice (some ⟨g0, 0, none⟩) n0x (n0x + 12), .int .i64 z3] 62)).alloc (by simp) (.cells #[.string z0, .string z1, .slice x0 n0x y0, .int .i64 z3] 62))
  have HSZ := Lib.hid (show ((w.alloc (.cells #[.string z0, .string z1, .slice (some ⟨g0, 0, none⟩) n0x (n0x + 12), .int .i64 z3] 62)).alloc (.cells #[.string z0, .string z1, .slice x0 n0x y0, .int .i64 z3] 62)).heap.size = w.heap.size + 2 by simp)
  have XB := Lib.hid (show ((w.alloc (.cells #[.string z0, .string z1, .slice (some ⟨g0, 0, none⟩) n0x (n0x + 12), .int .i64 z3] 62)).alloc (.cells #[.string z0, .string z1, .slice x0 n0x y0, .int .i64 z3] 62)).heap[w.heap.size + 1]? = some (.cells #[.string z0, .string z1, .slice x0 n0x y0, .int .i64 z3] 62 (0, 0)) from alloc2 w _ _)
  have XA := Lib.hid (show ((w.alloc (.cells #[.string z0, .string z1, .slice (some ⟨g0, 0, none⟩) n0x (n0x + 12), .int .i64 z3] 62)).alloc (.cells #[.string z0, .string z1, .slice x0 n0x y0, .int .i64 z3] 62)).heap[w.heap.size]? = some (.cells #[.string z0, .string z1, .slice (some ⟨g0, 0, none⟩) n0x (n0x + 12), .int .i64 z3] 62 (0, 0)) from (Below.heap_alloc _ _ _ (by simp)).trans (heap_alloc_new _ _))
  go_enter Tryz.func60, Tryz.ntmps60
  go_upto_region 1 with fail
  generalize ((w.alloc (.cells #[.string z0, .string z1, .slice (some ⟨g0, 0, none⟩) n0x (n0x + 12), .int .i64 z3] 62)).alloc (.cells #[.string z0, .string z1, .slice x0 n0x y0, .int .i64 z3] 62)) = W at *
  have hl0 : w.heap.size + 1 < W.heap.size := by rw [HSZ.out]; omega
  generalize hH : w.heap.size = H at *
  have a0 : W.cell? ⟨H, 0, none⟩ = some (.string z0) := cell_of_row W H 0 _ _ (0, 0) XA.out
  have b0 : W.cell? ⟨H + 1, 0, none⟩ = some (.string z0) := cell_of_row W (H + 1) 0 _ _ (0, 0) XB.out
  have a1 : W.cell? ⟨H, 1, none⟩ = some (.string z1) := cell_of_row W H 1 _ _ (0, 0) XA.out
  have b1 : W.cell? ⟨H + 1, 1, none⟩ = some (.string z1) := cell_of_row W (H + 1) 1 _ _ (0, 0) XB.out
  have a2 : W.cell? ⟨H, 2, none⟩ = some (.slice (some ⟨g0, 0, none⟩) n0x (n0x + 12)) := cell_of_row W H 2 _ _ (0, 0) XA.out
  have b2 : W.cell? ⟨H + 1, 2, none⟩ = some (.slice x0 n0x y0) := cell_of_row W (H + 1) 2 _ _ (0, 0) XB.out
  have a3 : W.cell? ⟨H, 3, none⟩ = some (.int .i64 z3) := cell_of_row W H 3 _ _ (0, 0) XA.out
  have b3 : W.cell? ⟨H + 1, 3, none⟩ = some (.int .i64 z3) := cell_of_row W (H + 1) 3 _ _ (0, 0) XB.out
  go_wp2_with (first
    | (go_at_call 61; go_must (refine (HS.out _ HB.out).mono ?_; rintro e w2 ⟨rfl, hb⟩; clear a0 b0 a1 b1 a2 b2 a3 b3; have a0 := cell_of_row w2 H 0 _ _ (0, 0) ((hb.block H (by omega)).trans XA.out); have b0 := cell_of_row w2 (H + 1) 0 _ _ (0, 0) ((hb.block (H + 1) (by omega)).trans XB.out); have a1 := cell_of_row w2 H 1 _ _ (0, 0) ((hb.block H (by omega)).trans XA.out); have b1 := cell_of_row w2 (H + 1) 1 _ _ (0, 0) ((hb.block (H + 1) (by omega)).trans XB.out); have a2 := cell_of_row w2 H 2 _ _ (0, 0) ((hb.block H (by omega)).trans XA.out); have b2 := cell_of_row w2 (H + 1) 2 _ _ (0, 0) ((hb.block (H + 1) (by omega)).trans XB.out); have a3 := cell_of_row w2 H 3 _ _ (0, 0) ((hb.block H (by omega)).trans XA.out); have b3 := cell_of_row w2 (H + 1) 3 _ _ (0, 0) ((hb.block (H + 1) (by omega)).trans XB.out); have HBs := Lib.hid hb; have HB0 := Lib.hid (HB.out.trans (hb.mono (by omega))); clear hb))
    | (go_at_call 75; go_must (refine (HK0.out _ HB0.out).mono ?_; rintro e w3 ⟨rfl, hb⟩; clear a0 b0 a1 b1 a2 b2 a3 b3; have hbb := HBs.out.trans (hb.mono HBs.out.size); have a0 := cell_of_row w3 H 0 _ _ (0, 0) ((hbb.block H (by omega)).trans XA.out); have b0 := cell_of_row w3 (H + 1) 0 _ _ (0, 0) ((hbb.block (H + 1) (by omega)).trans XB.out); have a1 := cell_of_row w3 H 1 _ _ (0, 0) ((hbb.block H (by omega)).trans XA.out); have b1 := cell_of_row w3 (H + 1) 1 _ _ (0, 0) ((hbb.block (H + 1) (by omega)).trans XB.out); have a2 := cell_of_row w3 H 2 _ _ (0, 0) ((hbb.block H (by omega)).trans XA.out); have b2 := cell_of_row w3 (H + 1) 2 _ _ (0, 0) ((hbb.block (H + 1) (by omega)).trans XB.out); have a3 := cell_of_row w3 H 3 _ _ (0, 0) ((hbb.block H (by omega)).trans XA.out); have b3 := cell_of_row w3 (H + 1) 3 _ _ (0, 0) ((hbb.block (H + 1) (by omega)).trans XB.out); clear HBs; have HBs := Lib.hid hbb; have HB1 := Lib.hid (HB0.out.trans (hb.mono (by have := HB0.out.size; omega))); clear hb hbb)))
  go_ret
  exact ⟨rfl, by have := HB1.out; rw [hH]; exact this⟩
theorem lcells_Decl {w : World} {B g o : Nat} {l : List De} (h : LentL mkV w B g o (desD l)) {k : Nat} (hk : k < l.length) :
    ∃ g0, w.cell? ⟨g, o + k * 4, none⟩ = some (.string (bs (l[k]'hk).kind)) ∧ w.cell? ⟨g, o + k * 4 + 1, none⟩ = some (.string (bs (l[k]'hk).type)) ∧ w.cell? ⟨g, o + k * 4 + 2, none⟩ = some (.slice (some ⟨g0, 0, none⟩) (l[k]'hk).names.length ((l[k]'hk).names.length + 12)) ∧ w.cell? ⟨g, o + k * 4 + 3, none⟩ = some (.int .i64 (l[k]'hk).at_) ∧ LentD mkV w B (.row 9 1 (l[k]'hk).names.length (nmsD (l[k]'hk).names)) (.slice (some ⟨g0, 0, none⟩) (l[k]'hk).names.length ((l[k]'hk).names.length + 12)) := by
  rw [desD_flat] at h
  obtain ⟨us, hu, hc⟩ := elem_lent deD_len h hk
  obtain ⟨u0, _, rfl, h0, ⟨u1, _, rfl, h1, ⟨u2, _, rfl, h2, ⟨u3, _, rfl, h3, rfl⟩⟩⟩⟩ := hu
  rw [LentD.lit_iff] at h0
  subst h0
  rw [LentD.lit_iff] at h1
  subst h1
  obtain ⟨g0, rfl, _⟩ := lent_slice h2
  rw [LentD.lit_iff] at h3
  subst h3
  exact ⟨g0, hc 0 _ rfl, hc 1 _ rfl, hc 2 _ rfl, hc 3 _ rfl, h2⟩
def KeptOKDecl (y : De) : Prop := ∀ (B g0 : Nat) (s0 : Value) (w : World), LentD mkV w B (.row 9 1 y.names.length (nmsD y.names)) (.slice (some ⟨g0, 0, none⟩) y.names.length (y.names.length + 12)) → Reads w (.row 9 1 y.names.length (nmsD y.names)) s0 → Calls Tryz.prog 60 #[.agg #[.string (bs y.kind), .string (bs y.type), .slice (some ⟨g0, 0, none⟩) y.names.length (y.names.length + 12), .int .i64 y.at_], .agg #[.string (bs y.kind), .string (bs y.type), s0, .int .i64 y.at_]] w fun e w' => e = .returned (.bool true) ∧ Below w.heap.size w w'
set_option maxRecDepth 100000 in
set_option maxHeartbeats 16000000 in
theorem kepts_Decl {l : List De} {B : Nat} {v s : Value} {w : World} (ih : ∀ y ∈ l, KeptOKDecl y) (hv : LentD mkV w B (.row 62 4 l.length (desD l)) v) (h2 : Reads w (.row 62 4 l.length (desD l)) s) (hl : l.length ≤ 1000000) :
    Calls Tryz.prog 38 #[v, s] w fun e w' => e = .returned (.bool true) ∧ Below w.heap.size w w' := by
  obtain ⟨g, rfl, _, hL, hM⟩ := lent_slice hv
  obtain ⟨p2, c2, rfl⟩ := Reads.slice h2
  have HL := Lib.hid hL; have HM := Lib.hid hM; have H2 := Lib.hid h2; have HIH := Lib.hid ih; clear hv hL hM h2 ih
  generalize hnk : l.length = nk at *
  have HNK := Lib.hid hnk; clear hnk
  generalize hN : nk + 12 = N at *
  have e1 : ((nk : Int) + 12) = (N : Int) := by omega
  have e2 : (0 : Int) ≤ (N : Int) := by omega
  go_enter Tryz.func38, Tryz.ntmps38
  go_wp2_with fail
  go_loopg [6] N (fun gk i wr => ∃ q : Nat, q ≤ N ∧ gk = N - q ∧ i = .int .i64 (q : Int) ∧ Below w.heap.size w wr)
  case atStart => exact ⟨0, by omega, by omega, rfl, Below.refl _ _⟩
  case round =>
    obtain ⟨q, hq, rfl, rfl, hbw⟩ := hrel
    have HBW := Lib.hid hbw; clear hbw
    by_cases hlt : q < N
    · have j0 : (0 : Int) ≤ (q : Int) := by omega
      have j1 : (q : Int) < (N : Int) := by omega
      by_cases hqn : q < nk
      · have j2 : (q : Int) < (nk : Int) := by omega
        have j3 : ¬ (nk : Int) ≤ (q : Int) := by omega
        have hkl : q < l.length := by have := HNK.out; omega
        obtain ⟨g2, o2, rfl, r1⟩ := Reads.elems H2.out (by omega)
        obtain ⟨x0, y0, f0, f1, f2, f3, hr0⟩ := decl_cells r1 hkl
        obtain ⟨g0, d0, d1, d2, d3, hg0⟩ := lcells_Decl HL.out hkl
        have hmem : l[q]'hkl ∈ l := List.getElem_mem hkl
        have HY := Lib.hid (fun (u : World) (hu : Below w.heap.size w u) => HIH.out _ hmem B g0 _ u (hg0.below hu) (Reads.below hu hr0))
        rw [Nat.zero_add] at d0 d1 d2 d3
        have m0 := cell_on rfl HBW.out d0; have nn0 := cell_on rfl HBW.out f0
        have m1 := cell_on rfl HBW.out d1; have nn1 := cell_on rfl HBW.out f1
        have m2 := cell_on rfl HBW.out d2; have nn2 := cell_on rfl HBW.out f2
        have m3 := cell_on rfl HBW.out d3; have nn3 := cell_on rfl HBW.out f3
        clear d0 f0 d1 f1 d2 f2 d3 f3 r1 hg0 hr0 hmem
        generalize l[q]'hkl = y at *
        generalize (bs y.kind) = z0 at *
        generalize (bs y.type) = z1 at *
        generalize y.at_ = z3 at *
        generalize y.names.length = n0x at *
        go_wp2_with fail
        refine wp_region_mixS (l1 := [_, _, _, _, _, _, _, _, _, _, _, _, _, _, _, _, _, _, _, _, _, _, _, _, _, _, _, _, _, _, _, _, _, _]) (l2 := [_]) [(0, true), (1, true), (2, true), (3, true), (4, true), (5, true), (6, true), (7, true), (8, true), (9, true), (10, true), (11, true), (12, true), (13, false), (14, true), (15, true), (16, true), (17, true), (18, true), (19, true), (20, true), (21, true), (22, true), (23, true), (24, true), (25, true), (26, true), (27, true), (28, true), (29, true), (30, true), (31, true), (32, true), (33, true)] (fun u => Below wr.heap.size wr u) (by kernel_rfl) (by kernel_rfl) (by repeat (first | refine loose_then ?_ | refine loose_block ?_ | exact loose_body (P := Tryz.prog) (fn := Tryz.f38))) ((Below.refl _ wr).drew) ?_
        refine mixS_take (.int .i64 (q : Int)) rfl rfl (fun u hu => by go_simp) ?_
        refine mixS_take (.slice (some ⟨g2, o2, none⟩) nk c2) rfl rfl (fun u hu => by go_simp) ?_
        refine mixS_take (.int .i64 (nk : Int)) rfl rfl (fun u hu => by go_simp) ?_
        refine mixS_take (.bool true) rfl rfl (fun u hu => by go_simp) ?_
        refine mixS_take (.bool true) rfl rfl (fun u hu => by go_simp) ?_
        refine mixS_take (.slice (some ⟨g, 0, none⟩) N N) rfl (wanted_at (g := 4) (b := true) (t := 27) rfl rfl (by (repeat refine put_far (by decide) ?_); refine put_here rfl ?_; (repeat refine put_size ?_); exact of_decide_eq_true rfl)) (fun u hu => by go_simp) ?_
        refine mixS_take (.int .i64 (q : Int)) rfl (wanted_at (g := 4) (b := true) (t := 27) rfl rfl (by (repeat refine put_far (by decide) ?_); refine put_here rfl ?_; (repeat refine put_size ?_); exact of_decide_eq_true rfl)) (fun u hu => by go_simp) ?_
        refine mixS_take (.pointer (some ⟨g, q * 4, none⟩)) rfl (wanted_at (g := 4) (b := true) (t := 27) rfl rfl (by (repeat refine put_far (by decide) ?_); refine put_here rfl ?_; (repeat refine put_size ?_); exact of_decide_eq_true rfl)) (fun u hu => by go_simp) ?_
        refine mixS_take (.agg #[.string z0, .string z1, .slice (some ⟨g0, 0, none⟩) n0x (n0x + 12), .int .i64 z3]) rfl (wanted_at (g := 4) (b := true) (t := 27) rfl rfl (by (repeat refine put_far (by decide) ?_); refine put_here rfl ?_; (repeat refine put_size ?_); exact of_decide_eq_true rfl)) (fun u hu => by have e0 := cell_on rfl hu m0; have e1 := cell_on rfl hu m1; have e2 := cell_on rfl hu m2; have e3 := cell_on rfl hu m3; go_simp) ?_
        refine mixS_take (.slice (some ⟨g2, o2, none⟩) nk c2) rfl (wanted_at (g := 4) (b := true) (t := 27) rfl rfl (by (repeat refine put_far (by decide) ?_); refine put_here rfl ?_; (repeat refine put_size ?_); exact of_decide_eq_true rfl)) (fun u hu => by go_simp) ?_
        refine mixS_take (.int .i64 (q : Int)) rfl (wanted_at (g := 4) (b := true) (t := 27) rfl rfl (by (repeat refine put_far (by decide) ?_); refine put_here rfl ?_; (repeat refine put_size ?_); exact of_decide_eq_true rfl)) (fun u hu => by go_simp) ?_
        refine mixS_take (.pointer (some ⟨g2, o2 + q * 4, none⟩)) rfl (wanted_at (g := 4) (b := true) (t := 27) rfl rfl (by (repeat refine put_far (by decide) ?_); refine put_here rfl ?_; (repeat refine put_size ?_); exact of_decide_eq_true rfl)) (fun u hu => by go_simp) ?_
        refine mixS_take (.agg #[.string z0, .string z1, .slice x0 n0x y0, .int .i64 z3]) rfl (wanted_at (g := 4) (b := true) (t := 27) rfl rfl (by (repeat refine put_far (by decide) ?_); refine put_here rfl ?_; (repeat refine put_size ?_); exact of_decide_eq_true rfl)) (fun u hu => by have e0 := cell_on rfl hu nn0; have e1 := cell_on rfl hu nn1; have e2 := cell_on rfl hu nn2; have e3 := cell_on rfl hu nn3; go_simp) ?_
        have HBD := Lib.hid (HBW.out.drew)
        clear m0 nn0 m1 nn1 m2 nn2 m3 nn3
        refine mixS_go rfl (wanted_at (g := 4) (b := true) (t := 27) rfl rfl (by (repeat refine put_far (by decide) ?_); refine put_here rfl ?_; (repeat refine put_size ?_); exact of_decide_eq_true rfl)) fun K hK => wp_go (f := 60) (args := #[(.agg #[.string z0, .string z1, .slice (some ⟨g0, 0, none⟩) n0x (n0x + 12), .int .i64 z3]), (.agg #[.string z0, .string z1, .slice x0 n0x y0, .int .i64 z3])]) (by go_simp) ((HY.out _ HBD.out).mono ?_)
        rintro e w2 ⟨rfl, hb⟩
        have HB2 := Lib.hid (HBD.out.trans (hb.mono HBD.out.size))
        refine hK.out _ _ (((Below.refl _ wr).drew).trans (hb.mono (by simp))) ?_
        clear hK hb
        refine mixS_take (.bool false) rfl (wanted_at (g := 4) (b := true) (t := 27) rfl rfl (by (repeat refine put_far (by decide) ?_); refine put_here rfl ?_; (repeat refine put_size ?_); exact of_decide_eq_true rfl)) (fun u hu => by go_simp) ?_
        refine mixS_take (.bool false) rfl rfl (fun u hu => by go_simp) ?_
        refine mixS_take (.bool false) rfl rfl (fun u hu => by go_simp) ?_
        refine mixS_take (.int .i64 (q : Int)) rfl (wanted_at (g := 16) (b := false) (t := 39) rfl rfl (by (repeat refine put_far (by decide) ?_); refine put_here rfl ?_; (repeat refine put_size ?_); exact of_decide_eq_true rfl)) (fun u hu => by go_simp) ?_
        refine mixS_take (.slice (some ⟨g2, o2, none⟩) nk c2) rfl (wanted_at (g := 16) (b := false) (t := 39) rfl rfl (by (repeat refine put_far (by decide) ?_); refine put_here rfl ?_; (repeat refine put_size ?_); exact of_decide_eq_true rfl)) (fun u hu => by go_simp) ?_
        refine mixS_take (.int .i64 (nk : Int)) rfl (wanted_at (g := 16) (b := false) (t := 39) rfl rfl (by (repeat refine put_far (by decide) ?_); refine put_here rfl ?_; (repeat refine put_size ?_); exact of_decide_eq_true rfl)) (fun u hu => by go_simp) ?_
        refine mixS_take (.bool false) rfl (wanted_at (g := 16) (b := false) (t := 39) rfl rfl (by (repeat refine put_far (by decide) ?_); refine put_here rfl ?_; (repeat refine put_size ?_); exact of_decide_eq_true rfl)) (fun u hu => by go_simp) ?_
        refine mixS_take (.bool false) rfl (wanted_at (g := 16) (b := false) (t := 39) rfl rfl (by (repeat refine put_far (by decide) ?_); refine put_here rfl ?_; (repeat refine put_size ?_); exact of_decide_eq_true rfl)) (fun u hu => by go_simp) ?_
        refine mixS_skip rfl (unwanted_at (g := 21) (b := true) (t := 44) (c := false) rfl rfl (by (repeat refine put_far (by decide) ?_); refine put_here rfl ?_; (repeat refine put_size ?_); exact of_decide_eq_true rfl) (by decide)) ?_
        refine mixS_skip rfl (unwanted_at (g := 21) (b := true) (t := 44) (c := false) rfl rfl (by (repeat refine put_far (by decide) ?_); refine put_here rfl ?_; (repeat refine put_size ?_); exact of_decide_eq_true rfl) (by decide)) ?_
        refine mixS_skip rfl (unwanted_at (g := 21) (b := true) (t := 44) (c := false) rfl rfl (by (repeat refine put_far (by decide) ?_); refine put_here rfl ?_; (repeat refine put_size ?_); exact of_decide_eq_true rfl) (by decide)) ?_
        refine mixS_skip rfl (unwanted_at (g := 21) (b := true) (t := 44) (c := false) rfl rfl (by (repeat refine put_far (by decide) ?_); refine put_here rfl ?_; (repeat refine put_size ?_); exact of_decide_eq_true rfl) (by decide)) ?_
        refine mixS_skip rfl (unwanted_at (g := 21) (b := true) (t := 44) (c := false) rfl rfl (by (repeat refine put_far (by decide) ?_); refine put_here rfl ?_; (repeat refine put_size ?_); exact of_decide_eq_true rfl) (by decide)) ?_
        refine mixS_skip rfl (unwanted_at (g := 21) (b := true) (t := 44) (c := false) rfl rfl (by (repeat refine put_far (by decide) ?_); refine put_here rfl ?_; (repeat refine put_size ?_); exact of_decide_eq_true rfl) (by decide)) ?_
        refine mixS_skip rfl (unwanted_at (g := 21) (b := true) (t := 44) (c := false) rfl rfl (by (repeat refine put_far (by decide) ?_); refine put_here rfl ?_; (repeat refine put_size ?_); exact of_decide_eq_true rfl) (by decide)) ?_
        refine mixS_skip rfl (unwanted_at (g := 21) (b := true) (t := 44) (c := false) rfl rfl (by (repeat refine put_far (by decide) ?_); refine put_here rfl ?_; (repeat refine put_size ?_); exact of_decide_eq_true rfl) (by decide)) ?_
        refine mixS_skip rfl (unwanted_at (g := 21) (b := true) (t := 44) (c := false) rfl rfl (by (repeat refine put_far (by decide) ?_); refine put_here rfl ?_; (repeat refine put_size ?_); exact of_decide_eq_true rfl) (by decide)) ?_
        refine mixS_skip rfl (unwanted_at (g := 21) (b := true) (t := 44) (c := false) rfl rfl (by (repeat refine put_far (by decide) ?_); refine put_here rfl ?_; (repeat refine put_size ?_); exact of_decide_eq_true rfl) (by decide)) ?_
        refine mixS_skip rfl (unwanted_at (g := 21) (b := true) (t := 44) (c := false) rfl rfl (by (repeat refine put_far (by decide) ?_); refine put_here rfl ?_; (repeat refine put_size ?_); exact of_decide_eq_true rfl) (by decide)) ?_
        refine mixS_take (.bool false) rfl (wanted_at (g := 16) (b := false) (t := 39) rfl rfl (by (repeat refine put_far (by decide) ?_); refine put_here rfl ?_; (repeat refine put_size ?_); exact of_decide_eq_true rfl)) (fun u hu => by go_simp) ?_
        show wpList _ _ _ _ _ _
        go_wp2
        go_roundg (N - (q + 1))
        case measure => omega
        case rel => exact ⟨q + 1, by omega, rfl, by go_num, HB2.out⟩
      · obtain ⟨j, hj⟩ : ∃ j, q = nk + j := ⟨q - nk, by omega⟩
        have hj12 : j < 12 := by omega
        have j2 : ¬ (q : Int) < (nk : Int) := by omega
        have j3 : (nk : Int) ≤ (q : Int) := by omega
        have j4 : (q : Int) - (nk : Int) = (j : Int) := by omega
        have d0 := HM.out (j * 4 + 0) _ (mark_at (f := (fun i : Nat => [.string { data := #[] }, .string { data := #[] }, .slice none 0 0, .int .i64 (8000024 + (i : Int))])) (S := 4) (fun _ => rfl) hj12 (by omega))
        rw [show nk * 4 + (j * 4 + 0) = q * 4 by omega] at d0
        have m0 : wr.cell? ⟨g, q * 4, none⟩ = some (.string { data := #[] }) := cell_on rfl HBW.out d0
        have d1 := HM.out (j * 4 + 1) _ (mark_at (f := (fun i : Nat => [.string { data := #[] }, .string { data := #[] }, .slice none 0 0, .int .i64 (8000024 + (i : Int))])) (S := 4) (fun _ => rfl) hj12 (by omega))
        rw [show nk * 4 + (j * 4 + 1) = q * 4 + 1 by omega] at d1
        have m1 : wr.cell? ⟨g, q * 4 + 1, none⟩ = some (.string { data := #[] }) := cell_on rfl HBW.out d1
        have d2 := HM.out (j * 4 + 2) _ (mark_at (f := (fun i : Nat => [.string { data := #[] }, .string { data := #[] }, .slice none 0 0, .int .i64 (8000024 + (i : Int))])) (S := 4) (fun _ => rfl) hj12 (by omega))
        rw [show nk * 4 + (j * 4 + 2) = q * 4 + 2 by omega] at d2
        have m2 : wr.cell? ⟨g, q * 4 + 2, none⟩ = some (.slice none 0 0) := cell_on rfl HBW.out d2
        have d3 := HM.out (j * 4 + 3) _ (mark_at (f := (fun i : Nat => [.string { data := #[] }, .string { data := #[] }, .slice none 0 0, .int .i64 (8000024 + (i : Int))])) (S := 4) (fun _ => rfl) hj12 (by omega))
        rw [show nk * 4 + (j * 4 + 3) = q * 4 + 3 by omega] at d3
        have m3 : wr.cell? ⟨g, q * 4 + 3, none⟩ = some (.int .i64 (8000024 + (j : Int))) := cell_on rfl HBW.out d3
        have HSM := Lib.hid (fun (u : World) (_ : Below w.heap.size w u) => show Calls Tryz.prog 61 #[.agg #[.string { data := #[] }, .string { data := #[] }, .slice none 0 0, .int .i64 (8000024 + (j : Int))], .agg #[.string { data := #[] }, .string { data := #[] }, .slice none 0 0, .int .i64 (8000024 + (j : Int))]] u fun e w' => e = .returned (.bool true) ∧ Below u.heap.size u w' from same_decl (x := ⟨[], [], [], (8000024 + (j : Int))⟩) (nil_row _ _ _) (nil_row _ _ _))
        have HMK := Lib.hid (fun u => mark_Decl j (by omega) u)
        clear d0 d1 d2 d3
        generalize 8000024 + (j : Int) = mj at *
        have HJ := Lib.hid hj; clear hj
        go_wp2_with fail
        refine wp_region_mixS (l1 := [_, _, _, _, _, _, _, _, _, _, _, _, _, _, _, _, _, _, _, _, _, _, _, _, _, _, _, _, _, _, _, _, _, _]) (l2 := [_]) [(0, true), (1, true), (2, true), (3, true), (4, true), (5, true), (6, true), (7, true), (8, true), (9, true), (10, true), (11, true), (12, true), (13, true), (14, true), (15, true), (16, true), (17, true), (18, true), (19, true), (20, true), (21, true), (22, true), (23, true), (24, true), (25, true), (26, true), (27, true), (28, true), (29, true), (30, false), (31, false), (32, true), (33, true)] (fun u => Below wr.heap.size wr u) (by kernel_rfl) (by kernel_rfl) (by repeat (first | refine loose_then ?_ | refine loose_block ?_ | exact loose_body (P := Tryz.prog) (fn := Tryz.f38))) ((Below.refl _ wr).drew) ?_
        refine mixS_take (.int .i64 (q : Int)) rfl rfl (fun u hu => by go_simp) ?_
        refine mixS_take (.slice p2 nk c2) rfl rfl (fun u hu => by go_simp) ?_
        refine mixS_take (.int .i64 (nk : Int)) rfl rfl (fun u hu => by go_simp) ?_
        refine mixS_take (.bool false) rfl rfl (fun u hu => by go_simp) ?_
        refine mixS_take (.bool false) rfl rfl (fun u hu => by go_simp) ?_
        refine mixS_skip rfl (unwanted_at (g := 4) (b := true) (t := 27) (c := false) rfl rfl (by (repeat refine put_far (by decide) ?_); refine put_here rfl ?_; (repeat refine put_size ?_); exact of_decide_eq_true rfl) (by decide)) ?_
        refine mixS_skip rfl (unwanted_at (g := 4) (b := true) (t := 27) (c := false) rfl rfl (by (repeat refine put_far (by decide) ?_); refine put_here rfl ?_; (repeat refine put_size ?_); exact of_decide_eq_true rfl) (by decide)) ?_
        refine mixS_skip rfl (unwanted_at (g := 4) (b := true) (t := 27) (c := false) rfl rfl (by (repeat refine put_far (by decide) ?_); refine put_here rfl ?_; (repeat refine put_size ?_); exact of_decide_eq_true rfl) (by decide)) ?_
        refine mixS_skip rfl (unwanted_at (g := 4) (b := true) (t := 27) (c := false) rfl rfl (by (repeat refine put_far (by decide) ?_); refine put_here rfl ?_; (repeat refine put_size ?_); exact of_decide_eq_true rfl) (by decide)) ?_
        refine mixS_skip rfl (unwanted_at (g := 4) (b := true) (t := 27) (c := false) rfl rfl (by (repeat refine put_far (by decide) ?_); refine put_here rfl ?_; (repeat refine put_size ?_); exact of_decide_eq_true rfl) (by decide)) ?_
        refine mixS_skip rfl (unwanted_at (g := 4) (b := true) (t := 27) (c := false) rfl rfl (by (repeat refine put_far (by decide) ?_); refine put_here rfl ?_; (repeat refine put_size ?_); exact of_decide_eq_true rfl) (by decide)) ?_
        refine mixS_skip rfl (unwanted_at (g := 4) (b := true) (t := 27) (c := false) rfl rfl (by (repeat refine put_far (by decide) ?_); refine put_here rfl ?_; (repeat refine put_size ?_); exact of_decide_eq_true rfl) (by decide)) ?_
        refine mixS_skip rfl (unwanted_at (g := 4) (b := true) (t := 27) (c := false) rfl rfl (by (repeat refine put_far (by decide) ?_); refine put_here rfl ?_; (repeat refine put_size ?_); exact of_decide_eq_true rfl) (by decide)) ?_
        refine mixS_skip rfl (unwanted_at (g := 4) (b := true) (t := 27) (c := false) rfl rfl (by (repeat refine put_far (by decide) ?_); refine put_here rfl ?_; (repeat refine put_size ?_); exact of_decide_eq_true rfl) (by decide)) ?_
        refine mixS_skip rfl (unwanted_at (g := 4) (b := true) (t := 27) (c := false) rfl rfl (by (repeat refine put_far (by decide) ?_); refine put_here rfl ?_; (repeat refine put_size ?_); exact of_decide_eq_true rfl) (by decide)) ?_
        refine mixS_take (.bool false) rfl rfl (fun u hu => by go_simp) ?_
        refine mixS_take (.bool false) rfl rfl (fun u hu => by go_simp) ?_
        refine mixS_take (.int .i64 (q : Int)) rfl (wanted_at (g := 16) (b := false) (t := 39) rfl rfl (by (repeat refine put_far (by decide) ?_); refine put_here rfl ?_; (repeat refine put_size ?_); exact of_decide_eq_true rfl)) (fun u hu => by go_simp) ?_
        refine mixS_take (.slice p2 nk c2) rfl (wanted_at (g := 16) (b := false) (t := 39) rfl rfl (by (repeat refine put_far (by decide) ?_); refine put_here rfl ?_; (repeat refine put_size ?_); exact of_decide_eq_true rfl)) (fun u hu => by go_simp) ?_
        refine mixS_take (.int .i64 (nk : Int)) rfl (wanted_at (g := 16) (b := false) (t := 39) rfl rfl (by (repeat refine put_far (by decide) ?_); refine put_here rfl ?_; (repeat refine put_size ?_); exact of_decide_eq_true rfl)) (fun u hu => by go_simp) ?_
        refine mixS_take (.bool true) rfl (wanted_at (g := 16) (b := false) (t := 39) rfl rfl (by (repeat refine put_far (by decide) ?_); refine put_here rfl ?_; (repeat refine put_size ?_); exact of_decide_eq_true rfl)) (fun u hu => by go_simp) ?_
        refine mixS_take (.bool true) rfl (wanted_at (g := 16) (b := false) (t := 39) rfl rfl (by (repeat refine put_far (by decide) ?_); refine put_here rfl ?_; (repeat refine put_size ?_); exact of_decide_eq_true rfl)) (fun u hu => by go_simp) ?_
        refine mixS_take (.slice (some ⟨g, 0, none⟩) N N) rfl (wanted_at (g := 21) (b := true) (t := 44) rfl rfl (by (repeat refine put_far (by decide) ?_); refine put_here rfl ?_; (repeat refine put_size ?_); exact of_decide_eq_true rfl)) (fun u hu => by go_simp) ?_
        refine mixS_take (.int .i64 (q : Int)) rfl (wanted_at (g := 21) (b := true) (t := 44) rfl rfl (by (repeat refine put_far (by decide) ?_); refine put_here rfl ?_; (repeat refine put_size ?_); exact of_decide_eq_true rfl)) (fun u hu => by go_simp) ?_
        refine mixS_take (.pointer (some ⟨g, q * 4, none⟩)) rfl (wanted_at (g := 21) (b := true) (t := 44) rfl rfl (by (repeat refine put_far (by decide) ?_); refine put_here rfl ?_; (repeat refine put_size ?_); exact of_decide_eq_true rfl)) (fun u hu => by go_simp) ?_
        refine mixS_take (.agg #[.string { data := #[] }, .string { data := #[] }, .slice none 0 0, .int .i64 mj]) rfl (wanted_at (g := 21) (b := true) (t := 44) rfl rfl (by (repeat refine put_far (by decide) ?_); refine put_here rfl ?_; (repeat refine put_size ?_); exact of_decide_eq_true rfl)) (fun u hu => by have e0 := cell_on rfl hu m0; have e1 := cell_on rfl hu m1; have e2 := cell_on rfl hu m2; have e3 := cell_on rfl hu m3; go_simp) ?_
        refine mixS_take (.int .i64 (q : Int)) rfl (wanted_at (g := 21) (b := true) (t := 44) rfl rfl (by (repeat refine put_far (by decide) ?_); refine put_here rfl ?_; (repeat refine put_size ?_); exact of_decide_eq_true rfl)) (fun u hu => by go_simp) ?_
        refine mixS_take (.slice p2 nk c2) rfl (wanted_at (g := 21) (b := true) (t := 44) rfl rfl (by (repeat refine put_far (by decide) ?_); refine put_here rfl ?_; (repeat refine put_size ?_); exact of_decide_eq_true rfl)) (fun u hu => by go_simp) ?_
        refine mixS_take (.int .i64 (nk : Int)) rfl (wanted_at (g := 21) (b := true) (t := 44) rfl rfl (by (repeat refine put_far (by decide) ?_); refine put_here rfl ?_; (repeat refine put_size ?_); exact of_decide_eq_true rfl)) (fun u hu => by go_simp) ?_
        refine mixS_take (.int .i64 (j : Int)) rfl (wanted_at (g := 21) (b := true) (t := 44) rfl rfl (by (repeat refine put_far (by decide) ?_); refine put_here rfl ?_; (repeat refine put_size ?_); exact of_decide_eq_true rfl)) (fun u hu => by go_simp; exact IntWalk.i64_in _ ⟨by omega, by omega⟩) ?_
        have HBD := Lib.hid (HBW.out.drew)
        clear m0 m1 m2 m3
        refine mixS_go rfl (wanted_at (g := 21) (b := true) (t := 44) rfl rfl (by (repeat refine put_far (by decide) ?_); refine put_here rfl ?_; (repeat refine put_size ?_); exact of_decide_eq_true rfl)) fun K hK => wp_go (f := 45) (args := #[.int .i64 1, .int .i64 (j : Int)]) (by go_simp) ((HMK.out _).mono ?_)
        rintro e w2 ⟨rfl, hb⟩
        have HB2 := Lib.hid (HBD.out.trans (hb.mono HBD.out.size))
        have HBR2 := Lib.hid (show Below wr.heap.size wr w2 from ((Below.refl _ wr).drew).trans (hb.mono (by simp)))
        refine hK.out _ _ HBR2.out ?_
        clear hK hb
        refine mixS_go rfl (wanted_at (g := 21) (b := true) (t := 44) rfl rfl (by (repeat refine put_far (by decide) ?_); refine put_here rfl ?_; (repeat refine put_size ?_); exact of_decide_eq_true rfl)) fun K hK => wp_go (f := 61) (args := #[(.agg #[.string { data := #[] }, .string { data := #[] }, .slice none 0 0, .int .i64 mj]), (.agg #[.string { data := #[] }, .string { data := #[] }, .slice none 0 0, .int .i64 mj])]) (by go_simp) ((HSM.out _ HB2.out).mono ?_)
        rintro e w3 ⟨rfl, hb⟩
        have HB3 := Lib.hid (HB2.out.trans (hb.mono HB2.out.size))
        refine hK.out _ _ (HBR2.out.trans (hb.mono HBR2.out.size)) ?_
        clear hK hb
        refine mixS_take (.bool false) rfl (wanted_at (g := 21) (b := true) (t := 44) rfl rfl (by (repeat refine put_far (by decide) ?_); refine put_here rfl ?_; (repeat refine put_size ?_); exact of_decide_eq_true rfl)) (fun u hu => by go_simp) ?_
        refine mixS_take (.bool false) rfl (wanted_at (g := 16) (b := false) (t := 39) rfl rfl (by (repeat refine put_far (by decide) ?_); refine put_here rfl ?_; (repeat refine put_size ?_); exact of_decide_eq_true rfl)) (fun u hu => by go_simp) ?_
        show wpList _ _ _ _ _ _
        go_wp2
        go_roundg (N - (q + 1))
        case measure => omega
        case rel => exact ⟨q + 1, by omega, rfl, by go_num, HB3.out⟩
    · obtain rfl : q = N := by omega
      go_wp2
      go_ret
      exact ⟨rfl, HBW.out⟩
theorem kept_de (x : De) (ho : DeOk x) : KeptOKDecl x := fun _ _ _ _ hg hr => kept_Decl hg hr ho
set_option maxRecDepth 100000 in
set_option maxHeartbeats 8000000 in
theorem kept_Text {y : Tx} {w : World} {B g0 g1 : Nat} {s0 s1 : Value} (hg0 : LentD mkV w B (.row 62 4 y.decls.length (desD y.decls)) (.slice (some ⟨g0, 0, none⟩) y.decls.length (y.decls.length + 12))) (hr0 : Reads w (.row 62 4 y.decls.length (desD y.decls)) s0) (hg1 : LentD mkV w B (.row 38 4 y.rules.length (rusD y.rules)) (.slice (some ⟨g1, 0, none⟩) y.rules.length (y.rules.length + 12))) (hr1 : Reads w (.row 38 4 y.rules.length (rusD y.rules)) s1) (ho : TxOk y) :
    Calls Tryz.prog 19 #[.agg #[.slice (some ⟨g0, 0, none⟩) y.decls.length (y.decls.length + 12), .slice (some ⟨g1, 0, none⟩) y.rules.length (y.rules.length + 12)], .agg #[s0, s1]] w fun e w' => e = .returned (.bool true) ∧ Below w.heap.size w w' := by
  obtain ⟨x0, y0, rfl⟩ := Reads.slice hr0
  obtain ⟨x1, y1, rfl⟩ := Reads.slice hr1
  have HS := Lib.hid (fun (u : World) (hu : Below w.heap.size w u) => show Calls Tryz.prog 37 #[.agg #[.slice (some ⟨g0, 0, none⟩) y.decls.length (y.decls.length + 12), .slice (some ⟨g1, 0, none⟩) y.rules.length (y.rules.length + 12)], .agg #[.slice x0 y.decls.length y0, .slice x1 y.rules.length y1]] u fun e w' => e = .returned (.bool true) ∧ Below u.heap.size u w' from same_source (x := y) (hg0.below hu).reads (Reads.below hu hr0) (hg1.below hu).reads (Reads.below hu hr1))
  have HK0 := Lib.hid (fun (u : World) (hu : Below w.heap.size w u) => kepts_Decl (fun x hx => kept_de x (ho.decls x hx)) (hg0.below hu) (Reads.below hu hr0) ho.n)
  have HK1 := Lib.hid (fun (u : World) (hu : Below w.heap.size w u) => kepts_Rule (fun x hx => kept_ru x (ho.rules x hx)) (hg1.below hu) (Reads.below hu hr1) ho.m)
  clear hg0 hr0 hg1 hr1 ho
  generalize y.decls.length = n0x at *
  generalize y.rules.length = n1x at *
  have HB := Lib.hid (((Below.refl w.heap.size w).alloc (Nat.le_refl _) (.cells #[.slice (some ⟨g0, 0, none⟩) n0x (n0x + 12), .slice (some ⟨g1, 0, none⟩) n1x (n1x + 12)] 28)).alloc (by simp) (.cells #[.slice x0 n0x y0, .slice x1 n1x y1] 28))
  have HSZ := Lib.hid (show ((w.alloc (.cells #[.slice (some ⟨g0, 0, none⟩) n0x (n0x + 12), .slice (some ⟨g1, 0, none⟩) n1x (n1x + 12)] 28)).alloc (.cells #[.slice x0 n0x y0, .slice x1 n1x y1] 28)).heap.size = w.heap.size + 2 by simp)
  have XB := Lib.hid (show ((w.alloc (.cells #[.slice (some ⟨g0, 0, none⟩) n0x (n0x + 12), .slice (some ⟨g1, 0, none⟩) n1x (n1x + 12)] 28)).alloc (.cells #[.slice x0 n0x y0, .slice x1 n1x y1] 28)).heap[w.heap.size + 1]? = some (.cells #[.slice x0 n0x y0, .slice x1 n1x y1] 28 (0, 0)) from alloc2 w _ _)
  have XA := Lib.hid (show ((w.alloc (.cells #[.slice (some ⟨g0, 0, none⟩) n0x (n0x + 12), .slice (some ⟨g1, 0, none⟩) n1x (n1x + 12)] 28)).alloc (.cells #[.slice x0 n0x y0, .slice x1 n1x y1] 28)).heap[w.heap.size]? = some (.cells #[.slice (some ⟨g0, 0, none⟩) n0x (n0x + 12), .slice (some ⟨g1, 0, none⟩) n1x (n1x + 12)] 28 (0, 0)) from (Below.heap_alloc _ _ _ (by simp)).trans (heap_alloc_new _ _))
  go_enter Tryz.func19, Tryz.ntmps19
  go_upto_region 1 with fail
  generalize ((w.alloc (.cells #[.slice (some ⟨g0, 0, none⟩) n0x (n0x + 12), .slice (some ⟨g1, 0, none⟩) n1x (n1x + 12)] 28)).alloc (.cells #[.slice x0 n0x y0, .slice x1 n1x y1] 28)) = W at *
  have hl0 : w.heap.size + 1 < W.heap.size := by rw [HSZ.out]; omega
  generalize hH : w.heap.size = H at *
  have a0 : W.cell? ⟨H, 0, none⟩ = some (.slice (some ⟨g0, 0, none⟩) n0x (n0x + 12)) := cell_of_row W H 0 _ _ (0, 0) XA.out
  have b0 : W.cell? ⟨H + 1, 0, none⟩ = some (.slice x0 n0x y0) := cell_of_row W (H + 1) 0 _ _ (0, 0) XB.out
  have a1 : W.cell? ⟨H, 1, none⟩ = some (.slice (some ⟨g1, 0, none⟩) n1x (n1x + 12)) := cell_of_row W H 1 _ _ (0, 0) XA.out
  have b1 : W.cell? ⟨H + 1, 1, none⟩ = some (.slice x1 n1x y1) := cell_of_row W (H + 1) 1 _ _ (0, 0) XB.out
  go_wp2_with (first
    | (go_at_call 37; go_must (refine (HS.out _ HB.out).mono ?_; rintro e w2 ⟨rfl, hb⟩; clear a0 b0 a1 b1; have a0 := cell_of_row w2 H 0 _ _ (0, 0) ((hb.block H (by omega)).trans XA.out); have b0 := cell_of_row w2 (H + 1) 0 _ _ (0, 0) ((hb.block (H + 1) (by omega)).trans XB.out); have a1 := cell_of_row w2 H 1 _ _ (0, 0) ((hb.block H (by omega)).trans XA.out); have b1 := cell_of_row w2 (H + 1) 1 _ _ (0, 0) ((hb.block (H + 1) (by omega)).trans XB.out); have HBs := Lib.hid hb; have HB0 := Lib.hid (HB.out.trans (hb.mono (by omega))); clear hb))
    | (go_at_call 38; go_must (refine (HK0.out _ HB0.out).mono ?_; rintro e w3 ⟨rfl, hb⟩; clear a0 b0 a1 b1; have hbb := HBs.out.trans (hb.mono HBs.out.size); have a0 := cell_of_row w3 H 0 _ _ (0, 0) ((hbb.block H (by omega)).trans XA.out); have b0 := cell_of_row w3 (H + 1) 0 _ _ (0, 0) ((hbb.block (H + 1) (by omega)).trans XB.out); have a1 := cell_of_row w3 H 1 _ _ (0, 0) ((hbb.block H (by omega)).trans XA.out); have b1 := cell_of_row w3 (H + 1) 1 _ _ (0, 0) ((hbb.block (H + 1) (by omega)).trans XB.out); clear HBs; have HBs := Lib.hid hbb; have HB1 := Lib.hid (HB0.out.trans (hb.mono (by have := HB0.out.size; omega))); clear hb hbb))
    | (go_at_call 39; go_must (refine (HK1.out _ HB1.out).mono ?_; rintro e w4 ⟨rfl, hb⟩; clear a0 b0 a1 b1; have hbb := HBs.out.trans (hb.mono HBs.out.size); have a0 := cell_of_row w4 H 0 _ _ (0, 0) ((hbb.block H (by omega)).trans XA.out); have b0 := cell_of_row w4 (H + 1) 0 _ _ (0, 0) ((hbb.block (H + 1) (by omega)).trans XB.out); have a1 := cell_of_row w4 H 1 _ _ (0, 0) ((hbb.block H (by omega)).trans XA.out); have b1 := cell_of_row w4 (H + 1) 1 _ _ (0, 0) ((hbb.block (H + 1) (by omega)).trans XB.out); clear HBs; have HBs := Lib.hid hbb; have HB2 := Lib.hid (HB1.out.trans (hb.mono (by have := HB1.out.size; omega))); clear hb hbb)))
  go_ret
  exact ⟨rfl, by have := HB2.out; rw [hH]; exact this⟩
end Go.Proofs.YtghebacphjglbaaGreat.SrcF
