/- gristmillkit.KeptWordRow, at what LentWordRow told: true. (Printed by src2_gen.py.) -/
import Derived.Test.YtghebacphjglbaaGreatSrcB
namespace Go.Proofs.YtghebacphjglbaaGreat.SrcC
open Go Go.RowKit Go.Proofs.YtghebacphjglbaaGreat.Lexy Go.Proofs.YtghebacphjglbaaGreat.LexA Go.Proofs.YtghebacphjglbaaGreat.LexB Go.Proofs.YtghebacphjglbaaGreat.LexC Go.Proofs.YtghebacphjglbaaGreat.LexD Go.Proofs.YtghebacphjglbaaGreat.LexE Go.Proofs.YtghebacphjglbaaGreat.LexF Go.Proofs.YtghebacphjglbaaGreat.LexG Go.Proofs.YtghebacphjglbaaGreat.Heap Go.Proofs.YtghebacphjglbaaGreat.Dat Go.Proofs.YtghebacphjglbaaGreat.Ready Go.Proofs.YtghebacphjglbaaGreat.ReadA Go.Proofs.YtghebacphjglbaaGreat.ReadC Go.Proofs.YtghebacphjglbaaGreat.ReadH Go.Proofs.YtghebacphjglbaaGreat.ReadI Go.Proofs.YtghebacphjglbaaGreat.ReadM Go.Proofs.YtghebacphjglbaaGreat.ReadO Go.Proofs.YtghebacphjglbaaGreat.Same Go.Proofs.YtghebacphjglbaaGreat.Cut Go.Proofs.YtghebacphjglbaaGreat.LentK Go.Proofs.YtghebacphjglbaaGreat.SrcA Go.Proofs.YtghebacphjglbaaGreat.SrcB

theorem nil_row (w : World) (E : TypeId) (S : Nat) : Reads w (.row E S 0 []) (.slice none 0 0) := by
  rw [Reads.row_iff]; exact ⟨by simp, Nat.zero_le _, none, 0, rfl, .inl ⟨rfl, rfl, rfl⟩⟩
theorem lcells_Word {w : World} {B g o : Nat} {l : List Wd} (h : LentL mkV w B g o (wdsD l)) {k : Nat} (hk : k < l.length) {n1 : List UInt8} {ys : List Wd} {z1 : Int} (hx : l[k]'hk = .mk n1 ys z1) :
    ∃ g0, w.cell? ⟨g, o + k * 3, none⟩ = some (.string (bs n1)) ∧ w.cell? ⟨g, o + k * 3 + 1, none⟩ = some (.slice (some ⟨g0, 0, none⟩) ys.length (ys.length + 12)) ∧ w.cell? ⟨g, o + k * 3 + 2, none⟩ = some (.int .i64 z1) ∧ LentD mkV w B (.row 33 3 ys.length (wdsD ys)) (.slice (some ⟨g0, 0, none⟩) ys.length (ys.length + 12)) := by
  rw [wdsD_flat] at h
  obtain ⟨us, hu, hc⟩ := elem_lent ReadC.wdD_len h hk
  rw [hx, wdD] at hu
  obtain ⟨u0, _, rfl, h0, ⟨u1, _, rfl, h1, ⟨u2, _, rfl, h2, rfl⟩⟩⟩ := hu
  rw [LentD.lit_iff] at h0
  subst h0
  obtain ⟨g0, rfl, _⟩ := lent_slice h1
  rw [LentD.lit_iff] at h2
  subst h2
  exact ⟨g0, hc 0 _ rfl, hc 1 _ rfl, hc 2 _ rfl, h1⟩
def KeptOKWord (y : Wd) : Prop := ∀ (n1 : List UInt8) (ys : List Wd) (z1 : Int) (B g0 : Nat) (s0 : Value) (w : World), y = .mk n1 ys z1 → LentD mkV w B (.row 33 3 ys.length (wdsD ys)) (.slice (some ⟨g0, 0, none⟩) ys.length (ys.length + 12)) → Reads w (.row 33 3 ys.length (wdsD ys)) s0 → Calls Tryz.prog 115 #[.agg #[.string (bs n1), .slice (some ⟨g0, 0, none⟩) ys.length (ys.length + 12), .int .i64 z1], .agg #[.string (bs n1), s0, .int .i64 z1]] w fun e w' => e = .returned (.bool true) ∧ Below w.heap.size w w'
set_option maxRecDepth 100000 in
set_option maxHeartbeats 16000000 in
theorem kepts_Word {l : List Wd} {B : Nat} {v s : Value} {w : World} (ih : ∀ y ∈ l, KeptOKWord y) (hv : LentD mkV w B (.row 33 3 l.length (wdsD l)) v) (h2 : Reads w (.row 33 3 l.length (wdsD l)) s) (hl : l.length ≤ 1000000) :
    Calls Tryz.prog 103 #[v, s] w fun e w' => e = .returned (.bool true) ∧ Below w.heap.size w w' := by
  obtain ⟨g, rfl, _, hL, hM⟩ := lent_slice hv
  obtain ⟨p2, c2, rfl⟩ := Reads.slice h2
  have HL := Lib.hid hL; have HM := Lib.hid hM; have H2 := Lib.hid h2; have HIH := Lib.hid ih; clear hv hL hM h2 ih
  generalize hnk : l.length = nk at *
  have HNK := Lib.hid hnk; clear hnk
  generalize hN : nk + 12 = N at *
  have e1 : ((nk : Int) + 12) = (N : Int) := by omega
  have e2 : (0 : Int) ≤ (N : Int) := by omega
  go_enter Tryz.func103, Tryz.ntmps103
  go_wp2_with fail
  go_loopg [6] N (fun gk i wr => ∃ q : Nat, q ≤ N ∧ gk = N - q ∧ i = .int .i64 (q : Int) ∧ Below w.heap.size w wr)
  case atStart => exact ⟨0, by omega, by omega, rfl, Below.refl _ _⟩
  case round =>
    obtain ⟨q, hq, rfl, rfl, hbw⟩ := hrel
    have HBW := Lib.hid hbw; clear hbw
    by_cases hlt : q < N
    · have j0 : (0 : Int) ≤ (q : Int) := by omega
      have j1 : (q : Int) < (N : Int) := by omega
      by_cases hqn : q < nk
      · have j2 : (q : Int) < (nk : Int) := by omega
        have j3 : ¬ (nk : Int) ≤ (q : Int) := by omega
        have hkl : q < l.length := by have := HNK.out; omega
        obtain ⟨g2, o2, rfl, r1⟩ := Reads.elems H2.out (by omega)
        obtain ⟨n1, ys, z1, hy⟩ : ∃ n1 ys z1, l[q]'hkl = .mk n1 ys z1 := by cases l[q]'hkl; exact ⟨_, _, _, rfl⟩
        obtain ⟨x0, y0, f0, f1, f2, hr0⟩ := word_cells r1 hkl hy
        obtain ⟨g0, d0, d1, d2, hg0⟩ := lcells_Word HL.out hkl hy
        have hmem : l[q]'hkl ∈ l := List.getElem_mem hkl
        have HY := Lib.hid (fun (u : World) (hu : Below w.heap.size w u) => HIH.out _ hmem n1 ys z1 B g0 _ u hy (hg0.below hu) (Reads.below hu hr0))
        rw [Nat.zero_add] at d0 d1 d2
        have m0 := cell_on rfl HBW.out d0; have nn0 := cell_on rfl HBW.out f0
        have m1 := cell_on rfl HBW.out d1; have nn1 := cell_on rfl HBW.out f1
        have m2 := cell_on rfl HBW.out d2; have nn2 := cell_on rfl HBW.out f2
        clear d0 f0 d1 f1 d2 f2 r1 hg0 hr0 hmem hy

        generalize (bs n1) = z0 at *
        generalize ys.length = n0x at *
        go_wp2_with fail
        refine wp_region_mixS (l1 := [_, _, _, _, _, _, _, _, _, _, _, _, _, _, _, _, _, _, _, _, _, _, _, _, _, _, _, _, _, _, _, _, _, _]) (l2 := [_]) [(0, true), (1, true), (2, true), (3, true), (4, true), (5, true), (6, true), (7, true), (8, true), (9, true), (10, true), (11, true), (12, true), (13, false), (14, true), (15, true), (16, true), (17, true), (18, true), (19, true), (20, true), (21, true), (22, true), (23, true), (24, true), (25, true), (26, true), (27, true), (28, true), (29, true), (30, true), (31, true), (32, true), (33, true)] (fun u => Below wr.heap.size wr u) (by kernel_rfl) (by kernel_rfl) (by repeat (first | refine loose_then ?_ | refine loose_block ?_ | exact loose_body (P := Tryz.prog) (fn := Tryz.f103))) ((Below.refl _ wr).drew) ?_
        refine mixS_take (.int .i64 (q : Int)) rfl rfl (fun u hu => by go_simp) ?_
        refine mixS_take (.slice (some ⟨g2, o2, none⟩) nk c2) rfl rfl (fun u hu => by go_simp) ?_
        refine mixS_take (.int .i64 (nk : Int)) rfl rfl (fun u hu => by go_simp) ?_
        refine mixS_take (.bool true) rfl rfl (fun u hu => by go_simp) ?_
        refine mixS_take (.bool true) rfl rfl (fun u hu => by go_simp) ?_
        refine mixS_take (.slice (some ⟨g, 0, none⟩) N N) rfl (wanted_at (g := 4) (b := true) (t := 27) rfl rfl (by (repeat refine put_far (by decide) ?_); refine put_here rfl ?_; (repeat refine put_size ?_); exact of_decide_eq_true rfl)) (fun u hu => by go_simp) ?_
        refine mixS_take (.int .i64 (q : Int)) rfl (wanted_at (g := 4) (b := true) (t := 27) rfl rfl (by (repeat refine put_far (by decide) ?_); refine put_here rfl ?_; (repeat refine put_size ?_); exact of_decide_eq_true rfl)) (fun u hu => by go_simp) ?_
        refine mixS_take (.pointer (some ⟨g, q * 3, none⟩)) rfl (wanted_at (g := 4) (b := true) (t := 27) rfl rfl (by (repeat refine put_far (by decide) ?_); refine put_here rfl ?_; (repeat refine put_size ?_); exact of_decide_eq_true rfl)) (fun u hu => by go_simp) ?_
        refine mixS_take (.agg #[.string z0, .slice (some ⟨g0, 0, none⟩) n0x (n0x + 12), .int .i64 z1]) rfl (wanted_at (g := 4) (b := true) (t := 27) rfl rfl (by (repeat refine put_far (by decide) ?_); refine put_here rfl ?_; (repeat refine put_size ?_); exact of_decide_eq_true rfl)) (fun u hu => by have e0 := cell_on rfl hu m0; have e1 := cell_on rfl hu m1; have e2 := cell_on rfl hu m2; go_simp) ?_
        refine mixS_take (.slice (some ⟨g2, o2, none⟩) nk c2) rfl (wanted_at (g := 4) (b := true) (t := 27) rfl rfl (by (repeat refine put_far (by decide) ?_); refine put_here rfl ?_; (repeat refine put_size ?_); exact of_decide_eq_true rfl)) (fun u hu => by go_simp) ?_
        refine mixS_take (.int .i64 (q : Int)) rfl (wanted_at (g := 4) (b := true) (t := 27) rfl rfl (by (repeat refine put_far (by decide) ?_); refine put_here rfl ?_; (repeat refine put_size ?_); exact of_decide_eq_true rfl)) (fun u hu => by go_simp) ?_
        refine mixS_take (.pointer (some ⟨g2, o2 + q * 3, none⟩)) rfl (wanted_at (g := 4) (b := true) (t := 27) rfl rfl (by (repeat refine put_far (by decide) ?_); refine put_here rfl ?_; (repeat refine put_size ?_); exact of_decide_eq_true rfl)) (fun u hu => by go_simp) ?_
        refine mixS_take (.agg #[.string z0, .slice x0 n0x y0, .int .i64 z1]) rfl (wanted_at (g := 4) (b := true) (t := 27) rfl rfl (by (repeat refine put_far (by decide) ?_); refine put_here rfl ?_; (repeat refine put_size ?_); exact of_decide_eq_true rfl)) (fun u hu => by have e0 := cell_on rfl hu nn0; have e1 := cell_on rfl hu nn1; have e2 := cell_on rfl hu nn2; go_simp) ?_
        have HBD := Lib.hid (HBW.out.drew)
        clear m0 nn0 m1 nn1 m2 nn2
        refine mixS_go rfl (wanted_at (g := 4) (b := true) (t := 27) rfl rfl (by (repeat refine put_far (by decide) ?_); refine put_here rfl ?_; (repeat refine put_size ?_); exact of_decide_eq_true rfl)) fun K hK => wp_go (f := 115) (args := #[(.agg #[.string z0, .slice (some ⟨g0, 0, none⟩) n0x (n0x + 12), .int .i64 z1]), (.agg #[.string z0, .slice x0 n0x y0, .int .i64 z1])]) (by go_simp) ((HY.out _ HBD.out).mono ?_)
        rintro e w2 ⟨rfl, hb⟩
        have HB2 := Lib.hid (HBD.out.trans (hb.mono HBD.out.size))
        refine hK.out _ _ (((Below.refl _ wr).drew).trans (hb.mono (by simp))) ?_
        clear hK hb
        refine mixS_take (.bool false) rfl (wanted_at (g := 4) (b := true) (t := 27) rfl rfl (by (repeat refine put_far (by decide) ?_); refine put_here rfl ?_; (repeat refine put_size ?_); exact of_decide_eq_true rfl)) (fun u hu => by go_simp) ?_
        refine mixS_take (.bool false) rfl rfl (fun u hu => by go_simp) ?_
        refine mixS_take (.bool false) rfl rfl (fun u hu => by go_simp) ?_
        refine mixS_take (.int .i64 (q : Int)) rfl (wanted_at (g := 16) (b := false) (t := 39) rfl rfl (by (repeat refine put_far (by decide) ?_); refine put_here rfl ?_; (repeat refine put_size ?_); exact of_decide_eq_true rfl)) (fun u hu => by go_simp) ?_
        refine mixS_take (.slice (some ⟨g2, o2, none⟩) nk c2) rfl (wanted_at (g := 16) (b := false) (t := 39) rfl rfl (by (repeat refine put_far (by decide) ?_); refine put_here rfl ?_; (repeat refine put_size ?_); exact of_decide_eq_true rfl)) (fun u hu => by go_simp) ?_
        refine mixS_take (.int .i64 (nk : Int)) rfl (wanted_at (g := 16) (b := false) (t := 39) rfl rfl (by (repeat refine put_far (by decide) ?_); refine put_here rfl ?_; (repeat refine put_size ?_); exact of_decide_eq_true rfl)) (fun u hu => by go_simp) ?_
        refine mixS_take (.bool false) rfl (wanted_at (g := 16) (b := false) (t := 39) rfl rfl (by (repeat refine put_far (by decide) ?_); refine put_here rfl ?_; (repeat refine put_size ?_); exact of_decide_eq_true rfl)) (fun u hu => by go_simp) ?_
        refine mixS_take (.bool false) rfl (wanted_at (g := 16) (b := false) (t := 39) rfl rfl (by (repeat refine put_far (by decide) ?_); refine put_here rfl ?_; (repeat refine put_size ?_); exact of_decide_eq_true rfl)) (fun u hu => by go_simp) ?_
        refine mixS_skip rfl (unwanted_at (g := 21) (b := true) (t := 44) (c := false) rfl rfl (by (repeat refine put_far (by decide) ?_); refine put_here rfl ?_; (repeat refine put_size ?_); exact of_decide_eq_true rfl) (by decide)) ?_
        refine mixS_skip rfl (unwanted_at (g := 21) (b := true) (t := 44) (c := false) rfl rfl (by (repeat refine put_far (by decide) ?_); refine put_here rfl ?_; (repeat refine put_size ?_); exact of_decide_eq_true rfl) (by decide)) ?_
        refine mixS_skip rfl (unwanted_at (g := 21) (b := true) (t := 44) (c := false) rfl rfl (by (repeat refine put_far (by decide) ?_); refine put_here rfl ?_; (repeat refine put_size ?_); exact of_decide_eq_true rfl) (by decide)) ?_
        refine mixS_skip rfl (unwanted_at (g := 21) (b := true) (t := 44) (c := false) rfl rfl (by (repeat refine put_far (by decide) ?_); refine put_here rfl ?_; (repeat refine put_size ?_); exact of_decide_eq_true rfl) (by decide)) ?_
        refine mixS_skip rfl (unwanted_at (g := 21) (b := true) (t := 44) (c := false) rfl rfl (by (repeat refine put_far (by decide) ?_); refine put_here rfl ?_; (repeat refine put_size ?_); exact of_decide_eq_true rfl) (by decide)) ?_
        refine mixS_skip rfl (unwanted_at (g := 21) (b := true) (t := 44) (c := false) rfl rfl (by (repeat refine put_far (by decide) ?_); refine put_here rfl ?_; (repeat refine put_size ?_); exact of_decide_eq_true rfl) (by decide)) ?_
        refine mixS_skip rfl (unwanted_at (g := 21) (b := true) (t := 44) (c := false) rfl rfl (by (repeat refine put_far (by decide) ?_); refine put_here rfl ?_; (repeat refine put_size ?_); exact of_decide_eq_true rfl) (by decide)) ?_
        refine mixS_skip rfl (unwanted_at (g := 21) (b := true) (t := 44) (c := false) rfl rfl (by (repeat refine put_far (by decide) ?_); refine put_here rfl ?_; (repeat refine put_size ?_); exact of_decide_eq_true rfl) (by decide)) ?_
        refine mixS_skip rfl (unwanted_at (g := 21) (b := true) (t := 44) (c := false) rfl rfl (by (repeat refine put_far (by decide) ?_); refine put_here rfl ?_; (repeat refine put_size ?_); exact of_decide_eq_true rfl) (by decide)) ?_
        refine mixS_skip rfl (unwanted_at (g := 21) (b := true) (t := 44) (c := false) rfl rfl (by (repeat refine put_far (by decide) ?_); refine put_here rfl ?_; (repeat refine put_size ?_); exact of_decide_eq_true rfl) (by decide)) ?_
        refine mixS_skip rfl (unwanted_at (g := 21) (b := true) (t := 44) (c := false) rfl rfl (by (repeat refine put_far (by decide) ?_); refine put_here rfl ?_; (repeat refine put_size ?_); exact of_decide_eq_true rfl) (by decide)) ?_
        refine mixS_take (.bool false) rfl (wanted_at (g := 16) (b := false) (t := 39) rfl rfl (by (repeat refine put_far (by decide) ?_); refine put_here rfl ?_; (repeat refine put_size ?_); exact of_decide_eq_true rfl)) (fun u hu => by go_simp) ?_
        show wpList _ _ _ _ _ _
        go_wp2
        go_roundg (N - (q + 1))
        case measure => omega
        case rel => exact ⟨q + 1, by omega, rfl, by go_num, HB2.out⟩
      · obtain ⟨j, hj⟩ : ∃ j, q = nk + j := ⟨q - nk, by omega⟩
        have hj12 : j < 12 := by omega
        have j2 : ¬ (q : Int) < (nk : Int) := by omega
        have j3 : (nk : Int) ≤ (q : Int) := by omega
        have j4 : (q : Int) - (nk : Int) = (j : Int) := by omega
        have d0 := HM.out (j * 3 + 0) _ (mark_at (f := (fun i : Nat => [.string { data := #[] }, .slice none 0 0, .int .i64 (8000024 + (i : Int))])) (S := 3) (fun _ => rfl) hj12 (by omega))
        rw [show nk * 3 + (j * 3 + 0) = q * 3 by omega] at d0
        have m0 : wr.cell? ⟨g, q * 3, none⟩ = some (.string { data := #[] }) := cell_on rfl HBW.out d0
        have d1 := HM.out (j * 3 + 1) _ (mark_at (f := (fun i : Nat => [.string { data := #[] }, .slice none 0 0, .int .i64 (8000024 + (i : Int))])) (S := 3) (fun _ => rfl) hj12 (by omega))
        rw [show nk * 3 + (j * 3 + 1) = q * 3 + 1 by omega] at d1
        have m1 : wr.cell? ⟨g, q * 3 + 1, none⟩ = some (.slice none 0 0) := cell_on rfl HBW.out d1
        have d2 := HM.out (j * 3 + 2) _ (mark_at (f := (fun i : Nat => [.string { data := #[] }, .slice none 0 0, .int .i64 (8000024 + (i : Int))])) (S := 3) (fun _ => rfl) hj12 (by omega))
        rw [show nk * 3 + (j * 3 + 2) = q * 3 + 2 by omega] at d2
        have m2 : wr.cell? ⟨g, q * 3 + 2, none⟩ = some (.int .i64 (8000024 + (j : Int))) := cell_on rfl HBW.out d2
        have HSM := Lib.hid (fun (u : World) (_ : Below w.heap.size w u) => show Calls Tryz.prog 116 #[.agg #[.string { data := #[] }, .slice none 0 0, .int .i64 (8000024 + (j : Int))], .agg #[.string { data := #[] }, .slice none 0 0, .int .i64 (8000024 + (j : Int))]] u fun e w' => e = .returned (.bool true) ∧ Below u.heap.size u w' from same_w (Wd.mk [] [] (8000024 + (j : Int))) u (.slice none 0 0) (.slice none 0 0) [] [] (8000024 + (j : Int)) rfl (nil_row _ _ _) (nil_row _ _ _))
        have HMK := Lib.hid (fun u => mark_Word j (by omega) u)
        clear d0 d1 d2
        generalize 8000024 + (j : Int) = mj at *
        have HJ := Lib.hid hj; clear hj
        go_wp2_with fail
        refine wp_region_mixS (l1 := [_, _, _, _, _, _, _, _, _, _, _, _, _, _, _, _, _, _, _, _, _, _, _, _, _, _, _, _, _, _, _, _, _, _]) (l2 := [_]) [(0, true), (1, true), (2, true), (3, true), (4, true), (5, true), (6, true), (7, true), (8, true), (9, true), (10, true), (11, true), (12, true), (13, true), (14, true), (15, true), (16, true), (17, true), (18, true), (19, true), (20, true), (21, true), (22, true), (23, true), (24, true), (25, true), (26, true), (27, true), (28, true), (29, true), (30, false), (31, false), (32, true), (33, true)] (fun u => Below wr.heap.size wr u) (by kernel_rfl) (by kernel_rfl) (by repeat (first | refine loose_then ?_ | refine loose_block ?_ | exact loose_body (P := Tryz.prog) (fn := Tryz.f103))) ((Below.refl _ wr).drew) ?_
        refine mixS_take (.int .i64 (q : Int)) rfl rfl (fun u hu => by go_simp) ?_
        refine mixS_take (.slice p2 nk c2) rfl rfl (fun u hu => by go_simp) ?_
        refine mixS_take (.int .i64 (nk : Int)) rfl rfl (fun u hu => by go_simp) ?_
        refine mixS_take (.bool false) rfl rfl (fun u hu => by go_simp) ?_
        refine mixS_take (.bool false) rfl rfl (fun u hu => by go_simp) ?_
        refine mixS_skip rfl (unwanted_at (g := 4) (b := true) (t := 27) (c := false) rfl rfl (by (repeat refine put_far (by decide) ?_); refine put_here rfl ?_; (repeat refine put_size ?_); exact of_decide_eq_true rfl) (by decide)) ?_
        refine mixS_skip rfl (unwanted_at (g := 4) (b := true) (t := 27) (c := false) rfl rfl (by (repeat refine put_far (by decide) ?_); refine put_here rfl ?_; (repeat refine put_size ?_); exact of_decide_eq_true rfl) (by decide)) ?_
        refine mixS_skip rfl (unwanted_at (g := 4) (b := true) (t := 27) (c := false) rfl rfl (by (repeat refine put_far (by decide) ?_); refine put_here rfl ?_; (repeat refine put_size ?_); exact of_decide_eq_true rfl) (by decide)) ?_
        refine mixS_skip rfl (unwanted_at (g := 4) (b := true) (t := 27) (c := false) rfl rfl (by (repeat refine put_far (by decide) ?_); refine put_here rfl ?_; (repeat refine put_size ?_); exact of_decide_eq_true rfl) (by decide)) ?_
        refine mixS_skip rfl (unwanted_at (g := 4) (b := true) (t := 27) (c := false) rfl rfl (by (repeat refine put_far (by decide) ?_); refine put_here rfl ?_; (repeat refine put_size ?_); exact of_decide_eq_true rfl) (by decide)) ?_
        refine mixS_skip rfl (unwanted_at (g := 4) (b := true) (t := 27) (c := false) rfl rfl (by (repeat refine put_far (by decide) ?_); refine put_here rfl ?_; (repeat refine put_size ?_); exact of_decide_eq_true rfl) (by decide)) ?_
        refine mixS_skip rfl (unwanted_at (g := 4) (b := true) (t := 27) (c := false) rfl rfl (by (repeat refine put_far (by decide) ?_); refine put_here rfl ?_; (repeat refine put_size ?_); exact of_decide_eq_true rfl) (by decide)) ?_
        refine mixS_skip rfl (unwanted_at (g := 4) (b := true) (t := 27) (c := false) rfl rfl (by (repeat refine put_far (by decide) ?_); refine put_here rfl ?_; (repeat refine put_size ?_); exact of_decide_eq_true rfl) (by decide)) ?_
        refine mixS_skip rfl (unwanted_at (g := 4) (b := true) (t := 27) (c := false) rfl rfl (by (repeat refine put_far (by decide) ?_); refine put_here rfl ?_; (repeat refine put_size ?_); exact of_decide_eq_true rfl) (by decide)) ?_
        refine mixS_skip rfl (unwanted_at (g := 4) (b := true) (t := 27) (c := false) rfl rfl (by (repeat refine put_far (by decide) ?_); refine put_here rfl ?_; (repeat refine put_size ?_); exact of_decide_eq_true rfl) (by decide)) ?_
        refine mixS_take (.bool false) rfl rfl (fun u hu => by go_simp) ?_
        refine mixS_take (.bool false) rfl rfl (fun u hu => by go_simp) ?_
        refine mixS_take (.int .i64 (q : Int)) rfl (wanted_at (g := 16) (b := false) (t := 39) rfl rfl (by (repeat refine put_far (by decide) ?_); refine put_here rfl ?_; (repeat refine put_size ?_); exact of_decide_eq_true rfl)) (fun u hu => by go_simp) ?_
        refine mixS_take (.slice p2 nk c2) rfl (wanted_at (g := 16) (b := false) (t := 39) rfl rfl (by (repeat refine put_far (by decide) ?_); refine put_here rfl ?_; (repeat refine put_size ?_); exact of_decide_eq_true rfl)) (fun u hu => by go_simp) ?_
        refine mixS_take (.int .i64 (nk : Int)) rfl (wanted_at (g := 16) (b := false) (t := 39) rfl rfl (by (repeat refine put_far (by decide) ?_); refine put_here rfl ?_; (repeat refine put_size ?_); exact of_decide_eq_true rfl)) (fun u hu => by go_simp) ?_
        refine mixS_take (.bool true) rfl (wanted_at (g := 16) (b := false) (t := 39) rfl rfl (by (repeat refine put_far (by decide) ?_); refine put_here rfl ?_; (repeat refine put_size ?_); exact of_decide_eq_true rfl)) (fun u hu => by go_simp) ?_
        refine mixS_take (.bool true) rfl (wanted_at (g := 16) (b := false) (t := 39) rfl rfl (by (repeat refine put_far (by decide) ?_); refine put_here rfl ?_; (repeat refine put_size ?_); exact of_decide_eq_true rfl)) (fun u hu => by go_simp) ?_
        refine mixS_take (.slice (some ⟨g, 0, none⟩) N N) rfl (wanted_at (g := 21) (b := true) (t := 44) rfl rfl (by (repeat refine put_far (by decide) ?_); refine put_here rfl ?_; (repeat refine put_size ?_); exact of_decide_eq_true rfl)) (fun u hu => by go_simp) ?_
        refine mixS_take (.int .i64 (q : Int)) rfl (wanted_at (g := 21) (b := true) (t := 44) rfl rfl (by (repeat refine put_far (by decide) ?_); refine put_here rfl ?_; (repeat refine put_size ?_); exact of_decide_eq_true rfl)) (fun u hu => by go_simp) ?_
        refine mixS_take (.pointer (some ⟨g, q * 3, none⟩)) rfl (wanted_at (g := 21) (b := true) (t := 44) rfl rfl (by (repeat refine put_far (by decide) ?_); refine put_here rfl ?_; (repeat refine put_size ?_); exact of_decide_eq_true rfl)) (fun u hu => by go_simp) ?_
        refine mixS_take (.agg #[.string { data := #[] }, .slice none 0 0, .int .i64 mj]) rfl (wanted_at (g := 21) (b := true) (t := 44) rfl rfl (by (repeat refine put_far (by decide) ?_); refine put_here rfl ?_; (repeat refine put_size ?_); exact of_decide_eq_true rfl)) (fun u hu => by have e0 := cell_on rfl hu m0; have e1 := cell_on rfl hu m1; have e2 := cell_on rfl hu m2; go_simp) ?_
        refine mixS_take (.int .i64 (q : Int)) rfl (wanted_at (g := 21) (b := true) (t := 44) rfl rfl (by (repeat refine put_far (by decide) ?_); refine put_here rfl ?_; (repeat refine put_size ?_); exact of_decide_eq_true rfl)) (fun u hu => by go_simp) ?_
        refine mixS_take (.slice p2 nk c2) rfl (wanted_at (g := 21) (b := true) (t := 44) rfl rfl (by (repeat refine put_far (by decide) ?_); refine put_here rfl ?_; (repeat refine put_size ?_); exact of_decide_eq_true rfl)) (fun u hu => by go_simp) ?_
        refine mixS_take (.int .i64 (nk : Int)) rfl (wanted_at (g := 21) (b := true) (t := 44) rfl rfl (by (repeat refine put_far (by decide) ?_); refine put_here rfl ?_; (repeat refine put_size ?_); exact of_decide_eq_true rfl)) (fun u hu => by go_simp) ?_
        refine mixS_take (.int .i64 (j : Int)) rfl (wanted_at (g := 21) (b := true) (t := 44) rfl rfl (by (repeat refine put_far (by decide) ?_); refine put_here rfl ?_; (repeat refine put_size ?_); exact of_decide_eq_true rfl)) (fun u hu => by go_simp; exact IntWalk.i64_in _ ⟨by omega, by omega⟩) ?_
        have HBD := Lib.hid (HBW.out.drew)
        clear m0 m1 m2
        refine mixS_go rfl (wanted_at (g := 21) (b := true) (t := 44) rfl rfl (by (repeat refine put_far (by decide) ?_); refine put_here rfl ?_; (repeat refine put_size ?_); exact of_decide_eq_true rfl)) fun K hK => wp_go (f := 107) (args := #[.int .i64 1, .int .i64 (j : Int)]) (by go_simp) ((HMK.out _).mono ?_)
        rintro e w2 ⟨rfl, hb⟩
        have HB2 := Lib.hid (HBD.out.trans (hb.mono HBD.out.size))
        have HBR2 := Lib.hid (show Below wr.heap.size wr w2 from ((Below.refl _ wr).drew).trans (hb.mono (by simp)))
        refine hK.out _ _ HBR2.out ?_
        clear hK hb
        refine mixS_go rfl (wanted_at (g := 21) (b := true) (t := 44) rfl rfl (by (repeat refine put_far (by decide) ?_); refine put_here rfl ?_; (repeat refine put_size ?_); exact of_decide_eq_true rfl)) fun K hK => wp_go (f := 116) (args := #[(.agg #[.string { data := #[] }, .slice none 0 0, .int .i64 mj]), (.agg #[.string { data := #[] }, .slice none 0 0, .int .i64 mj])]) (by go_simp) ((HSM.out _ HB2.out).mono ?_)
        rintro e w3 ⟨rfl, hb⟩
        have HB3 := Lib.hid (HB2.out.trans (hb.mono HB2.out.size))
        refine hK.out _ _ (HBR2.out.trans (hb.mono HBR2.out.size)) ?_
        clear hK hb
        refine mixS_take (.bool false) rfl (wanted_at (g := 21) (b := true) (t := 44) rfl rfl (by (repeat refine put_far (by decide) ?_); refine put_here rfl ?_; (repeat refine put_size ?_); exact of_decide_eq_true rfl)) (fun u hu => by go_simp) ?_
        refine mixS_take (.bool false) rfl (wanted_at (g := 16) (b := false) (t := 39) rfl rfl (by (repeat refine put_far (by decide) ?_); refine put_here rfl ?_; (repeat refine put_size ?_); exact of_decide_eq_true rfl)) (fun u hu => by go_simp) ?_
        show wpList _ _ _ _ _ _
        go_wp2
        go_roundg (N - (q + 1))
        case measure => omega
        case rel => exact ⟨q + 1, by omega, rfl, by go_num, HB3.out⟩
    · obtain rfl : q = N := by omega
      go_wp2
      go_ret
      exact ⟨rfl, HBW.out⟩
set_option maxRecDepth 100000 in
set_option maxHeartbeats 8000000 in
theorem kept_Word {n1 : List UInt8} {ys : List Wd} {z1 : Int} {w : World} {B g0 : Nat} {s0 : Value} (hg0 : LentD mkV w B (.row 33 3 ys.length (wdsD ys)) (.slice (some ⟨g0, 0, none⟩) ys.length (ys.length + 12))) (hr0 : Reads w (.row 33 3 ys.length (wdsD ys)) s0) (ih : ∀ y ∈ ys, KeptOKWord y) (hl : ys.length ≤ 1000000) :
    Calls Tryz.prog 115 #[.agg #[.string (bs n1), .slice (some ⟨g0, 0, none⟩) ys.length (ys.length + 12), .int .i64 z1], .agg #[.string (bs n1), s0, .int .i64 z1]] w fun e w' => e = .returned (.bool true) ∧ Below w.heap.size w w' := by
  obtain ⟨x0, y0, rfl⟩ := Reads.slice hr0
  have HS := Lib.hid (fun (u : World) (hu : Below w.heap.size w u) => show Calls Tryz.prog 116 #[.agg #[.string (bs n1), .slice (some ⟨g0, 0, none⟩) ys.length (ys.length + 12), .int .i64 z1], .agg #[.string (bs n1), .slice x0 ys.length y0, .int .i64 z1]] u fun e w' => e = .returned (.bool true) ∧ Below u.heap.size u w' from same_w (.mk n1 ys z1) u _ _ n1 ys z1 rfl (hg0.below hu).reads (Reads.below hu hr0))
  have HK0 := Lib.hid (fun (u : World) (hu : Below w.heap.size w u) => kepts_Word ih (hg0.below hu) (Reads.below hu hr0) hl)
  clear hg0 hr0 ih
  generalize (bs n1) = z0 at *
  generalize ys.length = n0x at *
  have HB := Lib.hid (((Below.refl w.heap.size w).alloc (Nat.le_refl _) (.cells #[.string z0, .slice (some ⟨g0, 0, none⟩) n0x (n0x + 12), .int .i64 z1] 33)).alloc (by simp) (.cells #[.string z0, .slice x0 n0x y0, .int .i64 z1] 33))
  have HSZ := Lib.hid (show ((w.alloc (.cells #[.string z0, .slice (some ⟨g0, 0, none⟩) n0x (n0x + 12), .int .i64 z1] 33)).alloc (.cells #[.string z0, .slice x0 n0x y0, .int .i64 z1] 33)).heap.size = w.heap.size + 2 by simp)
  have XB := Lib.hid (show ((w.alloc (.cells #[.string z0, .slice (some ⟨g0, 0, none⟩) n0x (n0x + 12), .int .i64 z1] 33)).alloc (.cells #[.string z0, .slice x0 n0x y0, .int .i64 z1] 33)).heap[w.heap.size + 1]? = some (.cells #[.string z0, .slice x0 n0x y0, .int .i64 z1] 33 (0, 0)) from alloc2 w _ _)
  have XA := Lib.hid (show ((w.alloc (.cells #[.string z0, .slice (some ⟨g0, 0, none⟩) n0x (n0x + 12), .int .i64 z1] 33)).alloc (.cells #[.string z0, .slice x0 n0x y0, .int .i64 z1] 33)).heap[w.heap.size]? = some (.cells #[.string z0, .slice (some ⟨g0, 0, none⟩) n0x (n0x + 12), .int .i64 z1] 33 (0, 0)) from (Below.heap_alloc _ _ _ (by simp)).trans (heap_alloc_new _ _))
  go_enter Tryz.func115, Tryz.ntmps115
  go_upto_region 1 with fail
  generalize ((w.alloc (.cells #[.string z0, .slice (some ⟨g0, 0, none⟩) n0x (n0x + 12), .int .i64 z1] 33)).alloc (.cells #[.string z0, .slice x0 n0x y0, .int .i64 z1] 33)) = W at *
  have hl0 : w.heap.size + 1 < W.heap.size := by rw [HSZ.out]; omega
  generalize hH : w.heap.size = H at *
  have a0 : W.cell? ⟨H, 0, none⟩ = some (.string z0) := cell_of_row W H 0 _ _ (0, 0) XA.out
  have b0 : W.cell? ⟨H + 1, 0, none⟩ = some (.string z0) := cell_of_row W (H + 1) 0 _ _ (0, 0) XB.out
  have a1 : W.cell? ⟨H, 1, none⟩ = some (.slice (some ⟨g0, 0, none⟩) n0x (n0x + 12)) := cell_of_row W H 1 _ _ (0, 0) XA.out
  have b1 : W.cell? ⟨H + 1, 1, none⟩ = some (.slice x0 n0x y0) := cell_of_row W (H + 1) 1 _ _ (0, 0) XB.out
  have a2 : W.cell? ⟨H, 2, none⟩ = some (.int .i64 z1) := cell_of_row W H 2 _ _ (0, 0) XA.out
  have b2 : W.cell? ⟨H + 1, 2, none⟩ = some (.int .i64 z1) := cell_of_row W (H + 1) 2 _ _ (0, 0) XB.out
  go_wp2_with (first
    | (go_at_call 116; go_must (refine (HS.out _ HB.out).mono ?_; rintro e w2 ⟨rfl, hb⟩; clear a0 b0 a1 b1 a2 b2; have a0 := cell_of_row w2 H 0 _ _ (0, 0) ((hb.block H (by omega)).trans XA.out); have b0 := cell_of_row w2 (H + 1) 0 _ _ (0, 0) ((hb.block (H + 1) (by omega)).trans XB.out); have a1 := cell_of_row w2 H 1 _ _ (0, 0) ((hb.block H (by omega)).trans XA.out); have b1 := cell_of_row w2 (H + 1) 1 _ _ (0, 0) ((hb.block (H + 1) (by omega)).trans XB.out); have a2 := cell_of_row w2 H 2 _ _ (0, 0) ((hb.block H (by omega)).trans XA.out); have b2 := cell_of_row w2 (H + 1) 2 _ _ (0, 0) ((hb.block (H + 1) (by omega)).trans XB.out); have HBs := Lib.hid hb; have HB0 := Lib.hid (HB.out.trans (hb.mono (by omega))); clear hb))
    | (go_at_call 103; go_must (refine (HK0.out _ HB0.out).mono ?_; rintro e w3 ⟨rfl, hb⟩; clear a0 b0 a1 b1 a2 b2; have hbb := HBs.out.trans (hb.mono HBs.out.size); have a0 := cell_of_row w3 H 0 _ _ (0, 0) ((hbb.block H (by omega)).trans XA.out); have b0 := cell_of_row w3 (H + 1) 0 _ _ (0, 0) ((hbb.block (H + 1) (by omega)).trans XB.out); have a1 := cell_of_row w3 H 1 _ _ (0, 0) ((hbb.block H (by omega)).trans XA.out); have b1 := cell_of_row w3 (H + 1) 1 _ _ (0, 0) ((hbb.block (H + 1) (by omega)).trans XB.out); have a2 := cell_of_row w3 H 2 _ _ (0, 0) ((hbb.block H (by omega)).trans XA.out); have b2 := cell_of_row w3 (H + 1) 2 _ _ (0, 0) ((hbb.block (H + 1) (by omega)).trans XB.out); clear HBs; have HBs := Lib.hid hbb; have HB1 := Lib.hid (HB0.out.trans (hb.mono (by have := HB0.out.size; omega))); clear hb hbb)))
  go_ret
  exact ⟨rfl, by have := HB1.out; rw [hH]; exact this⟩
theorem kept_wd : ∀ x : Wd, wdOk x → KeptOKWord x
  | .mk n xs z, ho => fun n1 ys z1 B g0 s0 w he hg hr => by
    cases he
    rw [wdOk] at ho
    exact kept_Word hg hr (fun y hy => kept_wd y (wdsOk_mem ho.2 y hy)) ho.1
  termination_by x => SizeOf.sizeOf x
  decreasing_by have := List.sizeOf_lt_of_mem hy; simp; omega
end Go.Proofs.YtghebacphjglbaaGreat.SrcC
/- gristmillkit.KeptAlts, at what LentAlts told: true. (Printed by src2_gen.py.) -/
namespace Go.Proofs.YtghebacphjglbaaGreat.SrcD
open Go Go.RowKit Go.Proofs.YtghebacphjglbaaGreat.Lexy Go.Proofs.YtghebacphjglbaaGreat.LexA Go.Proofs.YtghebacphjglbaaGreat.LexB Go.Proofs.YtghebacphjglbaaGreat.LexC Go.Proofs.YtghebacphjglbaaGreat.LexD Go.Proofs.YtghebacphjglbaaGreat.LexE Go.Proofs.YtghebacphjglbaaGreat.LexF Go.Proofs.YtghebacphjglbaaGreat.LexG Go.Proofs.YtghebacphjglbaaGreat.Heap Go.Proofs.YtghebacphjglbaaGreat.Dat Go.Proofs.YtghebacphjglbaaGreat.Ready Go.Proofs.YtghebacphjglbaaGreat.ReadA Go.Proofs.YtghebacphjglbaaGreat.ReadC Go.Proofs.YtghebacphjglbaaGreat.ReadH Go.Proofs.YtghebacphjglbaaGreat.ReadI Go.Proofs.YtghebacphjglbaaGreat.ReadM Go.Proofs.YtghebacphjglbaaGreat.ReadO Go.Proofs.YtghebacphjglbaaGreat.Same Go.Proofs.YtghebacphjglbaaGreat.Cut Go.Proofs.YtghebacphjglbaaGreat.LentK Go.Proofs.YtghebacphjglbaaGreat.SrcA Go.Proofs.YtghebacphjglbaaGreat.SrcB Go.Proofs.YtghebacphjglbaaGreat.SrcC

set_option maxRecDepth 100000 in
set_option maxHeartbeats 8000000 in
theorem kept_Alt {y : Al} {w : World} {B g0 : Nat} {s0 : Value} (hg0 : LentD mkV w B (.row 33 3 y.words.length (wdsD y.words)) (.slice (some ⟨g0, 0, none⟩) y.words.length (y.words.length + 12))) (hr0 : Reads w (.row 33 3 y.words.length (wdsD y.words)) s0) (ho : AlOk y) :
    Calls Tryz.prog 89 #[.agg #[.slice (some ⟨g0, 0, none⟩) y.words.length (y.words.length + 12), .string (bs y.prec), .bool y.has, .string (bs y.action), .int .i64 y.whr, .int .i64 y.at_], .agg #[s0, .string (bs y.prec), .bool y.has, .string (bs y.action), .int .i64 y.whr, .int .i64 y.at_]] w fun e w' => e = .returned (.bool true) ∧ Below w.heap.size w w' := by
  obtain ⟨x0, y0, rfl⟩ := Reads.slice hr0
  have HS := Lib.hid (fun (u : World) (hu : Below w.heap.size w u) => show Calls Tryz.prog 90 #[.agg #[.slice (some ⟨g0, 0, none⟩) y.words.length (y.words.length + 12), .string (bs y.prec), .bool y.has, .string (bs y.action), .int .i64 y.whr, .int .i64 y.at_], .agg #[.slice x0 y.words.length y0, .string (bs y.prec), .bool y.has, .string (bs y.action), .int .i64 y.whr, .int .i64 y.at_]] u fun e w' => e = .returned (.bool true) ∧ Below u.heap.size u w' from same_alt (x := y) (hg0.below hu).reads (Reads.below hu hr0))
  have HK0 := Lib.hid (fun (u : World) (hu : Below w.heap.size w u) => kepts_Word (fun x hx => kept_wd x (wdsOk_mem ho.words x hx)) (hg0.below hu) (Reads.below hu hr0) ho.n)
  clear hg0 hr0 ho
  generalize (bs y.prec) = z1 at *
  generalize y.has = z2 at *
  generalize (bs y.action) = z3 at *
  generalize y.whr = z4 at *
  generalize y.at_ = z5 at *
  generalize y.words.length = n0x at *
  have HB := Lib.hid (((Below.refl w.heap.size w).alloc (Nat.le_refl _) (.cells #[.slice (some ⟨g0, 0, none⟩) n0x (n0x + 12), .string z1, .bool z2, .string z3, .int .i64 z4, .int .i64 z5] 35)).alloc (by simp) (.cells #[.slice x0 n0x y0, .string z1, .bool z2, .string z3, .int .i64 z4, .int .i64 z5] 35))
  have HSZ := Lib.hid (show ((w.alloc (.cells #[.slice (some ⟨g0, 0, none⟩) n0x (n0x + 12), .string z1, .bool z2, .string z3, .int .i64 z4, .int .i64 z5] 35)).alloc (.cells #[.slice x0 n0x y0, .string z1, .bool z2, .string z3, .int .i64 z4, .int .i64 z5] 35)).heap.size = w.heap.size + 2 by simp)
  have XB := Lib.hid (show ((w.alloc (.cells #[.slice (some ⟨g0, 0, none⟩) n0x (n0x + 12), .string z1, .bool z2, .string z3, .int .i64 z4, .int .i64 z5] 35)).alloc (.cells #[.slice x0 n0x y0, .string z1, .bool z2, .string z3, .int .i64 z4, .int .i64 z5] 35)).heap[w.heap.size + 1]? = some (.cells #[.slice x0 n0x y0, .string z1, .bool z2, .string z3, .int .i64 z4, .int .i64 z5] 35 (0, 0)) from alloc2 w _ _)
  have XA := Lib.hid (show ((w.alloc (.cells #[.slice (some ⟨g0, 0, none⟩) n0x (n0x + 12), .string z1, .bool z2, .string z3, .int .i64 z4, .int .i64 z5] 35)).alloc (.cells #[.slice x0 n0x y0, .string z1, .bool z2, .string z3, .int .i64 z4, .int .i64 z5] 35)).heap[w.heap.size]? = some (.cells #[.slice (some ⟨g0, 0, none⟩) n0x (n0x + 12), .string z1, .bool z2, .string z3, .int .i64 z4, .int .i64 z5] 35 (0, 0)) from (Below.heap_alloc _ _ _ (by simp)).trans (heap_alloc_new _ _))
  go_enter Tryz.func89, Tryz.ntmps89
  go_upto_region 1 with fail
  generalize ((w.alloc (.cells #[.slice (some ⟨g0, 0, none⟩) n0x (n0x + 12), .string z1, .bool z2, .string z3, .int .i64 z4, .int .i64 z5] 35)).alloc (.cells #[.slice x0 n0x y0, .string z1, .bool z2, .string z3, .int .i64 z4, .int .i64 z5] 35)) = W at *
  have hl0 : w.heap.size + 1 < W.heap.size := by rw [HSZ.out]; omega
  generalize hH : w.heap.size = H at *
  have a0 : W.cell? ⟨H, 0, none⟩ = some (.slice (some ⟨g0, 0, none⟩) n0x (n0x + 12)) := cell_of_row W H 0 _ _ (0, 0) XA.out
  have b0 : W.cell? ⟨H + 1, 0, none⟩ = some (.slice x0 n0x y0) := cell_of_row W (H + 1) 0 _ _ (0, 0) XB.out
  have a1 : W.cell? ⟨H, 1, none⟩ = some (.string z1) := cell_of_row W H 1 _ _ (0, 0) XA.out
  have b1 : W.cell? ⟨H + 1, 1, none⟩ = some (.string z1) := cell_of_row W (H + 1) 1 _ _ (0, 0) XB.out
  have a2 : W.cell? ⟨H, 2, none⟩ = some (.bool z2) := cell_of_row W H 2 _ _ (0, 0) XA.out
  have b2 : W.cell? ⟨H + 1, 2, none⟩ = some (.bool z2) := cell_of_row W (H + 1) 2 _ _ (0, 0) XB.out
  have a3 : W.cell? ⟨H, 3, none⟩ = some (.string z3) := cell_of_row W H 3 _ _ (0, 0) XA.out
  have b3 : W.cell? ⟨H + 1, 3, none⟩ = some (.string z3) := cell_of_row W (H + 1) 3 _ _ (0, 0) XB.out
  have a4 : W.cell? ⟨H, 4, none⟩ = some (.int .i64 z4) := cell_of_row W H 4 _ _ (0, 0) XA.out
  have b4 : W.cell? ⟨H + 1, 4, none⟩ = some (.int .i64 z4) := cell_of_row W (H + 1) 4 _ _ (0, 0) XB.out
  have a5 : W.cell? ⟨H, 5, none⟩ = some (.int .i64 z5) := cell_of_row W H 5 _ _ (0, 0) XA.out
  have b5 : W.cell? ⟨H + 1, 5, none⟩ = some (.int .i64 z5) := cell_of_row W (H + 1) 5 _ _ (0, 0) XB.out
  go_wp2_with (first
    | (go_at_call 90; go_must (refine (HS.out _ HB.out).mono ?_; rintro e w2 ⟨rfl, hb⟩; clear a0 b0 a1 b1 a2 b2 a3 b3 a4 b4 a5 b5; have a0 := cell_of_row w2 H 0 _ _ (0, 0) ((hb.block H (by omega)).trans XA.out); have b0 := cell_of_row w2 (H + 1) 0 _ _ (0, 0) ((hb.block (H + 1) (by omega)).trans XB.out); have a1 := cell_of_row w2 H 1 _ _ (0, 0) ((hb.block H (by omega)).trans XA.out); have b1 := cell_of_row w2 (H + 1) 1 _ _ (0, 0) ((hb.block (H + 1) (by omega)).trans XB.out); have a2 := cell_of_row w2 H 2 _ _ (0, 0) ((hb.block H (by omega)).trans XA.out); have b2 := cell_of_row w2 (H + 1) 2 _ _ (0, 0) ((hb.block (H + 1) (by omega)).trans XB.out); have a3 := cell_of_row w2 H 3 _ _ (0, 0) ((hb.block H (by omega)).trans XA.out); have b3 := cell_of_row w2 (H + 1) 3 _ _ (0, 0) ((hb.block (H + 1) (by omega)).trans XB.out); have a4 := cell_of_row w2 H 4 _ _ (0, 0) ((hb.block H (by omega)).trans XA.out); have b4 := cell_of_row w2 (H + 1) 4 _ _ (0, 0) ((hb.block (H + 1) (by omega)).trans XB.out); have a5 := cell_of_row w2 H 5 _ _ (0, 0) ((hb.block H (by omega)).trans XA.out); have b5 := cell_of_row w2 (H + 1) 5 _ _ (0, 0) ((hb.block (H + 1) (by omega)).trans XB.out); have HBs := Lib.hid hb; have HB0 := Lib.hid (HB.out.trans (hb.mono (by omega))); clear hb))
    | (go_at_call 103; go_must (refine (HK0.out _ HB0.out).mono ?_; rintro e w3 ⟨rfl, hb⟩; clear a0 b0 a1 b1 a2 b2 a3 b3 a4 b4 a5 b5; have hbb := HBs.out.trans (hb.mono HBs.out.size); have a0 := cell_of_row w3 H 0 _ _ (0, 0) ((hbb.block H (by omega)).trans XA.out); have b0 := cell_of_row w3 (H + 1) 0 _ _ (0, 0) ((hbb.block (H + 1) (by omega)).trans XB.out); have a1 := cell_of_row w3 H 1 _ _ (0, 0) ((hbb.block H (by omega)).trans XA.out); have b1 := cell_of_row w3 (H + 1) 1 _ _ (0, 0) ((hbb.block (H + 1) (by omega)).trans XB.out); have a2 := cell_of_row w3 H 2 _ _ (0, 0) ((hbb.block H (by omega)).trans XA.out); have b2 := cell_of_row w3 (H + 1) 2 _ _ (0, 0) ((hbb.block (H + 1) (by omega)).trans XB.out); have a3 := cell_of_row w3 H 3 _ _ (0, 0) ((hbb.block H (by omega)).trans XA.out); have b3 := cell_of_row w3 (H + 1) 3 _ _ (0, 0) ((hbb.block (H + 1) (by omega)).trans XB.out); have a4 := cell_of_row w3 H 4 _ _ (0, 0) ((hbb.block H (by omega)).trans XA.out); have b4 := cell_of_row w3 (H + 1) 4 _ _ (0, 0) ((hbb.block (H + 1) (by omega)).trans XB.out); have a5 := cell_of_row w3 H 5 _ _ (0, 0) ((hbb.block H (by omega)).trans XA.out); have b5 := cell_of_row w3 (H + 1) 5 _ _ (0, 0) ((hbb.block (H + 1) (by omega)).trans XB.out); clear HBs; have HBs := Lib.hid hbb; have HB1 := Lib.hid (HB0.out.trans (hb.mono (by have := HB0.out.size; omega))); clear hb hbb)))
  go_ret
  exact ⟨rfl, by have := HB1.out; rw [hH]; exact this⟩
theorem lcells_Alt {w : World} {B g o : Nat} {l : List Al} (h : LentL mkV w B g o (alsD l)) {k : Nat} (hk : k < l.length) :
    ∃ g0, w.cell? ⟨g, o + k * 6, none⟩ = some (.slice (some ⟨g0, 0, none⟩) (l[k]'hk).words.length ((l[k]'hk).words.length + 12)) ∧ w.cell? ⟨g, o + k * 6 + 1, none⟩ = some (.string (bs (l[k]'hk).prec)) ∧ w.cell? ⟨g, o + k * 6 + 2, none⟩ = some (.bool (l[k]'hk).has) ∧ w.cell? ⟨g, o + k * 6 + 3, none⟩ = some (.string (bs (l[k]'hk).action)) ∧ w.cell? ⟨g, o + k * 6 + 4, none⟩ = some (.int .i64 (l[k]'hk).whr) ∧ w.cell? ⟨g, o + k * 6 + 5, none⟩ = some (.int .i64 (l[k]'hk).at_) ∧ LentD mkV w B (.row 33 3 (l[k]'hk).words.length (wdsD (l[k]'hk).words)) (.slice (some ⟨g0, 0, none⟩) (l[k]'hk).words.length ((l[k]'hk).words.length + 12)) := by
  rw [alsD_flat] at h
  obtain ⟨us, hu, hc⟩ := elem_lent ReadH.alD_len h hk
  obtain ⟨u0, _, rfl, h0, ⟨u1, _, rfl, h1, ⟨u2, _, rfl, h2, ⟨u3, _, rfl, h3, ⟨u4, _, rfl, h4, ⟨u5, _, rfl, h5, rfl⟩⟩⟩⟩⟩⟩ := hu
  obtain ⟨g0, rfl, _⟩ := lent_slice h0
  rw [LentD.lit_iff] at h1
  subst h1
  rw [LentD.lit_iff] at h2
  subst h2
  rw [LentD.lit_iff] at h3
  subst h3
  rw [LentD.lit_iff] at h4
  subst h4
  rw [LentD.lit_iff] at h5
  subst h5
  exact ⟨g0, hc 0 _ rfl, hc 1 _ rfl, hc 2 _ rfl, hc 3 _ rfl, hc 4 _ rfl, hc 5 _ rfl, h0⟩
def KeptOKAlt (y : Al) : Prop := ∀ (B g0 : Nat) (s0 : Value) (w : World), LentD mkV w B (.row 33 3 y.words.length (wdsD y.words)) (.slice (some ⟨g0, 0, none⟩) y.words.length (y.words.length + 12)) → Reads w (.row 33 3 y.words.length (wdsD y.words)) s0 → Calls Tryz.prog 89 #[.agg #[.slice (some ⟨g0, 0, none⟩) y.words.length (y.words.length + 12), .string (bs y.prec), .bool y.has, .string (bs y.action), .int .i64 y.whr, .int .i64 y.at_], .agg #[s0, .string (bs y.prec), .bool y.has, .string (bs y.action), .int .i64 y.whr, .int .i64 y.at_]] w fun e w' => e = .returned (.bool true) ∧ Below w.heap.size w w'
set_option maxRecDepth 100000 in
set_option maxHeartbeats 16000000 in
theorem kepts_Alt {l : List Al} {B : Nat} {v s : Value} {w : World} (ih : ∀ y ∈ l, KeptOKAlt y) (hv : LentD mkV w B (.row 35 6 l.length (alsD l)) v) (h2 : Reads w (.row 35 6 l.length (alsD l)) s) (hl : l.length ≤ 1000000) :
    Calls Tryz.prog 77 #[v, s] w fun e w' => e = .returned (.bool true) ∧ Below w.heap.size w w' := by
  obtain ⟨g, rfl, _, hL, hM⟩ := lent_slice hv
  obtain ⟨p2, c2, rfl⟩ := Reads.slice h2
  have HL := Lib.hid hL; have HM := Lib.hid hM; have H2 := Lib.hid h2; have HIH := Lib.hid ih; clear hv hL hM h2 ih
  generalize hnk : l.length = nk at *
  have HNK := Lib.hid hnk; clear hnk
  generalize hN : nk + 12 = N at *
  have e1 : ((nk : Int) + 12) = (N : Int) := by omega
  have e2 : (0 : Int) ≤ (N : Int) := by omega
  go_enter Tryz.func77, Tryz.ntmps77
  go_wp2_with fail
  go_loopg [6] N (fun gk i wr => ∃ q : Nat, q ≤ N ∧ gk = N - q ∧ i = .int .i64 (q : Int) ∧ Below w.heap.size w wr)
  case atStart => exact ⟨0, by omega, by omega, rfl, Below.refl _ _⟩
  case round =>
    obtain ⟨q, hq, rfl, rfl, hbw⟩ := hrel
    have HBW := Lib.hid hbw; clear hbw
    by_cases hlt : q < N
    · have j0 : (0 : Int) ≤ (q : Int) := by omega
      have j1 : (q : Int) < (N : Int) := by omega
      by_cases hqn : q < nk
      · have j2 : (q : Int) < (nk : Int) := by omega
        have j3 : ¬ (nk : Int) ≤ (q : Int) := by omega
        have hkl : q < l.length := by have := HNK.out; omega
        obtain ⟨g2, o2, rfl, r1⟩ := Reads.elems H2.out (by omega)
        obtain ⟨x0, y0, f0, f1, f2, f3, f4, f5, hr0⟩ := alt_cells r1 hkl
        obtain ⟨g0, d0, d1, d2, d3, d4, d5, hg0⟩ := lcells_Alt HL.out hkl
        have hmem : l[q]'hkl ∈ l := List.getElem_mem hkl
        have HY := Lib.hid (fun (u : World) (hu : Below w.heap.size w u) => HIH.out _ hmem B g0 _ u (hg0.below hu) (Reads.below hu hr0))
        rw [Nat.zero_add] at d0 d1 d2 d3 d4 d5
        have m0 := cell_on rfl HBW.out d0; have nn0 := cell_on rfl HBW.out f0
        have m1 := cell_on rfl HBW.out d1; have nn1 := cell_on rfl HBW.out f1
        have m2 := cell_on rfl HBW.out d2; have nn2 := cell_on rfl HBW.out f2
        have m3 := cell_on rfl HBW.out d3; have nn3 := cell_on rfl HBW.out f3
        have m4 := cell_on rfl HBW.out d4; have nn4 := cell_on rfl HBW.out f4
        have m5 := cell_on rfl HBW.out d5; have nn5 := cell_on rfl HBW.out f5
        clear d0 f0 d1 f1 d2 f2 d3 f3 d4 f4 d5 f5 r1 hg0 hr0 hmem
        generalize l[q]'hkl = y at *
        generalize (bs y.prec) = z1 at *
        generalize y.has = z2 at *
        generalize (bs y.action) = z3 at *
        generalize y.whr = z4 at *
        generalize y.at_ = z5 at *
        generalize y.words.length = n0x at *
        go_wp2_with fail
        refine wp_region_mixS (l1 := [_, _, _, _, _, _, _, _, _, _, _, _, _, _, _, _, _, _, _, _, _, _, _, _, _, _, _, _, _, _, _, _, _, _]) (l2 := [_]) [(0, true), (1, true), (2, true), (3, true), (4, true), (5, true), (6, true), (7, true), (8, true), (9, true), (10, true), (11, true), (12, true), (13, false), (14, true), (15, true), (16, true), (17, true), (18, true), (19, true), (20, true), (21, true), (22, true), (23, true), (24, true), (25, true), (26, true), (27, true), (28, true), (29, true), (30, true), (31, true), (32, true), (33, true)] (fun u => Below wr.heap.size wr u) (by kernel_rfl) (by kernel_rfl) (by repeat (first | refine loose_then ?_ | refine loose_block ?_ | exact loose_body (P := Tryz.prog) (fn := Tryz.f77))) ((Below.refl _ wr).drew) ?_
        refine mixS_take (.int .i64 (q : Int)) rfl rfl (fun u hu => by go_simp) ?_
        refine mixS_take (.slice (some ⟨g2, o2, none⟩) nk c2) rfl rfl (fun u hu => by go_simp) ?_
        refine mixS_take (.int .i64 (nk : Int)) rfl rfl (fun u hu => by go_simp) ?_
        refine mixS_take (.bool true) rfl rfl (fun u hu => by go_simp) ?_
        refine mixS_take (.bool true) rfl rfl (fun u hu => by go_simp) ?_
        refine mixS_take (.slice (some ⟨g, 0, none⟩) N N) rfl (wanted_at (g := 4) (b := true) (t := 27) rfl rfl (by (repeat refine put_far (by decide) ?_); refine put_here rfl ?_; (repeat refine put_size ?_); exact of_decide_eq_true rfl)) (fun u hu => by go_simp) ?_
        refine mixS_take (.int .i64 (q : Int)) rfl (wanted_at (g := 4) (b := true) (t := 27) rfl rfl (by (repeat refine put_far (by decide) ?_); refine put_here rfl ?_; (repeat refine put_size ?_); exact of_decide_eq_true rfl)) (fun u hu => by go_simp) ?_
        refine mixS_take (.pointer (some ⟨g, q * 6, none⟩)) rfl (wanted_at (g := 4) (b := true) (t := 27) rfl rfl (by (repeat refine put_far (by decide) ?_); refine put_here rfl ?_; (repeat refine put_size ?_); exact of_decide_eq_true rfl)) (fun u hu => by go_simp) ?_
        refine mixS_take (.agg #[.slice (some ⟨g0, 0, none⟩) n0x (n0x + 12), .string z1, .bool z2, .string z3, .int .i64 z4, .int .i64 z5]) rfl (wanted_at (g := 4) (b := true) (t := 27) rfl rfl (by (repeat refine put_far (by decide) ?_); refine put_here rfl ?_; (repeat refine put_size ?_); exact of_decide_eq_true rfl)) (fun u hu => by have e0 := cell_on rfl hu m0; have e1 := cell_on rfl hu m1; have e2 := cell_on rfl hu m2; have e3 := cell_on rfl hu m3; have e4 := cell_on rfl hu m4; have e5 := cell_on rfl hu m5; go_simp) ?_
        refine mixS_take (.slice (some ⟨g2, o2, none⟩) nk c2) rfl (wanted_at (g := 4) (b := true) (t := 27) rfl rfl (by (repeat refine put_far (by decide) ?_); refine put_here rfl ?_; (repeat refine put_size ?_); exact of_decide_eq_true rfl)) (fun u hu => by go_simp) ?_
        refine mixS_take (.int .i64 (q : Int)) rfl (wanted_at (g := 4) (b := true) (t := 27) rfl rfl (by (repeat refine put_far (by decide) ?_); refine put_here rfl ?_; (repeat refine put_size ?_); exact of_decide_eq_true rfl)) (fun u hu => by go_simp) ?_
        refine mixS_take (.pointer (some ⟨g2, o2 + q * 6, none⟩)) rfl (wanted_at (g := 4) (b := true) (t := 27) rfl rfl (by (repeat refine put_far (by decide) ?_); refine put_here rfl ?_; (repeat refine put_size ?_); exact of_decide_eq_true rfl)) (fun u hu => by go_simp) ?_
        refine mixS_take (.agg #[.slice x0 n0x y0, .string z1, .bool z2, .string z3, .int .i64 z4, .int .i64 z5]) rfl (wanted_at (g := 4) (b := true) (t := 27) rfl rfl (by (repeat refine put_far (by decide) ?_); refine put_here rfl ?_; (repeat refine put_size ?_); exact of_decide_eq_true rfl)) (fun u hu => by have e0 := cell_on rfl hu nn0; have e1 := cell_on rfl hu nn1; have e2 := cell_on rfl hu nn2; have e3 := cell_on rfl hu nn3; have e4 := cell_on rfl hu nn4; have e5 := cell_on rfl hu nn5; go_simp) ?_
        have HBD := Lib.hid (HBW.out.drew)
        clear m0 nn0 m1 nn1 m2 nn2 m3 nn3 m4 nn4 m5 nn5
        refine mixS_go rfl (wanted_at (g := 4) (b := true) (t := 27) rfl rfl (by (repeat refine put_far (by decide) ?_); refine put_here rfl ?_; (repeat refine put_size ?_); exact of_decide_eq_true rfl)) fun K hK => wp_go (f := 89) (args := #[(.agg #[.slice (some ⟨g0, 0, none⟩) n0x (n0x + 12), .string z1, .bool z2, .string z3, .int .i64 z4, .int .i64 z5]), (.agg #[.slice x0 n0x y0, .string z1, .bool z2, .string z3, .int .i64 z4, .int .i64 z5])]) (by go_simp) ((HY.out _ HBD.out).mono ?_)
        rintro e w2 ⟨rfl, hb⟩
        have HB2 := Lib.hid (HBD.out.trans (hb.mono HBD.out.size))
        refine hK.out _ _ (((Below.refl _ wr).drew).trans (hb.mono (by simp))) ?_
        clear hK hb
        refine mixS_take (.bool false) rfl (wanted_at (g := 4) (b := true) (t := 27) rfl rfl (by (repeat refine put_far (by decide) ?_); refine put_here rfl ?_; (repeat refine put_size ?_); exact of_decide_eq_true rfl)) (fun u hu => by go_simp) ?_
        refine mixS_take (.bool false) rfl rfl (fun u hu => by go_simp) ?_
        refine mixS_take (.bool false) rfl rfl (fun u hu => by go_simp) ?_
        refine mixS_take (.int .i64 (q : Int)) rfl (wanted_at (g := 16) (b := false) (t := 39) rfl rfl (by (repeat refine put_far (by decide) ?_); refine put_here rfl ?_; (repeat refine put_size ?_); exact of_decide_eq_true rfl)) (fun u hu => by go_simp) ?_
        refine mixS_take (.slice (some ⟨g2, o2, none⟩) nk c2) rfl (wanted_at (g := 16) (b := false) (t := 39) rfl rfl (by (repeat refine put_far (by decide) ?_); refine put_here rfl ?_; (repeat refine put_size ?_); exact of_decide_eq_true rfl)) (fun u hu => by go_simp) ?_
        refine mixS_take (.int .i64 (nk : Int)) rfl (wanted_at (g := 16) (b := false) (t := 39) rfl rfl (by (repeat refine put_far (by decide) ?_); refine put_here rfl ?_; (repeat refine put_size ?_); exact of_decide_eq_true rfl)) (fun u hu => by go_simp) ?_
        refine mixS_take (.bool false) rfl (wanted_at (g := 16) (b := false) (t := 39) rfl rfl (by (repeat refine put_far (by decide) ?_); refine put_here rfl ?_; (repeat refine put_size ?_); exact of_decide_eq_true rfl)) (fun u hu => by go_simp) ?_
        refine mixS_take (.bool false) rfl (wanted_at (g := 16) (b := false) (t := 39) rfl rfl (by (repeat refine put_far (by decide) ?_); refine put_here rfl ?_; (repeat refine put_size ?_); exact of_decide_eq_true rfl)) (fun u hu => by go_simp) ?_
        refine mixS_skip rfl (unwanted_at (g := 21) (b := true) (t := 44) (c := false) rfl rfl (by (repeat refine put_far (by decide) ?_); refine put_here rfl ?_; (repeat refine put_size ?_); exact of_decide_eq_true rfl) (by decide)) ?_
        refine mixS_skip rfl (unwanted_at (g := 21) (b := true) (t := 44) (c := false) rfl rfl (by (repeat refine put_far (by decide) ?_); refine put_here rfl ?_; (repeat refine put_size ?_); exact of_decide_eq_true rfl) (by decide)) ?_
        refine mixS_skip rfl (unwanted_at (g := 21) (b := true) (t := 44) (c := false) rfl rfl (by (repeat refine put_far (by decide) ?_); refine put_here rfl ?_; (repeat refine put_size ?_); exact of_decide_eq_true rfl) (by decide)) ?_
        refine mixS_skip rfl (unwanted_at (g := 21) (b := true) (t := 44) (c := false) rfl rfl (by (repeat refine put_far (by decide) ?_); refine put_here rfl ?_; (repeat refine put_size ?_); exact of_decide_eq_true rfl) (by decide)) ?_
        refine mixS_skip rfl (unwanted_at (g := 21) (b := true) (t := 44) (c := false) rfl rfl (by (repeat refine put_far (by decide) ?_); refine put_here rfl ?_; (repeat refine put_size ?_); exact of_decide_eq_true rfl) (by decide)) ?_
        refine mixS_skip rfl (unwanted_at (g := 21) (b := true) (t := 44) (c := false) rfl rfl (by (repeat refine put_far (by decide) ?_); refine put_here rfl ?_; (repeat refine put_size ?_); exact of_decide_eq_true rfl) (by decide)) ?_
        refine mixS_skip rfl (unwanted_at (g := 21) (b := true) (t := 44) (c := false) rfl rfl (by (repeat refine put_far (by decide) ?_); refine put_here rfl ?_; (repeat refine put_size ?_); exact of_decide_eq_true rfl) (by decide)) ?_
        refine mixS_skip rfl (unwanted_at (g := 21) (b := true) (t := 44) (c := false) rfl rfl (by (repeat refine put_far (by decide) ?_); refine put_here rfl ?_; (repeat refine put_size ?_); exact of_decide_eq_true rfl) (by decide)) ?_
        refine mixS_skip rfl (unwanted_at (g := 21) (b := true) (t := 44) (c := false) rfl rfl (by (repeat refine put_far (by decide) ?_); refine put_here rfl ?_; (repeat refine put_size ?_); exact of_decide_eq_true rfl) (by decide)) ?_
        refine mixS_skip rfl (unwanted_at (g := 21) (b := true) (t := 44) (c := false) rfl rfl (by (repeat refine put_far (by decide) ?_); refine put_here rfl ?_; (repeat refine put_size ?_); exact of_decide_eq_true rfl) (by decide)) ?_
        refine mixS_skip rfl (unwanted_at (g := 21) (b := true) (t := 44) (c := false) rfl rfl (by (repeat refine put_far (by decide) ?_); refine put_here rfl ?_; (repeat refine put_size ?_); exact of_decide_eq_true rfl) (by decide)) ?_
        refine mixS_take (.bool false) rfl (wanted_at (g := 16) (b := false) (t := 39) rfl rfl (by (repeat refine put_far (by decide) ?_); refine put_here rfl ?_; (repeat refine put_size ?_); exact of_decide_eq_true rfl)) (fun u hu => by go_simp) ?_
        show wpList _ _ _ _ _ _
        go_wp2
        go_roundg (N - (q + 1))
        case measure => omega
        case rel => exact ⟨q + 1, by omega, rfl, by go_num, HB2.out⟩
      · obtain ⟨j, hj⟩ : ∃ j, q = nk + j := ⟨q - nk, by omega⟩
        have hj12 : j < 12 := by omega
        have j2 : ¬ (q : Int) < (nk : Int) := by omega
        have j3 : (nk : Int) ≤ (q : Int) := by omega
        have j4 : (q : Int) - (nk : Int) = (j : Int) := by omega
        have d0 := HM.out (j * 6 + 0) _ (mark_at (f := (fun i : Nat => [.slice none 0 0, .string { data := #[] }, .bool false, .string { data := #[] }, .int .i64 0, .int .i64 (8000024 + (i : Int))])) (S := 6) (fun _ => rfl) hj12 (by omega))
        rw [show nk * 6 + (j * 6 + 0) = q * 6 by omega] at d0
        have m0 : wr.cell? ⟨g, q * 6, none⟩ = some (.slice none 0 0) := cell_on rfl HBW.out d0
        have d1 := HM.out (j * 6 + 1) _ (mark_at (f := (fun i : Nat => [.slice none 0 0, .string { data := #[] }, .bool false, .string { data := #[] }, .int .i64 0, .int .i64 (8000024 + (i : Int))])) (S := 6) (fun _ => rfl) hj12 (by omega))
        rw [show nk * 6 + (j * 6 + 1) = q * 6 + 1 by omega] at d1
        have m1 : wr.cell? ⟨g, q * 6 + 1, none⟩ = some (.string { data := #[] }) := cell_on rfl HBW.out d1
        have d2 := HM.out (j * 6 + 2) _ (mark_at (f := (fun i : Nat => [.slice none 0 0, .string { data := #[] }, .bool false, .string { data := #[] }, .int .i64 0, .int .i64 (8000024 + (i : Int))])) (S := 6) (fun _ => rfl) hj12 (by omega))
        rw [show nk * 6 + (j * 6 + 2) = q * 6 + 2 by omega] at d2
        have m2 : wr.cell? ⟨g, q * 6 + 2, none⟩ = some (.bool false) := cell_on rfl HBW.out d2
        have d3 := HM.out (j * 6 + 3) _ (mark_at (f := (fun i : Nat => [.slice none 0 0, .string { data := #[] }, .bool false, .string { data := #[] }, .int .i64 0, .int .i64 (8000024 + (i : Int))])) (S := 6) (fun _ => rfl) hj12 (by omega))
        rw [show nk * 6 + (j * 6 + 3) = q * 6 + 3 by omega] at d3
        have m3 : wr.cell? ⟨g, q * 6 + 3, none⟩ = some (.string { data := #[] }) := cell_on rfl HBW.out d3
        have d4 := HM.out (j * 6 + 4) _ (mark_at (f := (fun i : Nat => [.slice none 0 0, .string { data := #[] }, .bool false, .string { data := #[] }, .int .i64 0, .int .i64 (8000024 + (i : Int))])) (S := 6) (fun _ => rfl) hj12 (by omega))
        rw [show nk * 6 + (j * 6 + 4) = q * 6 + 4 by omega] at d4
        have m4 : wr.cell? ⟨g, q * 6 + 4, none⟩ = some (.int .i64 0) := cell_on rfl HBW.out d4
        have d5 := HM.out (j * 6 + 5) _ (mark_at (f := (fun i : Nat => [.slice none 0 0, .string { data := #[] }, .bool false, .string { data := #[] }, .int .i64 0, .int .i64 (8000024 + (i : Int))])) (S := 6) (fun _ => rfl) hj12 (by omega))
        rw [show nk * 6 + (j * 6 + 5) = q * 6 + 5 by omega] at d5
        have m5 : wr.cell? ⟨g, q * 6 + 5, none⟩ = some (.int .i64 (8000024 + (j : Int))) := cell_on rfl HBW.out d5
        have HSM := Lib.hid (fun (u : World) (_ : Below w.heap.size w u) => show Calls Tryz.prog 90 #[.agg #[.slice none 0 0, .string { data := #[] }, .bool false, .string { data := #[] }, .int .i64 0, .int .i64 (8000024 + (j : Int))], .agg #[.slice none 0 0, .string { data := #[] }, .bool false, .string { data := #[] }, .int .i64 0, .int .i64 (8000024 + (j : Int))]] u fun e w' => e = .returned (.bool true) ∧ Below u.heap.size u w' from same_alt (x := ⟨[], [], false, [], 0, (8000024 + (j : Int))⟩) (nil_row _ _ _) (nil_row _ _ _))
        have HMK := Lib.hid (fun u => mark_Alt j (by omega) u)
        clear d0 d1 d2 d3 d4 d5
        generalize 8000024 + (j : Int) = mj at *
        have HJ := Lib.hid hj; clear hj
        go_wp2_with fail
        refine wp_region_mixS (l1 := [_, _, _, _, _, _, _, _, _, _, _, _, _, _, _, _, _, _, _, _, _, _, _, _, _, _, _, _, _, _, _, _, _, _]) (l2 := [_]) [(0, true), (1, true), (2, true), (3, true), (4, true), (5, true), (6, true), (7, true), (8, true), (9, true), (10, true), (11, true), (12, true), (13, true), (14, true), (15, true), (16, true), (17, true), (18, true), (19, true), (20, true), (21, true), (22, true), (23, true), (24, true), (25, true), (26, true), (27, true), (28, true), (29, true), (30, false), (31, false), (32, true), (33, true)] (fun u => Below wr.heap.size wr u) (by kernel_rfl) (by kernel_rfl) (by repeat (first | refine loose_then ?_ | refine loose_block ?_ | exact loose_body (P := Tryz.prog) (fn := Tryz.f77))) ((Below.refl _ wr).drew) ?_
        refine mixS_take (.int .i64 (q : Int)) rfl rfl (fun u hu => by go_simp) ?_
        refine mixS_take (.slice p2 nk c2) rfl rfl (fun u hu => by go_simp) ?_
        refine mixS_take (.int .i64 (nk : Int)) rfl rfl (fun u hu => by go_simp) ?_
        refine mixS_take (.bool false) rfl rfl (fun u hu => by go_simp) ?_
        refine mixS_take (.bool false) rfl rfl (fun u hu => by go_simp) ?_
        refine mixS_skip rfl (unwanted_at (g := 4) (b := true) (t := 27) (c := false) rfl rfl (by (repeat refine put_far (by decide) ?_); refine put_here rfl ?_; (repeat refine put_size ?_); exact of_decide_eq_true rfl) (by decide)) ?_
        refine mixS_skip rfl (unwanted_at (g := 4) (b := true) (t := 27) (c := false) rfl rfl (by (repeat refine put_far (by decide) ?_); refine put_here rfl ?_; (repeat refine put_size ?_); exact of_decide_eq_true rfl) (by decide)) ?_
        refine mixS_skip rfl (unwanted_at (g := 4) (b := true) (t := 27) (c := false) rfl rfl (by (repeat refine put_far (by decide) ?_); refine put_here rfl ?_; (repeat refine put_size ?_); exact of_decide_eq_true rfl) (by decide)) ?_
        refine mixS_skip rfl (unwanted_at (g := 4) (b := true) (t := 27) (c := false) rfl rfl (by (repeat refine put_far (by decide) ?_); refine put_here rfl ?_; (repeat refine put_size ?_); exact of_decide_eq_true rfl) (by decide)) ?_
        refine mixS_skip rfl (unwanted_at (g := 4) (b := true) (t := 27) (c := false) rfl rfl (by (repeat refine put_far (by decide) ?_); refine put_here rfl ?_; (repeat refine put_size ?_); exact of_decide_eq_true rfl) (by decide)) ?_
        refine mixS_skip rfl (unwanted_at (g := 4) (b := true) (t := 27) (c := false) rfl rfl (by (repeat refine put_far (by decide) ?_); refine put_here rfl ?_; (repeat refine put_size ?_); exact of_decide_eq_true rfl) (by decide)) ?_
        refine mixS_skip rfl (unwanted_at (g := 4) (b := true) (t := 27) (c := false) rfl rfl (by (repeat refine put_far (by decide) ?_); refine put_here rfl ?_; (repeat refine put_size ?_); exact of_decide_eq_true rfl) (by decide)) ?_
        refine mixS_skip rfl (unwanted_at (g := 4) (b := true) (t := 27) (c := false) rfl rfl (by (repeat refine put_far (by decide) ?_); refine put_here rfl ?_; (repeat refine put_size ?_); exact of_decide_eq_true rfl) (by decide)) ?_
        refine mixS_skip rfl (unwanted_at (g := 4) (b := true) (t := 27) (c := false) rfl rfl (by (repeat refine put_far (by decide) ?_); refine put_here rfl ?_; (repeat refine put_size ?_); exact of_decide_eq_true rfl) (by decide)) ?_
        refine mixS_skip rfl (unwanted_at (g := 4) (b := true) (t := 27) (c := false) rfl rfl (by (repeat refine put_far (by decide) ?_); refine put_here rfl ?_; (repeat refine put_size ?_); exact of_decide_eq_true rfl) (by decide)) ?_
        refine mixS_take (.bool false) rfl rfl (fun u hu => by go_simp) ?_
        refine mixS_take (.bool false) rfl rfl (fun u hu => by go_simp) ?_
        refine mixS_take (.int .i64 (q : Int)) rfl (wanted_at (g := 16) (b := false) (t := 39) rfl rfl (by (repeat refine put_far (by decide) ?_); refine put_here rfl ?_; (repeat refine put_size ?_); exact of_decide_eq_true rfl)) (fun u hu => by go_simp) ?_
        refine mixS_take (.slice p2 nk c2) rfl (wanted_at (g := 16) (b := false) (t := 39) rfl rfl (by (repeat refine put_far (by decide) ?_); refine put_here rfl ?_; (repeat refine put_size ?_); exact of_decide_eq_true rfl)) (fun u hu => by go_simp) ?_
        refine mixS_take (.int .i64 (nk : Int)) rfl (wanted_at (g := 16) (b := false) (t := 39) rfl rfl (by (repeat refine put_far (by decide) ?_); refine put_here rfl ?_; (repeat refine put_size ?_); exact of_decide_eq_true rfl)) (fun u hu => by go_simp) ?_
        refine mixS_take (.bool true) rfl (wanted_at (g := 16) (b := false) (t := 39) rfl rfl (by (repeat refine put_far (by decide) ?_); refine put_here rfl ?_; (repeat refine put_size ?_); exact of_decide_eq_true rfl)) (fun u hu => by go_simp) ?_
        refine mixS_take (.bool true) rfl (wanted_at (g := 16) (b := false) (t := 39) rfl rfl (by (repeat refine put_far (by decide) ?_); refine put_here rfl ?_; (repeat refine put_size ?_); exact of_decide_eq_true rfl)) (fun u hu => by go_simp) ?_
        refine mixS_take (.slice (some ⟨g, 0, none⟩) N N) rfl (wanted_at (g := 21) (b := true) (t := 44) rfl rfl (by (repeat refine put_far (by decide) ?_); refine put_here rfl ?_; (repeat refine put_size ?_); exact of_decide_eq_true rfl)) (fun u hu => by go_simp) ?_
        refine mixS_take (.int .i64 (q : Int)) rfl (wanted_at (g := 21) (b := true) (t := 44) rfl rfl (by (repeat refine put_far (by decide) ?_); refine put_here rfl ?_; (repeat refine put_size ?_); exact of_decide_eq_true rfl)) (fun u hu => by go_simp) ?_
        refine mixS_take (.pointer (some ⟨g, q * 6, none⟩)) rfl (wanted_at (g := 21) (b := true) (t := 44) rfl rfl (by (repeat refine put_far (by decide) ?_); refine put_here rfl ?_; (repeat refine put_size ?_); exact of_decide_eq_true rfl)) (fun u hu => by go_simp) ?_
        refine mixS_take (.agg #[.slice none 0 0, .string { data := #[] }, .bool false, .string { data := #[] }, .int .i64 0, .int .i64 mj]) rfl (wanted_at (g := 21) (b := true) (t := 44) rfl rfl (by (repeat refine put_far (by decide) ?_); refine put_here rfl ?_; (repeat refine put_size ?_); exact of_decide_eq_true rfl)) (fun u hu => by have e0 := cell_on rfl hu m0; have e1 := cell_on rfl hu m1; have e2 := cell_on rfl hu m2; have e3 := cell_on rfl hu m3; have e4 := cell_on rfl hu m4; have e5 := cell_on rfl hu m5; go_simp) ?_
        refine mixS_take (.int .i64 (q : Int)) rfl (wanted_at (g := 21) (b := true) (t := 44) rfl rfl (by (repeat refine put_far (by decide) ?_); refine put_here rfl ?_; (repeat refine put_size ?_); exact of_decide_eq_true rfl)) (fun u hu => by go_simp) ?_
        refine mixS_take (.slice p2 nk c2) rfl (wanted_at (g := 21) (b := true) (t := 44) rfl rfl (by (repeat refine put_far (by decide) ?_); refine put_here rfl ?_; (repeat refine put_size ?_); exact of_decide_eq_true rfl)) (fun u hu => by go_simp) ?_
        refine mixS_take (.int .i64 (nk : Int)) rfl (wanted_at (g := 21) (b := true) (t := 44) rfl rfl (by (repeat refine put_far (by decide) ?_); refine put_here rfl ?_; (repeat refine put_size ?_); exact of_decide_eq_true rfl)) (fun u hu => by go_simp) ?_
        refine mixS_take (.int .i64 (j : Int)) rfl (wanted_at (g := 21) (b := true) (t := 44) rfl rfl (by (repeat refine put_far (by decide) ?_); refine put_here rfl ?_; (repeat refine put_size ?_); exact of_decide_eq_true rfl)) (fun u hu => by go_simp; exact IntWalk.i64_in _ ⟨by omega, by omega⟩) ?_
        have HBD := Lib.hid (HBW.out.drew)
        clear m0 m1 m2 m3 m4 m5
        refine mixS_go rfl (wanted_at (g := 21) (b := true) (t := 44) rfl rfl (by (repeat refine put_far (by decide) ?_); refine put_here rfl ?_; (repeat refine put_size ?_); exact of_decide_eq_true rfl)) fun K hK => wp_go (f := 83) (args := #[.int .i64 1, .int .i64 (j : Int)]) (by go_simp) ((HMK.out _).mono ?_)
        rintro e w2 ⟨rfl, hb⟩
        have HB2 := Lib.hid (HBD.out.trans (hb.mono HBD.out.size))
        have HBR2 := Lib.hid (show Below wr.heap.size wr w2 from ((Below.refl _ wr).drew).trans (hb.mono (by simp)))
        refine hK.out _ _ HBR2.out ?_
        clear hK hb
        refine mixS_go rfl (wanted_at (g := 21) (b := true) (t := 44) rfl rfl (by (repeat refine put_far (by decide) ?_); refine put_here rfl ?_; (repeat refine put_size ?_); exact of_decide_eq_true rfl)) fun K hK => wp_go (f := 90) (args := #[(.agg #[.slice none 0 0, .string { data := #[] }, .bool false, .string { data := #[] }, .int .i64 0, .int .i64 mj]), (.agg #[.slice none 0 0, .string { data := #[] }, .bool false, .string { data := #[] }, .int .i64 0, .int .i64 mj])]) (by go_simp) ((HSM.out _ HB2.out).mono ?_)
        rintro e w3 ⟨rfl, hb⟩
        have HB3 := Lib.hid (HB2.out.trans (hb.mono HB2.out.size))
        refine hK.out _ _ (HBR2.out.trans (hb.mono HBR2.out.size)) ?_
        clear hK hb
        refine mixS_take (.bool false) rfl (wanted_at (g := 21) (b := true) (t := 44) rfl rfl (by (repeat refine put_far (by decide) ?_); refine put_here rfl ?_; (repeat refine put_size ?_); exact of_decide_eq_true rfl)) (fun u hu => by go_simp) ?_
        refine mixS_take (.bool false) rfl (wanted_at (g := 16) (b := false) (t := 39) rfl rfl (by (repeat refine put_far (by decide) ?_); refine put_here rfl ?_; (repeat refine put_size ?_); exact of_decide_eq_true rfl)) (fun u hu => by go_simp) ?_
        show wpList _ _ _ _ _ _
        go_wp2
        go_roundg (N - (q + 1))
        case measure => omega
        case rel => exact ⟨q + 1, by omega, rfl, by go_num, HB3.out⟩
    · obtain rfl : q = N := by omega
      go_wp2
      go_ret
      exact ⟨rfl, HBW.out⟩
theorem kept_al (x : Al) (ho : AlOk x) : KeptOKAlt x := fun _ _ _ _ hg hr => kept_Alt hg hr ho
end Go.Proofs.YtghebacphjglbaaGreat.SrcD
