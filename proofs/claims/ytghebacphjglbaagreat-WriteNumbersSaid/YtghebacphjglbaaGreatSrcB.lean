/- gristmillkit.Kept.. of grammars' texts, at what Lent.. told: true. (Printed by src2_gen.py.) -/
import Derived.Test.YtghebacphjglbaaGreatSrcA
import Derived.Test.YtghebacphjglbaaGreatSame
import Derived.Test.YtghebacphjglbaaGreatM2
namespace Go.Proofs.YtghebacphjglbaaGreat.SrcB
open Go Go.RowKit Go.Proofs.YtghebacphjglbaaGreat.Lexy Go.Proofs.YtghebacphjglbaaGreat.LexA Go.Proofs.YtghebacphjglbaaGreat.LexB Go.Proofs.YtghebacphjglbaaGreat.LexC Go.Proofs.YtghebacphjglbaaGreat.LexD Go.Proofs.YtghebacphjglbaaGreat.LexE Go.Proofs.YtghebacphjglbaaGreat.LexF Go.Proofs.YtghebacphjglbaaGreat.LexG Go.Proofs.YtghebacphjglbaaGreat.Heap Go.Proofs.YtghebacphjglbaaGreat.Dat Go.Proofs.YtghebacphjglbaaGreat.Ready Go.Proofs.YtghebacphjglbaaGreat.ReadA Go.Proofs.YtghebacphjglbaaGreat.ReadC Go.Proofs.YtghebacphjglbaaGreat.ReadH Go.Proofs.YtghebacphjglbaaGreat.ReadI Go.Proofs.YtghebacphjglbaaGreat.ReadM Go.Proofs.YtghebacphjglbaaGreat.ReadO Go.Proofs.YtghebacphjglbaaGreat.Same Go.Proofs.YtghebacphjglbaaGreat.Cut Go.Proofs.YtghebacphjglbaaGreat.LentK Go.Proofs.YtghebacphjglbaaGreat.SrcA

theorem flat_at {α β : Type} (f : α → List β) (S : Nat) (hS : ∀ x, (f x).length = S) : ∀ (l : List α) (k j : Nat) (hk : k < l.length), j < S → (l.flatMap f)[k * S + j]? = (f (l[k]'hk))[j]?
  | x :: l, 0, j, _, hj => by
    rw [List.flatMap_cons, Nat.zero_mul, Nat.zero_add, List.getElem?_append_left (by rw [hS]; exact hj)]; rfl
  | x :: l, k + 1, j, hk, hj => by
    rw [List.flatMap_cons, List.getElem?_append_right (by rw [hS, Nat.add_one_mul]; omega), hS, show (k + 1) * S + j - S = k * S + j by rw [Nat.add_one_mul]; omega]
    exact flat_at f S hS l k j (by simpa using hk) hj
theorem mark_at {f : Nat → List Value} {S : Nat} (hf : ∀ i, (f i).length = S) {n j i : Nat} (hj : j < n) (hi : i < S) : ((List.range n).flatMap f)[j * S + i]? = (f j)[i]? := by
  rw [flat_at f S hf _ j i (by simpa using hj) hi]; simp
theorem lent_slice {w : World} {B : Nat} {E : TypeId} {S n : Nat} {items : List Dat} {v : Value} (h : LentD mkV w B (.row E S n items) v) : ∃ g, v = .slice (some ⟨g, 0, none⟩) n (n + 12) ∧ B ≤ g ∧ LentL mkV w B g 0 items ∧ ∀ j u, (mkV E)[j]? = some u → w.cell? ⟨g, n * S + j, none⟩ = some u := by
  rw [LentD.row_iff] at h
  obtain ⟨_, _, g, h1, h2, h3, h4⟩ := h
  exact ⟨g, h1, h2, h3, h4⟩
set_option maxRecDepth 100000 in
set_option maxHeartbeats 16000000 in
theorem kepts_Texts {l : List (List UInt8)} {B : Nat} {v s : Value} {w : World} (hv : LentD mkV w B (.row 9 1 l.length (nmsD l)) v) (h2 : Reads w (.row 9 1 l.length (nmsD l)) s) (hl : l.length ≤ 1000000) :
    Calls Tryz.prog 75 #[v, s] w fun e w' => e = .returned (.bool true) ∧ Below w.heap.size w w' := by
  obtain ⟨g, rfl, _, hL, hM⟩ := lent_slice hv
  obtain ⟨p2, c2, rfl⟩ := Reads.slice h2
  have HL := Lib.hid hL; have HM := Lib.hid hM; have H2 := Lib.hid h2; clear hv hL hM h2
  generalize hnk : l.length = nk at *
  have HNK := Lib.hid hnk; clear hnk
  generalize hN : nk + 12 = N at *
  have e1 : ((nk : Int) + 12) = (N : Int) := by omega
  have e2 : (0 : Int) ≤ (N : Int) := by omega
  go_enter Tryz.func75, Tryz.ntmps75
  go_wp2_with fail
  go_loopg [6] N (fun gk i wr => ∃ q : Nat, q ≤ N ∧ gk = N - q ∧ i = .int .i64 (q : Int) ∧ Below w.heap.size w wr)
  case atStart => exact ⟨0, by omega, by omega, rfl, Below.refl _ _⟩
  case round =>
    obtain ⟨q, hq, rfl, rfl, hbw⟩ := hrel
    have HBW := Lib.hid hbw; clear hbw
    by_cases hlt : q < N
    · have j0 : (0 : Int) ≤ (q : Int) := by omega
      have j1 : (q : Int) < (N : Int) := by omega
      by_cases hqn : q < nk
      · have j2 : (q : Int) < (nk : Int) := by omega
        have j3 : ¬ (nk : Int) ≤ (q : Int) := by omega
        have hkl : q < l.length := by have := HNK.out; omega
        obtain ⟨g2, o2, rfl, r1⟩ := Reads.elems H2.out (by omega)
        have d0 := name_cell (LentL.reads HL.out) hkl
        have f0 := name_cell r1 hkl
        rw [Nat.zero_add] at d0
        have m0 := cell_on rfl HBW.out d0; have nn0 := cell_on rfl HBW.out f0
        clear d0 f0 r1
        generalize bs (l[q]'hkl) = zy at *
        have hbe : (zy.toList == zy.toList) = true := beq_self_eq_true _
        go_wp2_with fail
        refine wp_region_mixS (l1 := [_, _, _, _, _, _, _, _, _, _, _, _, _, _, _, _, _, _, _, _, _, _, _, _, _, _, _, _, _, _, _, _, _, _]) (l2 := [_]) [(0, true), (1, true), (2, true), (3, true), (4, true), (5, true), (6, true), (7, true), (8, true), (9, true), (10, true), (11, true), (12, true), (13, true), (14, true), (15, true), (16, true), (17, true), (18, true), (19, true), (20, true), (21, true), (22, true), (23, true), (24, true), (25, true), (26, true), (27, true), (28, true), (29, true), (30, true), (31, true), (32, true), (33, true)] (fun u => Below wr.heap.size wr u) (by kernel_rfl) (by kernel_rfl) (by repeat (first | refine loose_then ?_ | refine loose_block ?_ | exact loose_body (P := Tryz.prog) (fn := Tryz.f75))) ((Below.refl _ wr).drew) ?_
        refine mixS_take (.int .i64 (q : Int)) rfl rfl (fun u hu => by go_simp) ?_
        refine mixS_take (.slice (some ⟨g2, o2, none⟩) nk c2) rfl rfl (fun u hu => by go_simp) ?_
        refine mixS_take (.int .i64 (nk : Int)) rfl rfl (fun u hu => by go_simp) ?_
        refine mixS_take (.bool true) rfl rfl (fun u hu => by go_simp) ?_
        refine mixS_take (.bool true) rfl rfl (fun u hu => by go_simp) ?_
        refine mixS_take (.slice (some ⟨g, 0, none⟩) N N) rfl (wanted_at (g := 4) (b := true) (t := 27) rfl rfl (by (repeat refine put_far (by decide) ?_); refine put_here rfl ?_; (repeat refine put_size ?_); exact of_decide_eq_true rfl)) (fun u hu => by go_simp) ?_
        refine mixS_take (.int .i64 (q : Int)) rfl (wanted_at (g := 4) (b := true) (t := 27) rfl rfl (by (repeat refine put_far (by decide) ?_); refine put_here rfl ?_; (repeat refine put_size ?_); exact of_decide_eq_true rfl)) (fun u hu => by go_simp) ?_
        refine mixS_take (.pointer (some ⟨g, q, none⟩)) rfl (wanted_at (g := 4) (b := true) (t := 27) rfl rfl (by (repeat refine put_far (by decide) ?_); refine put_here rfl ?_; (repeat refine put_size ?_); exact of_decide_eq_true rfl)) (fun u hu => by go_simp) ?_
        refine mixS_take (.string zy) rfl (wanted_at (g := 4) (b := true) (t := 27) rfl rfl (by (repeat refine put_far (by decide) ?_); refine put_here rfl ?_; (repeat refine put_size ?_); exact of_decide_eq_true rfl)) (fun u hu => by have e0 := cell_on rfl hu m0; go_simp) ?_
        refine mixS_take (.slice (some ⟨g2, o2, none⟩) nk c2) rfl (wanted_at (g := 4) (b := true) (t := 27) rfl rfl (by (repeat refine put_far (by decide) ?_); refine put_here rfl ?_; (repeat refine put_size ?_); exact of_decide_eq_true rfl)) (fun u hu => by go_simp) ?_
        refine mixS_take (.int .i64 (q : Int)) rfl (wanted_at (g := 4) (b := true) (t := 27) rfl rfl (by (repeat refine put_far (by decide) ?_); refine put_here rfl ?_; (repeat refine put_size ?_); exact of_decide_eq_true rfl)) (fun u hu => by go_simp) ?_
        refine mixS_take (.pointer (some ⟨g2, o2 + q, none⟩)) rfl (wanted_at (g := 4) (b := true) (t := 27) rfl rfl (by (repeat refine put_far (by decide) ?_); refine put_here rfl ?_; (repeat refine put_size ?_); exact of_decide_eq_true rfl)) (fun u hu => by go_simp) ?_
        refine mixS_take (.string zy) rfl (wanted_at (g := 4) (b := true) (t := 27) rfl rfl (by (repeat refine put_far (by decide) ?_); refine put_here rfl ?_; (repeat refine put_size ?_); exact of_decide_eq_true rfl)) (fun u hu => by have e0 := cell_on rfl hu nn0; go_simp) ?_
        have HB2 := Lib.hid (HBW.out.drew)
        refine mixS_take (.bool true) rfl (wanted_at (g := 4) (b := true) (t := 27) rfl rfl (by (repeat refine put_far (by decide) ?_); refine put_here rfl ?_; (repeat refine put_size ?_); exact of_decide_eq_true rfl)) (fun u hu => by go_simp) ?_
        refine mixS_take (.bool false) rfl (wanted_at (g := 4) (b := true) (t := 27) rfl rfl (by (repeat refine put_far (by decide) ?_); refine put_here rfl ?_; (repeat refine put_size ?_); exact of_decide_eq_true rfl)) (fun u hu => by go_simp) ?_
        refine mixS_take (.bool false) rfl rfl (fun u hu => by go_simp) ?_
        refine mixS_take (.bool false) rfl rfl (fun u hu => by go_simp) ?_
        refine mixS_take (.int .i64 (q : Int)) rfl (wanted_at (g := 16) (b := false) (t := 39) rfl rfl (by (repeat refine put_far (by decide) ?_); refine put_here rfl ?_; (repeat refine put_size ?_); exact of_decide_eq_true rfl)) (fun u hu => by go_simp) ?_
        refine mixS_take (.slice (some ⟨g2, o2, none⟩) nk c2) rfl (wanted_at (g := 16) (b := false) (t := 39) rfl rfl (by (repeat refine put_far (by decide) ?_); refine put_here rfl ?_; (repeat refine put_size ?_); exact of_decide_eq_true rfl)) (fun u hu => by go_simp) ?_
        refine mixS_take (.int .i64 (nk : Int)) rfl (wanted_at (g := 16) (b := false) (t := 39) rfl rfl (by (repeat refine put_far (by decide) ?_); refine put_here rfl ?_; (repeat refine put_size ?_); exact of_decide_eq_true rfl)) (fun u hu => by go_simp) ?_
        refine mixS_take (.bool false) rfl (wanted_at (g := 16) (b := false) (t := 39) rfl rfl (by (repeat refine put_far (by decide) ?_); refine put_here rfl ?_; (repeat refine put_size ?_); exact of_decide_eq_true rfl)) (fun u hu => by go_simp) ?_
        refine mixS_take (.bool false) rfl (wanted_at (g := 16) (b := false) (t := 39) rfl rfl (by (repeat refine put_far (by decide) ?_); refine put_here rfl ?_; (repeat refine put_size ?_); exact of_decide_eq_true rfl)) (fun u hu => by go_simp) ?_
        refine mixS_skip rfl (unwanted_at (g := 21) (b := true) (t := 44) (c := false) rfl rfl (by (repeat refine put_far (by decide) ?_); refine put_here rfl ?_; (repeat refine put_size ?_); exact of_decide_eq_true rfl) (by decide)) ?_
        refine mixS_skip rfl (unwanted_at (g := 21) (b := true) (t := 44) (c := false) rfl rfl (by (repeat refine put_far (by decide) ?_); refine put_here rfl ?_; (repeat refine put_size ?_); exact of_decide_eq_true rfl) (by decide)) ?_
        refine mixS_skip rfl (unwanted_at (g := 21) (b := true) (t := 44) (c := false) rfl rfl (by (repeat refine put_far (by decide) ?_); refine put_here rfl ?_; (repeat refine put_size ?_); exact of_decide_eq_true rfl) (by decide)) ?_
        refine mixS_skip rfl (unwanted_at (g := 21) (b := true) (t := 44) (c := false) rfl rfl (by (repeat refine put_far (by decide) ?_); refine put_here rfl ?_; (repeat refine put_size ?_); exact of_decide_eq_true rfl) (by decide)) ?_
        refine mixS_skip rfl (unwanted_at (g := 21) (b := true) (t := 44) (c := false) rfl rfl (by (repeat refine put_far (by decide) ?_); refine put_here rfl ?_; (repeat refine put_size ?_); exact of_decide_eq_true rfl) (by decide)) ?_
        refine mixS_skip rfl (unwanted_at (g := 21) (b := true) (t := 44) (c := false) rfl rfl (by (repeat refine put_far (by decide) ?_); refine put_here rfl ?_; (repeat refine put_size ?_); exact of_decide_eq_true rfl) (by decide)) ?_
        refine mixS_skip rfl (unwanted_at (g := 21) (b := true) (t := 44) (c := false) rfl rfl (by (repeat refine put_far (by decide) ?_); refine put_here rfl ?_; (repeat refine put_size ?_); exact of_decide_eq_true rfl) (by decide)) ?_
        refine mixS_skip rfl (unwanted_at (g := 21) (b := true) (t := 44) (c := false) rfl rfl (by (repeat refine put_far (by decide) ?_); refine put_here rfl ?_; (repeat refine put_size ?_); exact of_decide_eq_true rfl) (by decide)) ?_
        refine mixS_skip rfl (unwanted_at (g := 21) (b := true) (t := 44) (c := false) rfl rfl (by (repeat refine put_far (by decide) ?_); refine put_here rfl ?_; (repeat refine put_size ?_); exact of_decide_eq_true rfl) (by decide)) ?_
        refine mixS_skip rfl (unwanted_at (g := 21) (b := true) (t := 44) (c := false) rfl rfl (by (repeat refine put_far (by decide) ?_); refine put_here rfl ?_; (repeat refine put_size ?_); exact of_decide_eq_true rfl) (by decide)) ?_
        refine mixS_skip rfl (unwanted_at (g := 21) (b := true) (t := 44) (c := false) rfl rfl (by (repeat refine put_far (by decide) ?_); refine put_here rfl ?_; (repeat refine put_size ?_); exact of_decide_eq_true rfl) (by decide)) ?_
        refine mixS_take (.bool false) rfl (wanted_at (g := 16) (b := false) (t := 39) rfl rfl (by (repeat refine put_far (by decide) ?_); refine put_here rfl ?_; (repeat refine put_size ?_); exact of_decide_eq_true rfl)) (fun u hu => by go_simp) ?_
        show wpList _ _ _ _ _ _
        go_wp2
        go_roundg (N - (q + 1))
        case measure => omega
        case rel => exact ⟨q + 1, by omega, rfl, by go_num, HB2.out⟩
      · obtain ⟨j, hj⟩ : ∃ j, q = nk + j := ⟨q - nk, by omega⟩
        have hj12 : j < 12 := by omega
        have j2 : ¬ (q : Int) < (nk : Int) := by omega
        have j3 : (nk : Int) ≤ (q : Int) := by omega
        have j4 : (q : Int) - (nk : Int) = (j : Int) := by omega
        have d0 := HM.out (j * 1 + 0) _ (mark_at (f := fun i : Nat => [.string (Marks.mkT 1 (i : Int))]) (S := 1) (fun _ => rfl) hj12 (by omega))
        rw [show nk * 1 + (j * 1 + 0) = q by omega] at d0
        have m0 := cell_on rfl HBW.out d0
        have HMK := Lib.hid (fun u => Marks.markText_any 1 (j : Int) u (by omega) (by omega) (by omega) (by omega))
        clear d0
        generalize Marks.mkT 1 (j : Int) = zt at *
        have hbe : (zt.toList == zt.toList) = true := beq_self_eq_true _
        have HJ := Lib.hid hj; clear hj
        go_wp2_with fail
        refine wp_region_mixS (l1 := [_, _, _, _, _, _, _, _, _, _, _, _, _, _, _, _, _, _, _, _, _, _, _, _, _, _, _, _, _, _, _, _, _, _]) (l2 := [_]) [(0, true), (1, true), (2, true), (3, true), (4, true), (5, true), (6, true), (7, true), (8, true), (9, true), (10, true), (11, true), (12, true), (13, true), (14, true), (15, true), (16, true), (17, true), (18, true), (19, true), (20, true), (21, true), (22, true), (23, true), (24, true), (25, true), (26, true), (27, true), (28, true), (29, true), (30, false), (31, true), (32, true), (33, true)] (fun u => Below wr.heap.size wr u) (by kernel_rfl) (by kernel_rfl) (by repeat (first | refine loose_then ?_ | refine loose_block ?_ | exact loose_body (P := Tryz.prog) (fn := Tryz.f75))) ((Below.refl _ wr).drew) ?_
        refine mixS_take (.int .i64 (q : Int)) rfl rfl (fun u hu => by go_simp) ?_
        refine mixS_take (.slice p2 nk c2) rfl rfl (fun u hu => by go_simp) ?_
        refine mixS_take (.int .i64 (nk : Int)) rfl rfl (fun u hu => by go_simp) ?_
        refine mixS_take (.bool false) rfl rfl (fun u hu => by go_simp) ?_
        refine mixS_take (.bool false) rfl rfl (fun u hu => by go_simp) ?_
        refine mixS_skip rfl (unwanted_at (g := 4) (b := true) (t := 27) (c := false) rfl rfl (by (repeat refine put_far (by decide) ?_); refine put_here rfl ?_; (repeat refine put_size ?_); exact of_decide_eq_true rfl) (by decide)) ?_
        refine mixS_skip rfl (unwanted_at (g := 4) (b := true) (t := 27) (c := false) rfl rfl (by (repeat refine put_far (by decide) ?_); refine put_here rfl ?_; (repeat refine put_size ?_); exact of_decide_eq_true rfl) (by decide)) ?_
        refine mixS_skip rfl (unwanted_at (g := 4) (b := true) (t := 27) (c := false) rfl rfl (by (repeat refine put_far (by decide) ?_); refine put_here rfl ?_; (repeat refine put_size ?_); exact of_decide_eq_true rfl) (by decide)) ?_
        refine mixS_skip rfl (unwanted_at (g := 4) (b := true) (t := 27) (c := false) rfl rfl (by (repeat refine put_far (by decide) ?_); refine put_here rfl ?_; (repeat refine put_size ?_); exact of_decide_eq_true rfl) (by decide)) ?_
        refine mixS_skip rfl (unwanted_at (g := 4) (b := true) (t := 27) (c := false) rfl rfl (by (repeat refine put_far (by decide) ?_); refine put_here rfl ?_; (repeat refine put_size ?_); exact of_decide_eq_true rfl) (by decide)) ?_
        refine mixS_skip rfl (unwanted_at (g := 4) (b := true) (t := 27) (c := false) rfl rfl (by (repeat refine put_far (by decide) ?_); refine put_here rfl ?_; (repeat refine put_size ?_); exact of_decide_eq_true rfl) (by decide)) ?_
        refine mixS_skip rfl (unwanted_at (g := 4) (b := true) (t := 27) (c := false) rfl rfl (by (repeat refine put_far (by decide) ?_); refine put_here rfl ?_; (repeat refine put_size ?_); exact of_decide_eq_true rfl) (by decide)) ?_
        refine mixS_skip rfl (unwanted_at (g := 4) (b := true) (t := 27) (c := false) rfl rfl (by (repeat refine put_far (by decide) ?_); refine put_here rfl ?_; (repeat refine put_size ?_); exact of_decide_eq_true rfl) (by decide)) ?_
        refine mixS_skip rfl (unwanted_at (g := 4) (b := true) (t := 27) (c := false) rfl rfl (by (repeat refine put_far (by decide) ?_); refine put_here rfl ?_; (repeat refine put_size ?_); exact of_decide_eq_true rfl) (by decide)) ?_
        refine mixS_skip rfl (unwanted_at (g := 4) (b := true) (t := 27) (c := false) rfl rfl (by (repeat refine put_far (by decide) ?_); refine put_here rfl ?_; (repeat refine put_size ?_); exact of_decide_eq_true rfl) (by decide)) ?_
        refine mixS_take (.bool false) rfl rfl (fun u hu => by go_simp) ?_
        refine mixS_take (.bool false) rfl rfl (fun u hu => by go_simp) ?_
        refine mixS_take (.int .i64 (q : Int)) rfl (wanted_at (g := 16) (b := false) (t := 39) rfl rfl (by (repeat refine put_far (by decide) ?_); refine put_here rfl ?_; (repeat refine put_size ?_); exact of_decide_eq_true rfl)) (fun u hu => by go_simp) ?_
        refine mixS_take (.slice p2 nk c2) rfl (wanted_at (g := 16) (b := false) (t := 39) rfl rfl (by (repeat refine put_far (by decide) ?_); refine put_here rfl ?_; (repeat refine put_size ?_); exact of_decide_eq_true rfl)) (fun u hu => by go_simp) ?_
        refine mixS_take (.int .i64 (nk : Int)) rfl (wanted_at (g := 16) (b := false) (t := 39) rfl rfl (by (repeat refine put_far (by decide) ?_); refine put_here rfl ?_; (repeat refine put_size ?_); exact of_decide_eq_true rfl)) (fun u hu => by go_simp) ?_
        refine mixS_take (.bool true) rfl (wanted_at (g := 16) (b := false) (t := 39) rfl rfl (by (repeat refine put_far (by decide) ?_); refine put_here rfl ?_; (repeat refine put_size ?_); exact of_decide_eq_true rfl)) (fun u hu => by go_simp) ?_
        refine mixS_take (.bool true) rfl (wanted_at (g := 16) (b := false) (t := 39) rfl rfl (by (repeat refine put_far (by decide) ?_); refine put_here rfl ?_; (repeat refine put_size ?_); exact of_decide_eq_true rfl)) (fun u hu => by go_simp) ?_
        refine mixS_take (.slice (some ⟨g, 0, none⟩) N N) rfl (wanted_at (g := 21) (b := true) (t := 44) rfl rfl (by (repeat refine put_far (by decide) ?_); refine put_here rfl ?_; (repeat refine put_size ?_); exact of_decide_eq_true rfl)) (fun u hu => by go_simp) ?_
        refine mixS_take (.int .i64 (q : Int)) rfl (wanted_at (g := 21) (b := true) (t := 44) rfl rfl (by (repeat refine put_far (by decide) ?_); refine put_here rfl ?_; (repeat refine put_size ?_); exact of_decide_eq_true rfl)) (fun u hu => by go_simp) ?_
        refine mixS_take (.pointer (some ⟨g, q, none⟩)) rfl (wanted_at (g := 21) (b := true) (t := 44) rfl rfl (by (repeat refine put_far (by decide) ?_); refine put_here rfl ?_; (repeat refine put_size ?_); exact of_decide_eq_true rfl)) (fun u hu => by go_simp) ?_
        refine mixS_take (.string zt) rfl (wanted_at (g := 21) (b := true) (t := 44) rfl rfl (by (repeat refine put_far (by decide) ?_); refine put_here rfl ?_; (repeat refine put_size ?_); exact of_decide_eq_true rfl)) (fun u hu => by have e0 := cell_on rfl hu m0; go_simp) ?_
        refine mixS_take (.int .i64 (q : Int)) rfl (wanted_at (g := 21) (b := true) (t := 44) rfl rfl (by (repeat refine put_far (by decide) ?_); refine put_here rfl ?_; (repeat refine put_size ?_); exact of_decide_eq_true rfl)) (fun u hu => by go_simp) ?_
        refine mixS_take (.slice p2 nk c2) rfl (wanted_at (g := 21) (b := true) (t := 44) rfl rfl (by (repeat refine put_far (by decide) ?_); refine put_here rfl ?_; (repeat refine put_size ?_); exact of_decide_eq_true rfl)) (fun u hu => by go_simp) ?_
        refine mixS_take (.int .i64 (nk : Int)) rfl (wanted_at (g := 21) (b := true) (t := 44) rfl rfl (by (repeat refine put_far (by decide) ?_); refine put_here rfl ?_; (repeat refine put_size ?_); exact of_decide_eq_true rfl)) (fun u hu => by go_simp) ?_
        refine mixS_take (.int .i64 (j : Int)) rfl (wanted_at (g := 21) (b := true) (t := 44) rfl rfl (by (repeat refine put_far (by decide) ?_); refine put_here rfl ?_; (repeat refine put_size ?_); exact of_decide_eq_true rfl)) (fun u hu => by go_simp; exact IntWalk.i64_in _ ⟨by omega, by omega⟩) ?_
        have HBD := Lib.hid (HBW.out.drew)
        clear m0
        refine mixS_go rfl (wanted_at (g := 21) (b := true) (t := 44) rfl rfl (by (repeat refine put_far (by decide) ?_); refine put_here rfl ?_; (repeat refine put_size ?_); exact of_decide_eq_true rfl)) fun K hK => wp_go (f := 81) (args := #[.int .i64 1, .int .i64 (j : Int)]) (by go_simp) ((HMK.out _).mono ?_)
        rintro e w2 ⟨rfl, hb⟩
        have HB2 := Lib.hid (HBD.out.trans (hb.mono HBD.out.size))
        have HBR2 := Lib.hid (show Below wr.heap.size wr w2 from ((Below.refl _ wr).drew).trans (hb.mono (by simp)))
        refine hK.out _ _ HBR2.out ?_
        clear hK hb
        have HB3 := HB2
        refine mixS_take (.bool true) rfl (wanted_at (g := 21) (b := true) (t := 44) rfl rfl (by (repeat refine put_far (by decide) ?_); refine put_here rfl ?_; (repeat refine put_size ?_); exact of_decide_eq_true rfl)) (fun u hu => by go_simp) ?_
        refine mixS_take (.bool false) rfl (wanted_at (g := 21) (b := true) (t := 44) rfl rfl (by (repeat refine put_far (by decide) ?_); refine put_here rfl ?_; (repeat refine put_size ?_); exact of_decide_eq_true rfl)) (fun u hu => by go_simp) ?_
        refine mixS_take (.bool false) rfl (wanted_at (g := 16) (b := false) (t := 39) rfl rfl (by (repeat refine put_far (by decide) ?_); refine put_here rfl ?_; (repeat refine put_size ?_); exact of_decide_eq_true rfl)) (fun u hu => by go_simp) ?_
        show wpList _ _ _ _ _ _
        go_wp2
        go_roundg (N - (q + 1))
        case measure => omega
        case rel => exact ⟨q + 1, by omega, rfl, by go_num, HB3.out⟩
    · obtain rfl : q = N := by omega
      go_wp2
      go_ret
      exact ⟨rfl, HBW.out⟩
end Go.Proofs.YtghebacphjglbaaGreat.SrcB
