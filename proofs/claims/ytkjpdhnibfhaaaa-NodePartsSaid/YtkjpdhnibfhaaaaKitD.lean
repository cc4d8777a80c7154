/- gristmillkit.KeptNode at what LentNode told: true. -/
import Derived.Test.YtkjpdhnibfhaaaaKitB
import Derived.Test.YtkjpdhnibfhaaaaKitC
import Derived.Test.YtkjpdhnibfhaaaaMixS
namespace Go.Proofs.Ytkjpdhnibfhaaaa.KitD
open Go Go.RowKit Go.Proofs.Ytkjpdhnibfhaaaa.Nodey Go.Proofs.Ytkjpdhnibfhaaaa.NodeA Go.Proofs.Ytkjpdhnibfhaaaa.NodeB Go.Proofs.Ytkjpdhnibfhaaaa.NodeF Go.Proofs.Ytkjpdhnibfhaaaa.NodeI Go.Proofs.Ytkjpdhnibfhaaaa.NodeK Go.Proofs.Ytkjpdhnibfhaaaa.NodeS Go.Proofs.Ytkjpdhnibfhaaaa.NodeT Go.Proofs.Ytkjpdhnibfhaaaa.NodeU Go.Proofs.Ytkjpdhnibfhaaaa.Cut Go.Proofs.Ytkjpdhnibfhaaaa.KitB Go.Proofs.Ytkjpdhnibfhaaaa.KitC
theorem put_here {a : Act} {d : Option Tmp} {v : Value} {t : Tmp} (hd : d = some t) (h : t < a.tmps.size) : (a.put d v).tmps[t]? = some v := by
  subst hd
  show (a.tmps.setIfInBounds t v)[t]? = some v
  simp [h]
theorem put_size {a : Act} {d : Option Tmp} {v : Value} {n : Nat} (h : n < a.tmps.size) : n < (a.put d v).tmps.size := by
  cases d with
  | none => exact h
  | some i => show n < (a.tmps.setIfInBounds i v).size; simpa using h
mutual
theorem allN_refl : ∀ x : Nd, allN x x = true
  | .mk k t n a l => by rw [allN]; simp [allL_refl l]
theorem allL_refl : ∀ l : List Nd, allL l l = true
  | [] => by rw [allL]
  | x :: l => by rw [allL, allN_refl x, allL_refl l]; rfl
end
theorem lents_kid {w : World} {B g : Nat} : ∀ (l : List Nd) (o k : Nat) (hk : k < l.length), LentsAt w B g o l → ∃ q, LentV w B q (l[k]'hk).kids ∧ (l[k]'hk).kids.length ≤ 1000000 ∧ (l[k]'hk).text.size ≤ 1000000000 ∧
    w.cell? ⟨g, o + k * 5, none⟩ = some (.int .u8 ((l[k]'hk).kind : Int)) ∧ w.cell? ⟨g, o + k * 5 + 1, none⟩ = some (.string (l[k]'hk).text) ∧ w.cell? ⟨g, o + k * 5 + 2, none⟩ = some (.int .i64 (l[k]'hk).num) ∧ w.cell? ⟨g, o + k * 5 + 3, none⟩ = some (.int .i64 (l[k]'hk).at_) ∧ w.cell? ⟨g, o + k * 5 + 4, none⟩ = some (.slice (some ⟨q, 0, none⟩) (l[k]'hk).kids.length ((l[k]'hk).kids.length + 12))
  | .mk kd t n a l' :: l, o, 0, hk, h => by
    rw [LentsAt, LentAt] at h
    obtain ⟨⟨h1, h2, h3, h4, h5, h6, g', h7, h8, h9, h10⟩, _⟩ := h
    refine ⟨g', ⟨h8, h9, h10⟩, h2, h1, ?_, ?_, ?_, ?_, ?_⟩ <;> simpa
  | x :: l, o, k + 1, hk, h => by
    rw [LentsAt] at h
    have := lents_kid l (o + 5) k (by simpa using hk) h.2
    rwa [show o + 5 + k * 5 = o + (k + 1) * 5 by omega] at this
def KeptOK (x : Nd) : Prop := ∀ (B g : Nat) (p : Option Addr) (c : Nat) (w : World), Ready w p c x → LentV w B g x.kids → Calls Try.prog 15 #[.agg (nodeC x (some ⟨g, 0, none⟩) (x.kids.length + 12)), .agg (nodeC x p c)] w fun e w' => e = .returned (.bool true) ∧ Below w.heap.size w w'
set_option maxRecDepth 100000 in
set_option maxHeartbeats 8000000 in
theorem kepts_any {l : List Nd} {B g : Nat} {p2 : Option Addr} {c2 : Nat} {w : World} (ih : ∀ y ∈ l, KeptOK y) (hv : LentV w B g l) (h2 : KidsV w p2 l) (hl : l.length ≤ 1000000) :
    Calls Try.prog 28 #[.slice (some ⟨g, 0, none⟩) l.length (l.length + 12), .slice p2 l.length c2] w fun e w' => e = .returned (.bool true) ∧ Below w.heap.size w w' := by
  have HV := Lib.hid hv; have H2 := Lib.hid h2; have HIH := Lib.hid ih; clear hv h2 ih
  generalize hnk : l.length = nk at *
  have HNK := Lib.hid hnk; clear hnk
  generalize hN : nk + 12 = N at *
  have e1 : ((nk : Int) + 12) = (N : Int) := by omega
  have e2 : (0 : Int) ≤ (N : Int) := by omega
  go_enter Try.func28, Try.ntmps28
  go_wp2_with fail
  go_loopg [6] N (fun gk i wr => ∃ q : Nat, q ≤ N ∧ gk = N - q ∧ i = .int .i64 (q : Int) ∧ Below w.heap.size w wr)
  case atStart => exact ⟨0, by omega, by omega, rfl, Below.refl _ _⟩
  case round =>
    obtain ⟨q, hq, rfl, rfl, hbw⟩ := hrel
    have HBW := Lib.hid hbw; clear hbw
    by_cases hlt : q < N
    · have j0 : (0 : Int) ≤ (q : Int) := by omega
      have j1 : (q : Int) < (N : Int) := by omega
      by_cases hqn : q < nk
      · have j2 : (q : Int) < (nk : Int) := by omega
        have j3 : ¬ (nk : Int) ≤ (q : Int) := by omega
        have hql : q < l.length := by have := HNK.out; omega
        obtain ⟨gq, hvq, hql2, hqt, d0, d1, d2, d3, d4⟩ := lents_kid l 0 q hql HV.out.2.1
        obtain ⟨g2, o2, p2', c2', hp2, hkr2, f0, f1, f2, f3, f4⟩ := kids_kid H2.out q hql
        subst hp2
        rw [Nat.zero_add] at d0 d1 d2 d3 d4
        have HY := Lib.hid (fun u (hu : Below w.heap.size w u) => HIH.out _ (List.getElem_mem hql) B gq p2' c2' u (hkr2.below hu) (hvq.below hu))
        clear hkr2 hvq hql2 hqt
        generalize l[q]'hql = y at *
        unfold nodeC at HY
        generalize y.kids.length = yn at *
        generalize y.kind = y0 at *
        generalize y.text = y1 at *
        generalize y.num = y2 at *
        generalize y.at_ = y3 at *
        have m0 := cell_on HBW.out d0; have m1 := cell_on HBW.out d1; have m2 := cell_on HBW.out d2; have m3 := cell_on HBW.out d3; have m4 := cell_on HBW.out d4
        have n0 := cell_on HBW.out f0; have n1 := cell_on HBW.out f1; have n2 := cell_on HBW.out f2; have n3 := cell_on HBW.out f3; have n4 := cell_on HBW.out f4
        clear d0 d1 d2 d3 d4 f0 f1 f2 f3 f4
        go_wp2_with fail
        refine wp_region_mixS (l1 := [_, _, _, _, _, _, _, _, _, _, _, _, _, _, _, _, _, _, _, _, _, _, _, _, _, _, _, _, _, _, _, _, _, _]) (l2 := [_]) [(0, true), (1, true), (2, true), (3, true), (4, true), (5, true), (6, true), (7, true), (8, true), (9, true), (10, true), (11, true), (12, true), (13, false), (14, true), (15, true), (16, true), (17, true), (18, true), (19, true), (20, true), (21, true), (22, true), (23, true), (24, true), (25, true), (26, true), (27, true), (28, true), (29, true), (30, true), (31, true), (32, true), (33, true)] (fun u => Below wr.heap.size wr u) (by kernel_rfl) (by kernel_rfl) (by repeat (first | refine loose_then ?_ | refine loose_block ?_ | exact loose_body (P := Try.prog) (fn := Try.f28))) ((Below.refl _ wr).drew) ?_
        refine mixS_take (.int .i64 (q : Int)) rfl rfl (fun u hu => by go_simp) ?_
        refine mixS_take (.slice (some ⟨g2, o2, none⟩) nk c2) rfl rfl (fun u hu => by go_simp) ?_
        refine mixS_take (.int .i64 (nk : Int)) rfl rfl (fun u hu => by go_simp) ?_
        refine mixS_take (.bool true) rfl rfl (fun u hu => by go_simp) ?_
        refine mixS_take (.bool true) rfl rfl (fun u hu => by go_simp) ?_
        refine mixS_take (.slice (some ⟨g, 0, none⟩) N N) rfl (wanted_at (g := 4) (b := true) (t := 27) rfl rfl (by (repeat refine put_far (by decide) ?_); refine put_here rfl ?_; (repeat refine put_size ?_); exact of_decide_eq_true rfl)) (fun u hu => by go_simp) ?_
        refine mixS_take (.int .i64 (q : Int)) rfl (wanted_at (g := 4) (b := true) (t := 27) rfl rfl (by (repeat refine put_far (by decide) ?_); refine put_here rfl ?_; (repeat refine put_size ?_); exact of_decide_eq_true rfl)) (fun u hu => by go_simp) ?_
        refine mixS_take (.pointer (some ⟨g, q * 5, none⟩)) rfl (wanted_at (g := 4) (b := true) (t := 27) rfl rfl (by (repeat refine put_far (by decide) ?_); refine put_here rfl ?_; (repeat refine put_size ?_); exact of_decide_eq_true rfl)) (fun u hu => by go_simp) ?_
        refine mixS_take (.agg #[.int .u8 (y0 : Int), .string y1, .int .i64 y2, .int .i64 y3, .slice (some ⟨gq, 0, none⟩) yn (yn + 12)]) rfl (wanted_at (g := 4) (b := true) (t := 27) rfl rfl (by (repeat refine put_far (by decide) ?_); refine put_here rfl ?_; (repeat refine put_size ?_); exact of_decide_eq_true rfl)) (fun u hu => by have e0 := cell_on hu m0; have e1 := cell_on hu m1; have e2 := cell_on hu m2; have e3 := cell_on hu m3; have e4 := cell_on hu m4; go_simp) ?_
        refine mixS_take (.slice (some ⟨g2, o2, none⟩) nk c2) rfl (wanted_at (g := 4) (b := true) (t := 27) rfl rfl (by (repeat refine put_far (by decide) ?_); refine put_here rfl ?_; (repeat refine put_size ?_); exact of_decide_eq_true rfl)) (fun u hu => by go_simp) ?_
        refine mixS_take (.int .i64 (q : Int)) rfl (wanted_at (g := 4) (b := true) (t := 27) rfl rfl (by (repeat refine put_far (by decide) ?_); refine put_here rfl ?_; (repeat refine put_size ?_); exact of_decide_eq_true rfl)) (fun u hu => by go_simp) ?_
        refine mixS_take (.pointer (some ⟨g2, o2 + q * 5, none⟩)) rfl (wanted_at (g := 4) (b := true) (t := 27) rfl rfl (by (repeat refine put_far (by decide) ?_); refine put_here rfl ?_; (repeat refine put_size ?_); exact of_decide_eq_true rfl)) (fun u hu => by go_simp) ?_
        refine mixS_take (.agg #[.int .u8 (y0 : Int), .string y1, .int .i64 y2, .int .i64 y3, .slice p2' yn c2']) rfl (wanted_at (g := 4) (b := true) (t := 27) rfl rfl (by (repeat refine put_far (by decide) ?_); refine put_here rfl ?_; (repeat refine put_size ?_); exact of_decide_eq_true rfl)) (fun u hu => by have e0 := cell_on hu n0; have e1 := cell_on hu n1; have e2 := cell_on hu n2; have e3 := cell_on hu n3; have e4 := cell_on hu n4; go_simp) ?_
        have HBD := Lib.hid (HBW.out.drew)
        clear m0 m1 m2 m3 m4 n0 n1 n2 n3 n4
        refine mixS_go rfl (wanted_at (g := 4) (b := true) (t := 27) rfl rfl (by (repeat refine put_far (by decide) ?_); refine put_here rfl ?_; (repeat refine put_size ?_); exact of_decide_eq_true rfl)) fun K hK => wp_go (f := 15) (args := #[.agg #[.int .u8 (y0 : Int), .string y1, .int .i64 y2, .int .i64 y3, .slice (some ⟨gq, 0, none⟩) yn (yn + 12)], .agg #[.int .u8 (y0 : Int), .string y1, .int .i64 y2, .int .i64 y3, .slice p2' yn c2']]) (by go_simp) ((HY.out _ HBD.out).mono ?_)
        rintro e w2 ⟨rfl, hb⟩
        have HB2 := Lib.hid (HBD.out.trans (hb.mono HBD.out.size))
        refine hK.out _ _ (((Below.refl _ wr).drew).trans (hb.mono (by simp))) ?_
        clear hK hb
        refine mixS_take (.bool false) rfl (wanted_at (g := 4) (b := true) (t := 27) rfl rfl (by (repeat refine put_far (by decide) ?_); refine put_here rfl ?_; (repeat refine put_size ?_); exact of_decide_eq_true rfl)) (fun u hu => by go_simp) ?_
        refine mixS_take (.bool false) rfl rfl (fun u hu => by go_simp) ?_
        refine mixS_take (.bool false) rfl rfl (fun u hu => by go_simp) ?_
        refine mixS_take (.int .i64 (q : Int)) rfl (wanted_at (g := 16) (b := false) (t := 39) rfl rfl (by (repeat refine put_far (by decide) ?_); refine put_here rfl ?_; (repeat refine put_size ?_); exact of_decide_eq_true rfl)) (fun u hu => by go_simp) ?_
        refine mixS_take (.slice (some ⟨g2, o2, none⟩) nk c2) rfl (wanted_at (g := 16) (b := false) (t := 39) rfl rfl (by (repeat refine put_far (by decide) ?_); refine put_here rfl ?_; (repeat refine put_size ?_); exact of_decide_eq_true rfl)) (fun u hu => by go_simp) ?_
        refine mixS_take (.int .i64 (nk : Int)) rfl (wanted_at (g := 16) (b := false) (t := 39) rfl rfl (by (repeat refine put_far (by decide) ?_); refine put_here rfl ?_; (repeat refine put_size ?_); exact of_decide_eq_true rfl)) (fun u hu => by go_simp) ?_
        refine mixS_take (.bool false) rfl (wanted_at (g := 16) (b := false) (t := 39) rfl rfl (by (repeat refine put_far (by decide) ?_); refine put_here rfl ?_; (repeat refine put_size ?_); exact of_decide_eq_true rfl)) (fun u hu => by go_simp) ?_
        refine mixS_take (.bool false) rfl (wanted_at (g := 16) (b := false) (t := 39) rfl rfl (by (repeat refine put_far (by decide) ?_); refine put_here rfl ?_; (repeat refine put_size ?_); exact of_decide_eq_true rfl)) (fun u hu => by go_simp) ?_
        refine mixS_skip rfl (unwanted_at (g := 21) (b := true) (t := 44) (c := false) rfl rfl (by (repeat refine put_far (by decide) ?_); refine put_here rfl ?_; (repeat refine put_size ?_); exact of_decide_eq_true rfl) (by decide)) ?_
        refine mixS_skip rfl (unwanted_at (g := 21) (b := true) (t := 44) (c := false) rfl rfl (by (repeat refine put_far (by decide) ?_); refine put_here rfl ?_; (repeat refine put_size ?_); exact of_decide_eq_true rfl) (by decide)) ?_
        refine mixS_skip rfl (unwanted_at (g := 21) (b := true) (t := 44) (c := false) rfl rfl (by (repeat refine put_far (by decide) ?_); refine put_here rfl ?_; (repeat refine put_size ?_); exact of_decide_eq_true rfl) (by decide)) ?_
        refine mixS_skip rfl (unwanted_at (g := 21) (b := true) (t := 44) (c := false) rfl rfl (by (repeat refine put_far (by decide) ?_); refine put_here rfl ?_; (repeat refine put_size ?_); exact of_decide_eq_true rfl) (by decide)) ?_
        refine mixS_skip rfl (unwanted_at (g := 21) (b := true) (t := 44) (c := false) rfl rfl (by (repeat refine put_far (by decide) ?_); refine put_here rfl ?_; (repeat refine put_size ?_); exact of_decide_eq_true rfl) (by decide)) ?_
        refine mixS_skip rfl (unwanted_at (g := 21) (b := true) (t := 44) (c := false) rfl rfl (by (repeat refine put_far (by decide) ?_); refine put_here rfl ?_; (repeat refine put_size ?_); exact of_decide_eq_true rfl) (by decide)) ?_
        refine mixS_skip rfl (unwanted_at (g := 21) (b := true) (t := 44) (c := false) rfl rfl (by (repeat refine put_far (by decide) ?_); refine put_here rfl ?_; (repeat refine put_size ?_); exact of_decide_eq_true rfl) (by decide)) ?_
        refine mixS_skip rfl (unwanted_at (g := 21) (b := true) (t := 44) (c := false) rfl rfl (by (repeat refine put_far (by decide) ?_); refine put_here rfl ?_; (repeat refine put_size ?_); exact of_decide_eq_true rfl) (by decide)) ?_
        refine mixS_skip rfl (unwanted_at (g := 21) (b := true) (t := 44) (c := false) rfl rfl (by (repeat refine put_far (by decide) ?_); refine put_here rfl ?_; (repeat refine put_size ?_); exact of_decide_eq_true rfl) (by decide)) ?_
        refine mixS_skip rfl (unwanted_at (g := 21) (b := true) (t := 44) (c := false) rfl rfl (by (repeat refine put_far (by decide) ?_); refine put_here rfl ?_; (repeat refine put_size ?_); exact of_decide_eq_true rfl) (by decide)) ?_
        refine mixS_skip rfl (unwanted_at (g := 21) (b := true) (t := 44) (c := false) rfl rfl (by (repeat refine put_far (by decide) ?_); refine put_here rfl ?_; (repeat refine put_size ?_); exact of_decide_eq_true rfl) (by decide)) ?_
        refine mixS_take (.bool false) rfl (wanted_at (g := 16) (b := false) (t := 39) rfl rfl (by (repeat refine put_far (by decide) ?_); refine put_here rfl ?_; (repeat refine put_size ?_); exact of_decide_eq_true rfl)) (fun u hu => by go_simp) ?_
        show wpList _ _ _ _ _ _
        go_wp2
        go_roundg (N - (q + 1))
        case measure => omega
        case rel => exact ⟨q + 1, by omega, rfl, by go_num, HB2.out⟩
      · obtain ⟨j, hj⟩ : ∃ j, q = nk + j := ⟨q - nk, by omega⟩
        have hj12 : j < 12 := by omega
        have j2 : ¬ (q : Int) < (nk : Int) := by omega
        have j3 : (nk : Int) ≤ (q : Int) := by omega
        have j4 : (q : Int) - (nk : Int) = (j : Int) := by omega
        obtain ⟨g1, o1, pm, cm, hp, hkr, d0, d1, d2, d3, d4⟩ := kids_kid (w := w) (p := some ⟨g, l.length * 5, none⟩) (l := (List.range 12).map markN) (Or.inr ⟨g, _, rfl, HV.out.2.2⟩) j (by simpa using hj12)
        cases hp
        have hmk : ((List.range 12).map markN)[j]'(by simpa using hj12) = markN j := by simp
        rw [hmk] at hkr d0 d1 d2 d3 d4
        rw [show l.length * 5 + j * 5 = q * 5 by rw [HNK.out]; omega] at d0 d1 d2 d3 d4
        have HSM := Lib.hid (fun u (hu : Below w.heap.size w u) => show Calls Try.prog 20 #[.agg #[.int .u8 0, .string { data := #[] }, .int .i64 0, .int .i64 (8000024 + (j : Int)), .slice pm 0 cm], .agg #[.int .u8 0, .string { data := #[] }, .int .i64 0, .int .i64 (8000024 + (j : Int)), .slice none 0 0]] u fun e w' => e = .returned (.bool true) ∧ Below u.heap.size u w' from by have := all_any (markN j) (markN j) pm cm none 0 u (hkr.below hu) ⟨Or.inl rfl, Nat.le_refl 0, by show (0 : Nat) ≤ _; omega, by show (0 : Nat) ≤ _; omega⟩; rw [allN_refl] at this; exact this)
        have HMK := Lib.hid (fun u => show Calls Try.prog 37 #[.int .i64 1, .int .i64 (j : Int)] u fun e w' => e = .returned (.agg #[.int .u8 0, .string { data := #[] }, .int .i64 0, .int .i64 (8000024 + (j : Int)), .slice none 0 0]) ∧ Below u.heap.size u w' from mark_node j (by omega) u)
        have m0 : wr.cell? ⟨g, q * 5, none⟩ = some (.int .u8 0) := cell_on HBW.out d0
        have m1 : wr.cell? ⟨g, q * 5 + 1, none⟩ = some (.string { data := #[] }) := cell_on HBW.out d1
        have m2 : wr.cell? ⟨g, q * 5 + 2, none⟩ = some (.int .i64 0) := cell_on HBW.out d2
        have m3 : wr.cell? ⟨g, q * 5 + 3, none⟩ = some (.int .i64 (8000024 + (j : Int))) := cell_on HBW.out d3
        have m4 : wr.cell? ⟨g, q * 5 + 4, none⟩ = some (.slice pm 0 cm) := cell_on HBW.out d4
        clear d0 d1 d2 d3 d4 hkr hmk
        generalize 8000024 + (j : Int) = mj at *
        have HJ := Lib.hid hj; clear hj
        go_wp2_with fail
        refine wp_region_mixS (l1 := [_, _, _, _, _, _, _, _, _, _, _, _, _, _, _, _, _, _, _, _, _, _, _, _, _, _, _, _, _, _, _, _, _, _]) (l2 := [_]) [(0, true), (1, true), (2, true), (3, true), (4, true), (5, true), (6, true), (7, true), (8, true), (9, true), (10, true), (11, true), (12, true), (13, true), (14, true), (15, true), (16, true), (17, true), (18, true), (19, true), (20, true), (21, true), (22, true), (23, true), (24, true), (25, true), (26, true), (27, true), (28, true), (29, true), (30, false), (31, false), (32, true), (33, true)] (fun u => Below wr.heap.size wr u) (by kernel_rfl) (by kernel_rfl) (by repeat (first | refine loose_then ?_ | refine loose_block ?_ | exact loose_body (P := Try.prog) (fn := Try.f28))) ((Below.refl _ wr).drew) ?_
        refine mixS_take (.int .i64 (q : Int)) rfl rfl (fun u hu => by go_simp) ?_
        refine mixS_take (.slice p2 nk c2) rfl rfl (fun u hu => by go_simp) ?_
        refine mixS_take (.int .i64 (nk : Int)) rfl rfl (fun u hu => by go_simp) ?_
        refine mixS_take (.bool false) rfl rfl (fun u hu => by go_simp) ?_
        refine mixS_take (.bool false) rfl rfl (fun u hu => by go_simp) ?_
        refine mixS_skip rfl (unwanted_at (g := 4) (b := true) (t := 27) (c := false) rfl rfl (by (repeat refine put_far (by decide) ?_); refine put_here rfl ?_; (repeat refine put_size ?_); exact of_decide_eq_true rfl) (by decide)) ?_
        refine mixS_skip rfl (unwanted_at (g := 4) (b := true) (t := 27) (c := false) rfl rfl (by (repeat refine put_far (by decide) ?_); refine put_here rfl ?_; (repeat refine put_size ?_); exact of_decide_eq_true rfl) (by decide)) ?_
        refine mixS_skip rfl (unwanted_at (g := 4) (b := true) (t := 27) (c := false) rfl rfl (by (repeat refine put_far (by decide) ?_); refine put_here rfl ?_; (repeat refine put_size ?_); exact of_decide_eq_true rfl) (by decide)) ?_
        refine mixS_skip rfl (unwanted_at (g := 4) (b := true) (t := 27) (c := false) rfl rfl (by (repeat refine put_far (by decide) ?_); refine put_here rfl ?_; (repeat refine put_size ?_); exact of_decide_eq_true rfl) (by decide)) ?_
        refine mixS_skip rfl (unwanted_at (g := 4) (b := true) (t := 27) (c := false) rfl rfl (by (repeat refine put_far (by decide) ?_); refine put_here rfl ?_; (repeat refine put_size ?_); exact of_decide_eq_true rfl) (by decide)) ?_
        refine mixS_skip rfl (unwanted_at (g := 4) (b := true) (t := 27) (c := false) rfl rfl (by (repeat refine put_far (by decide) ?_); refine put_here rfl ?_; (repeat refine put_size ?_); exact of_decide_eq_true rfl) (by decide)) ?_
        refine mixS_skip rfl (unwanted_at (g := 4) (b := true) (t := 27) (c := false) rfl rfl (by (repeat refine put_far (by decide) ?_); refine put_here rfl ?_; (repeat refine put_size ?_); exact of_decide_eq_true rfl) (by decide)) ?_
        refine mixS_skip rfl (unwanted_at (g := 4) (b := true) (t := 27) (c := false) rfl rfl (by (repeat refine put_far (by decide) ?_); refine put_here rfl ?_; (repeat refine put_size ?_); exact of_decide_eq_true rfl) (by decide)) ?_
        refine mixS_skip rfl (unwanted_at (g := 4) (b := true) (t := 27) (c := false) rfl rfl (by (repeat refine put_far (by decide) ?_); refine put_here rfl ?_; (repeat refine put_size ?_); exact of_decide_eq_true rfl) (by decide)) ?_
        refine mixS_skip rfl (unwanted_at (g := 4) (b := true) (t := 27) (c := false) rfl rfl (by (repeat refine put_far (by decide) ?_); refine put_here rfl ?_; (repeat refine put_size ?_); exact of_decide_eq_true rfl) (by decide)) ?_
        refine mixS_take (.bool false) rfl rfl (fun u hu => by go_simp) ?_
        refine mixS_take (.bool false) rfl rfl (fun u hu => by go_simp) ?_
        refine mixS_take (.int .i64 (q : Int)) rfl (wanted_at (g := 16) (b := false) (t := 39) rfl rfl (by (repeat refine put_far (by decide) ?_); refine put_here rfl ?_; (repeat refine put_size ?_); exact of_decide_eq_true rfl)) (fun u hu => by go_simp) ?_
        refine mixS_take (.slice p2 nk c2) rfl (wanted_at (g := 16) (b := false) (t := 39) rfl rfl (by (repeat refine put_far (by decide) ?_); refine put_here rfl ?_; (repeat refine put_size ?_); exact of_decide_eq_true rfl)) (fun u hu => by go_simp) ?_
        refine mixS_take (.int .i64 (nk : Int)) rfl (wanted_at (g := 16) (b := false) (t := 39) rfl rfl (by (repeat refine put_far (by decide) ?_); refine put_here rfl ?_; (repeat refine put_size ?_); exact of_decide_eq_true rfl)) (fun u hu => by go_simp) ?_
        refine mixS_take (.bool true) rfl (wanted_at (g := 16) (b := false) (t := 39) rfl rfl (by (repeat refine put_far (by decide) ?_); refine put_here rfl ?_; (repeat refine put_size ?_); exact of_decide_eq_true rfl)) (fun u hu => by go_simp) ?_
        refine mixS_take (.bool true) rfl (wanted_at (g := 16) (b := false) (t := 39) rfl rfl (by (repeat refine put_far (by decide) ?_); refine put_here rfl ?_; (repeat refine put_size ?_); exact of_decide_eq_true rfl)) (fun u hu => by go_simp) ?_
        refine mixS_take (.slice (some ⟨g, 0, none⟩) N N) rfl (wanted_at (g := 21) (b := true) (t := 44) rfl rfl (by (repeat refine put_far (by decide) ?_); refine put_here rfl ?_; (repeat refine put_size ?_); exact of_decide_eq_true rfl)) (fun u hu => by go_simp) ?_
        refine mixS_take (.int .i64 (q : Int)) rfl (wanted_at (g := 21) (b := true) (t := 44) rfl rfl (by (repeat refine put_far (by decide) ?_); refine put_here rfl ?_; (repeat refine put_size ?_); exact of_decide_eq_true rfl)) (fun u hu => by go_simp) ?_
        refine mixS_take (.pointer (some ⟨g, q * 5, none⟩)) rfl (wanted_at (g := 21) (b := true) (t := 44) rfl rfl (by (repeat refine put_far (by decide) ?_); refine put_here rfl ?_; (repeat refine put_size ?_); exact of_decide_eq_true rfl)) (fun u hu => by go_simp) ?_
        refine mixS_take (.agg #[.int .u8 0, .string { data := #[] }, .int .i64 0, .int .i64 mj, .slice pm 0 cm]) rfl (wanted_at (g := 21) (b := true) (t := 44) rfl rfl (by (repeat refine put_far (by decide) ?_); refine put_here rfl ?_; (repeat refine put_size ?_); exact of_decide_eq_true rfl)) (fun u hu => by have e0 := cell_on hu m0; have e1 := cell_on hu m1; have e2 := cell_on hu m2; have e3 := cell_on hu m3; have e4 := cell_on hu m4; go_simp) ?_
        refine mixS_take (.int .i64 (q : Int)) rfl (wanted_at (g := 21) (b := true) (t := 44) rfl rfl (by (repeat refine put_far (by decide) ?_); refine put_here rfl ?_; (repeat refine put_size ?_); exact of_decide_eq_true rfl)) (fun u hu => by go_simp) ?_
        refine mixS_take (.slice p2 nk c2) rfl (wanted_at (g := 21) (b := true) (t := 44) rfl rfl (by (repeat refine put_far (by decide) ?_); refine put_here rfl ?_; (repeat refine put_size ?_); exact of_decide_eq_true rfl)) (fun u hu => by go_simp) ?_
        refine mixS_take (.int .i64 (nk : Int)) rfl (wanted_at (g := 21) (b := true) (t := 44) rfl rfl (by (repeat refine put_far (by decide) ?_); refine put_here rfl ?_; (repeat refine put_size ?_); exact of_decide_eq_true rfl)) (fun u hu => by go_simp) ?_
        refine mixS_take (.int .i64 (j : Int)) rfl (wanted_at (g := 21) (b := true) (t := 44) rfl rfl (by (repeat refine put_far (by decide) ?_); refine put_here rfl ?_; (repeat refine put_size ?_); exact of_decide_eq_true rfl)) (fun u hu => by go_simp; exact IntWalk.i64_in _ ⟨by omega, by omega⟩) ?_
        have HBD := Lib.hid (HBW.out.drew)
        clear m0 m1 m2 m3 m4
        refine mixS_go rfl (wanted_at (g := 21) (b := true) (t := 44) rfl rfl (by (repeat refine put_far (by decide) ?_); refine put_here rfl ?_; (repeat refine put_size ?_); exact of_decide_eq_true rfl)) fun K hK => wp_go (f := 37) (args := #[.int .i64 1, .int .i64 (j : Int)]) (by go_simp) ((HMK.out _).mono ?_)
        rintro e w2 ⟨rfl, hb⟩
        have HB2 := Lib.hid (HBD.out.trans (hb.mono HBD.out.size))
        have HBR2 := Lib.hid (show Below wr.heap.size wr w2 from ((Below.refl _ wr).drew).trans (hb.mono (by simp)))
        refine hK.out _ _ HBR2.out ?_
        clear hK hb
        refine mixS_go rfl (wanted_at (g := 21) (b := true) (t := 44) rfl rfl (by (repeat refine put_far (by decide) ?_); refine put_here rfl ?_; (repeat refine put_size ?_); exact of_decide_eq_true rfl)) fun K hK => wp_go (f := 20) (args := #[.agg #[.int .u8 0, .string { data := #[] }, .int .i64 0, .int .i64 mj, .slice pm 0 cm], .agg #[.int .u8 0, .string { data := #[] }, .int .i64 0, .int .i64 mj, .slice none 0 0]]) (by go_simp) ((HSM.out _ HB2.out).mono ?_)
        rintro e w3 ⟨rfl, hb⟩
        have HB3 := Lib.hid (HB2.out.trans (hb.mono HB2.out.size))
        refine hK.out _ _ (HBR2.out.trans (hb.mono HBR2.out.size)) ?_
        clear hK hb
        refine mixS_take (.bool false) rfl (wanted_at (g := 21) (b := true) (t := 44) rfl rfl (by (repeat refine put_far (by decide) ?_); refine put_here rfl ?_; (repeat refine put_size ?_); exact of_decide_eq_true rfl)) (fun u hu => by go_simp) ?_
        refine mixS_take (.bool false) rfl (wanted_at (g := 16) (b := false) (t := 39) rfl rfl (by (repeat refine put_far (by decide) ?_); refine put_here rfl ?_; (repeat refine put_size ?_); exact of_decide_eq_true rfl)) (fun u hu => by go_simp) ?_
        show wpList _ _ _ _ _ _
        go_wp2
        go_roundg (N - (q + 1))
        case measure => omega
        case rel => exact ⟨q + 1, by omega, rfl, by go_num, HB3.out⟩
    · obtain rfl : q = N := by omega
      go_wp2
      go_ret
      exact ⟨rfl, HBW.out⟩
end Go.Proofs.Ytkjpdhnibfhaaaa.KitD
