/- node's looks: top. -/
import Derived.Test.YtkjpdhnibfhaaaaNodeL
import Derived.Test.YtkjpdhnibfhaaaaTyped
namespace Go.Proofs.Ytkjpdhnibfhaaaa.NodeM
open Go.RowKit Go.Proofs.Ytkjpdhnibfhaaaa.Nodey Go.Proofs.Ytkjpdhnibfhaaaa.NodeA Go.Proofs.Ytkjpdhnibfhaaaa.NodeB Go.Proofs.Ytkjpdhnibfhaaaa.NodeC Go.Proofs.Ytkjpdhnibfhaaaa.NodeD Go.Proofs.Ytkjpdhnibfhaaaa.NodeE Go.Proofs.Ytkjpdhnibfhaaaa.NodeF Go.Proofs.Ytkjpdhnibfhaaaa.NodeG Go.Proofs.Ytkjpdhnibfhaaaa.NodeH Go.Proofs.Ytkjpdhnibfhaaaa.NodeI Go.Proofs.Ytkjpdhnibfhaaaa.NodeJ Go.Proofs.Ytkjpdhnibfhaaaa.NodeK Go.Proofs.Ytkjpdhnibfhaaaa.NodeL Go.Proofs.Ytkjpdhnibfhaaaa.Cut

/-- kinds in a row, behind a slice -/
def FK (ks : List Nat) (w : World) (v : Value) : Prop := ∃ g, v = .slice (some ⟨g, 0, none⟩) ks.length ks.length ∧ Kinds w g ks
theorem FK.below {ks : List Nat} {w w' : World} {v : Value} (hb : Below w.heap.size w w') (h : FK ks w v) : FK ks w' v := by
  obtain ⟨g, h1, h2⟩ := h
  exact ⟨g, h1, fun j b hj => cell_on hb (h2 j b hj)⟩
theorem FK.new1 (a : Nat) (w : World) : FK [a] (w.alloc (.cells #[.int .u8 (a : Int)] 22)) (.slice (some ⟨w.heap.size, 0, none⟩) 1 1) := ⟨_, rfl, kinds1 _⟩
theorem Funs.below {w w' : World} {p : Option Addr} {ps : List (Nat → Bool)} (hb : Below w.heap.size w w') (h : Funs w p ps) : Funs w' p ps := by
  rcases h with h | ⟨g, h1, h2⟩
  · exact Or.inl h
  · refine Or.inr ⟨g, h1, fun j q hj => ?_⟩
    obtain ⟨v, h3, h4⟩ := h2 j q hj
    exact ⟨v, cell_on hb h3, h4.below hb⟩
theorem eval_tmp {a : Act} {t : Tmp} {v : Value} (h : a.tmps[t]? = some v) : a.eval (.tmp t) = v := by
  simp [Act.eval, Array.getD_eq_getD_getElem?, h]
/-- what the slots hold -/
def F4 (lk : Value) (k1 k2 k3 : Nat) (i : Nat) (w : World) (v : Value) : Prop :=
  match i with
  | 0 => v = lk
  | 1 => FK [k1] w v
  | 2 => IsP w v (fun k => [k1].contains k)
  | 3 => FK [k2] w v
  | 4 => IsP w v (fun k => [k2].contains k)
  | 5 => FK [k3] w v
  | 6 => IsP w v (fun k => [k3].contains k)
  | 7 => ∃ g, v = .slice (some ⟨g, 0, none⟩) 3 3 ∧ Funs w (some ⟨g, 0, none⟩) [fun k => [k1].contains k, fun k => [k2].contains k, fun k => [k3].contains k]
  | _ => False
theorem F4.below {lk : Value} {k1 k2 k3 : Nat} (i : Nat) (w w' : World) (v : Value) (h : F4 lk k1 k2 k3 i w v) (hb : Below w.heap.size w w') : F4 lk k1 k2 k3 i w' v := by
  match i, h with
  | 0, h => exact h
  | 1, h => exact FK.below hb h
  | 2, h => exact IsP.below h hb
  | 3, h => exact FK.below hb h
  | 4, h => exact IsP.below h hb
  | 5, h => exact FK.below hb h
  | 6, h => exact IsP.below h hb
  | 7, ⟨g, h1, h2⟩ => exact ⟨g, h1, Funs.below hb h2⟩
theorem of_FK {ks : List Nat} {w : World} {v : Value} (hl : ks.length ≤ 1000000) (h : FK ks w v) : Calls Try.prog 41 #[v] w fun e w' => ∃ u, e = .returned u ∧ IsP w' u (fun k => ks.contains k) ∧ Below w.heap.size w w' := by
  obtain ⟨g, rfl, h⟩ := h
  exact of_any hl h
set_option maxRecDepth 100000 in
set_option maxHeartbeats 4000000 in
theorem top_1 {tt : ByteArray} {nn aa : Int} {l : List Nd} {p : Option Addr} {c : Nat} {d : Bool} {w : World} (_hk : KidsV w p l) (hlen : l.length ≤ 1000000) (_ht : tt.size ≤ 1000000000) :
    Calls Try.prog 32 #[.agg (lookC (.mk 1 tt nn aa l) p c d)] w fun e w' => e = okB (shapeB d (.mk 1 tt nn aa l)) ∧ Below w.heap.size w w' := by
  rw [shape_1]
  show Calls Try.prog 32 #[.agg #[.int .u8 1, .string tt, .int .i64 nn, .int .i64 aa, .slice p l.length c, .bool d]] w fun e w' => e = okB ((nameB tt.data.toList && nn == 0) && areB l (fun k => [2, 4].contains k) 0 l.length) ∧ Below w.heap.size w w'
  generalize hnk2 : l.length = nk at *
  have M1 : ∀ u, Below w.heap.size w u → Calls Try.prog 39 #[.agg #[.int .u8 1, .string tt, .int .i64 nn, .int .i64 aa, .slice p nk c, .bool d]] u fun e w' => e = okOr ((nameB tt.data.toList && nn == 0)) ∧ Below u.heap.size u w' := by
    intro u hu; subst hnk2; exact names_any (x := .mk 1 tt nn aa l) _ht
  have M2 : ∀ (u : World) (v : Value), Below w.heap.size w u → IsP u v (fun k => [2, 4].contains k) → Calls Try.prog 40 #[.agg #[.int .u8 1, .string tt, .int .i64 nn, .int .i64 aa, .slice p nk c, .bool d], .int .i64 (0), .int .i64 ((nk : Int)), v] u fun e w' => e = okOr (areB l (fun k => [2, 4].contains k) 0 nk) ∧ Below u.heap.size u w' := by
    intro u v hu hv; subst hnk2; exact are_any (x := .mk 1 tt nn aa l) (fr := 0) (to := l.length) (KidsV.below hu _hk) hv (by first | exact Nat.le_refl _ | (show _ ≤ l.length; simp) | (show _ ≤ l.length; omega)) hlen (by omega)
  generalize (nameB tt.data.toList && nn == 0) = b1 at *
  generalize (areB l (fun k => [2, 4].contains k) 0 nk) = b2 at *
  have N1 := Lib.hid M1; clear M1
  have N2 := Lib.hid M2; clear M2
  have HB0 : Hid (Below w.heap.size w (w.alloc (.cells #[.int .u8 1, .string tt, .int .i64 nn, .int .i64 aa, .slice p nk c, .bool d] 42))) := Lib.hid ((Below.refl w.heap.size w).alloc (Nat.le_refl _) _)
  have BX0 : Hid (BoxAt (w.alloc (.cells #[.int .u8 1, .string tt, .int .i64 nn, .int .i64 aa, .slice p nk c, .bool d] 42)) w.heap.size (.int .u8 1) (.string tt) (.int .i64 nn) (.int .i64 aa) (.slice p nk c) (.bool d)) := Lib.hid BoxAt.new
  have HNK := Lib.hid hnk2; clear hnk2 _hk _ht hlen
  go_enter Try.func32, Try.ntmps32
  go_wp2_with (go_at_call 39; go_must (with_reducible refine (N1.out _ HB0.out).mono ?_; rintro e w1 ⟨rfl, hb⟩; have HB1 := Lib.hid (HB0.out.trans (hb.mono HB0.out.size)); have BX1 := Lib.hid (BX0.out.below hb); clear hb; cases b1; (· simp only [okOr_false]; exact panic_post rfl ⟨rfl, HB1.out⟩); simp only [okOr_true]; obtain ⟨k0, k1, k2, k3, k4, k5⟩ := BX1.out))
  clear k0 k1 k2 k3 k4 k5
  refine wp_region_mixI (l1 := [_, _, _, _]) (l2 := [_]) [(0, true), (1, true), (2, false), (3, false)] (fun u => Below w1.heap.size w1 u) (by kernel_rfl) (by kernel_rfl) (by repeat (first | refine loose_then ?_ | refine loose_block ?_ | exact loose_body (P := Try.prog) (fn := Try.f32))) ((Below.refl _ w1).drew) ?_
  refine mixI_take (.agg #[.int .u8 1, .string tt, .int .i64 nn, .int .i64 aa, .slice p nk c, .bool d]) rfl rfl (fun u hu => by obtain ⟨k0, k1, k2, k3, k4, k5⟩ := BX1.out.below hu; go_simp) ?_
  refine mixI_take (.int .i64 (nk : Int)) rfl rfl (fun u hu => by go_simp) ?_
  refine mixI_go rfl rfl fun K hK => wp_val (v := .slice (some ⟨w1.heap.size, 0, none⟩) 2 2) (w' := w1.drew.alloc (.cells #[.int .u8 2, .int .u8 4] 22)) (by go_simp) ?_
  refine hK.out _ _ (((Below.refl _ w1).drew).alloc (Nat.le_refl _) _) ?_
  clear hK
  refine mixI_go rfl rfl fun K hK => wp_go (f := 41) (args := #[.slice (some ⟨w1.heap.size, 0, none⟩) 2 2]) (by go_simp) ((of_any (l := [2, 4]) (by decide) (kinds2 _)).mono ?_)
  rintro e wR ⟨vR, rfl, hvR, hb⟩
  have hbR : Below w1.heap.size w1 wR := (((Below.refl _ w1).drew).alloc (Nat.le_refl _) (.cells #[.int .u8 2, .int .u8 4] 22)).trans (hb.mono (by simp))
  refine hK.out _ _ hbR ?_
  clear hK
  show wpList _ _ _ _ _ _
  have HBR := Lib.hid (HB1.out.trans (hbR.mono HB1.out.size))
  have N2R := Lib.hid (N2.out _ _ HBR.out hvR)
  have BXR := Lib.hid (BX1.out.below hbR)
  clear hb hvR hbR
  go_wp2_with (go_at_call 40; go_must (with_reducible refine (N2R.out).mono ?_; rintro e w2 ⟨rfl, hb⟩; have HB2 := Lib.hid (HBR.out.trans (hb.mono HBR.out.size)); have BX2 := Lib.hid (BXR.out.below hb); clear hb; cases b2; (· simp only [okOr_false]; exact panic_post rfl ⟨rfl, HB2.out⟩); simp only [okOr_true]; obtain ⟨k0, k1, k2, k3, k4, k5⟩ := BX2.out))
  go_ret
  exact ⟨rfl, HB2.out⟩
set_option maxRecDepth 100000 in
set_option maxHeartbeats 4000000 in
theorem top_4 {tt : ByteArray} {nn aa : Int} {l : List Nd} {p : Option Addr} {c : Nat} {d : Bool} {w : World} (_hk : KidsV w p l) (hlen : l.length ≤ 1000000) (_ht : tt.size ≤ 1000000000) :
    Calls Try.prog 32 #[.agg (lookC (.mk 4 tt nn aa l) p c d)] w fun e w' => e = okB (shapeB d (.mk 4 tt nn aa l)) ∧ Below w.heap.size w w' := by
  rw [shape_4]
  show Calls Try.prog 32 #[.agg #[.int .u8 4, .string tt, .int .i64 nn, .int .i64 aa, .slice p l.length c, .bool d]] w fun e w' => e = okB ((nameB tt.data.toList && nn == 0) && allB [fun k => [5].contains k, fun k => [6].contains k, fun k => [9].contains k] l) ∧ Below w.heap.size w w'
  generalize hnk2 : l.length = nk at *
  have M1 : ∀ u, Below w.heap.size w u → Calls Try.prog 39 #[.agg #[.int .u8 4, .string tt, .int .i64 nn, .int .i64 aa, .slice p nk c, .bool d]] u fun e w' => e = okOr ((nameB tt.data.toList && nn == 0)) ∧ Below u.heap.size u w' := by
    intro u hu; subst hnk2; exact names_any (x := .mk 4 tt nn aa l) _ht
  have M2 : ∀ (u : World) (g c' : Nat), Below w.heap.size w u → Funs u (some ⟨g, 0, none⟩) [fun k => [5].contains k, fun k => [6].contains k, fun k => [9].contains k] → Calls Try.prog 43 #[.agg #[.int .u8 4, .string tt, .int .i64 nn, .int .i64 aa, .slice p nk c, .bool d], .slice (some ⟨g, 0, none⟩) 3 c'] u fun e w' => e = okOr (allB [fun k => [5].contains k, fun k => [6].contains k, fun k => [9].contains k] l) ∧ Below u.heap.size u w' := by
    intro u g c' hu hf; subst hnk2; exact all_any (x := .mk 4 tt nn aa l) (ps := [fun k => [5].contains k, fun k => [6].contains k, fun k => [9].contains k]) (KidsV.below hu _hk) hf hlen (by simp)
  generalize (nameB tt.data.toList && nn == 0) = b1 at *
  generalize (allB [fun k => [5].contains k, fun k => [6].contains k, fun k => [9].contains k] l) = b2 at *
  have N1 := Lib.hid M1; clear M1
  have N2 := Lib.hid M2; clear M2
  have HB0 : Hid (Below w.heap.size w (w.alloc (.cells #[.int .u8 4, .string tt, .int .i64 nn, .int .i64 aa, .slice p nk c, .bool d] 42))) := Lib.hid ((Below.refl w.heap.size w).alloc (Nat.le_refl _) _)
  have BX0 : Hid (BoxAt (w.alloc (.cells #[.int .u8 4, .string tt, .int .i64 nn, .int .i64 aa, .slice p nk c, .bool d] 42)) w.heap.size (.int .u8 4) (.string tt) (.int .i64 nn) (.int .i64 aa) (.slice p nk c) (.bool d)) := Lib.hid BoxAt.new
  have HNK := Lib.hid hnk2; clear hnk2 _hk _ht hlen
  go_enter Try.func32, Try.ntmps32
  go_wp2_with (go_at_call 39; go_must (with_reducible refine (N1.out _ HB0.out).mono ?_; rintro e w1 ⟨rfl, hb⟩; have HB1 := Lib.hid (HB0.out.trans (hb.mono HB0.out.size)); have BX1 := Lib.hid (BX0.out.below hb); clear hb; cases b1; (· simp only [okOr_false]; exact panic_post rfl ⟨rfl, HB1.out⟩); simp only [okOr_true]; obtain ⟨k0, k1, k2, k3, k4, k5⟩ := BX1.out))
  clear k0 k1 k2 k3 k4 k5
  refine wp_region_typed (l1 := [_, _, _, _, _, _, _, _]) (l2 := [_]) [49, 50, 51, 52, 53, 54, 55, 56] (fun u => Below w1.heap.size w1 u) (F4 (.agg #[.int .u8 4, .string tt, .int .i64 nn, .int .i64 aa, .slice p nk c, .bool d]) 5 6 9) (by kernel_rfl) (by kernel_rfl) (by kernel_rfl) F4.below ((Below.refl _ w1).drew) ⟨?_, ?_, ?_, ?_, ?_, ?_, ?_, ?_, trivial⟩ ?_
  · intro a w hS hsz hfr _ K hK
    have h1 := eval_tmp ((hfr 1 (by decide)).trans rfl)
    obtain ⟨k0, k1, k2, k3, k4, k5⟩ := BX1.out.below hS
    exact wp_val (v := .agg #[.int .u8 4, .string tt, .int .i64 nn, .int .i64 aa, .slice p nk c, .bool d]) (w' := w) (by simp only [execOp, h1]; go_simp) (hK.out _ _ hS (Below.refl _ _) rfl)
  · intro a w hS _ _ _ K hK
    exact wp_val (v := .slice (some ⟨w.heap.size, 0, none⟩) 1 1) (w' := w.alloc (.cells #[.int .u8 5] 22)) (by go_simp) (hK.out _ _ (hS.alloc hS.size _) ((Below.refl _ _).alloc (Nat.le_refl _) _) (FK.new1 5 w))
  · intro a w hS _ _ hd K hK
    obtain ⟨⟨v, hv1, hv2⟩, _⟩ : AllDeps _ _ a w [1] := hd
    refine wp_go (f := 41) (args := #[v]) (by have hv : a.tmps[50]? = some v := hv1; go_simp; exact (Array.getElem?_eq_some_iff.1 hv).2) ((of_FK (by decide) hv2).mono ?_)
    rintro e w' ⟨u, rfl, h1, h2⟩
    exact hK.out _ _ (hS.trans (h2.mono hS.size)) h2 h1
  · intro a w hS _ _ _ K hK
    exact wp_val (v := .slice (some ⟨w.heap.size, 0, none⟩) 1 1) (w' := w.alloc (.cells #[.int .u8 6] 22)) (by go_simp) (hK.out _ _ (hS.alloc hS.size _) ((Below.refl _ _).alloc (Nat.le_refl _) _) (FK.new1 6 w))
  · intro a w hS _ _ hd K hK
    obtain ⟨⟨v, hv1, hv2⟩, _⟩ : AllDeps _ _ a w [3, 2] := hd
    refine wp_go (f := 41) (args := #[v]) (by have hv : a.tmps[52]? = some v := hv1; go_simp; exact (Array.getElem?_eq_some_iff.1 hv).2) ((of_FK (by decide) hv2).mono ?_)
    rintro e w' ⟨u, rfl, h1, h2⟩
    exact hK.out _ _ (hS.trans (h2.mono hS.size)) h2 h1
  · intro a w hS _ _ _ K hK
    exact wp_val (v := .slice (some ⟨w.heap.size, 0, none⟩) 1 1) (w' := w.alloc (.cells #[.int .u8 9] 22)) (by go_simp) (hK.out _ _ (hS.alloc hS.size _) ((Below.refl _ _).alloc (Nat.le_refl _) _) (FK.new1 9 w))
  · intro a w hS _ _ hd K hK
    obtain ⟨⟨v, hv1, hv2⟩, _⟩ : AllDeps _ _ a w [5, 4] := hd
    refine wp_go (f := 41) (args := #[v]) (by have hv : a.tmps[54]? = some v := hv1; go_simp; exact (Array.getElem?_eq_some_iff.1 hv).2) ((of_FK (by decide) hv2).mono ?_)
    rintro e w' ⟨u, rfl, h1, h2⟩
    exact hK.out _ _ (hS.trans (h2.mono hS.size)) h2 h1
  · intro a w hS _ _ hd K hK
    obtain ⟨⟨v1, hv1, hp1⟩, ⟨v2, hv2, hp2⟩, ⟨v3, hv3, hp3⟩, _⟩ : AllDeps _ _ a w [2, 4, 6] := hd
    obtain ⟨f1, c1, rfl, hh1⟩ := hp1
    obtain ⟨f2, c2, rfl, hh2⟩ := hp2
    obtain ⟨f3, c3, rfl, hh3⟩ := hp3
    obtain ⟨_, e1⟩ := Array.getElem?_eq_some_iff.1 (show a.tmps[51]? = some _ from hv1)
    obtain ⟨_, e2⟩ := Array.getElem?_eq_some_iff.1 (show a.tmps[53]? = some _ from hv2)
    obtain ⟨_, e3⟩ := Array.getElem?_eq_some_iff.1 (show a.tmps[55]? = some _ from hv3)
    refine wp_val (v := .slice (some ⟨w.heap.size, 0, none⟩) 3 3) (w' := w.alloc (.cells #[.func (.func f1) #[] c1, .func (.func f2) #[] c2, .func (.func f3) #[] c3] 55)) (by go_simp) (hK.out _ _ (hS.alloc hS.size _) ((Below.refl _ _).alloc (Nat.le_refl _) _) ⟨_, rfl, Or.inr ⟨_, rfl, fun j q hj => ?_⟩⟩)
    have hb := (Below.refl w.heap.size w).alloc (Nat.le_refl _) (.cells #[.func (.func f1) #[] c1, .func (.func f2) #[] c2, .func (.func f3) #[] c3] 55)
    rcases j with _ | _ | _ | j
    · cases hj; exact ⟨_, kernel_cell, IsP.below ⟨f1, c1, rfl, hh1⟩ hb⟩
    · cases hj; exact ⟨_, kernel_cell, IsP.below ⟨f2, c2, rfl, hh2⟩ hb⟩
    · cases hj; exact ⟨_, kernel_cell, IsP.below ⟨f3, c3, rfl, hh3⟩ hb⟩
    · simp at hj
  · rintro wR hbR v0 rfl v1 - v2 - v3 - v4 - v5 - v6 - v7 ⟨g7, rfl, hv7⟩
    have HBR := Lib.hid (HB1.out.trans (hbR.mono HB1.out.size))
    have NR := Lib.hid (N2.out _ _ 3 HBR.out hv7)
    have BXR := Lib.hid (BX1.out.below hbR)
    clear hbR hv7
    show wpList _ _ _ _ (putAll _ [(49, _), (50, _), (51, _), (52, _), (53, _), (54, _), (55, _), (56, _)]) _
    simp only [putAll]
    go_wp2_with (go_at_call 43; go_must (with_reducible refine NR.out.mono ?_; rintro e w2 ⟨rfl, hb⟩; have HB2 := Lib.hid (HBR.out.trans (hb.mono HBR.out.size)); clear hb; cases b2; (· simp only [okOr_false]; exact panic_post rfl ⟨rfl, HB2.out⟩); simp only [okOr_true]))
    go_ret
    exact ⟨rfl, HB2.out⟩
set_option maxRecDepth 100000 in
set_option maxHeartbeats 4000000 in
theorem top_2 {tt : ByteArray} {nn aa : Int} {l : List Nd} {p : Option Addr} {c : Nat} {d : Bool} {w : World} (_hk : KidsV w p l) (hlen : l.length ≤ 1000000) (_ht : tt.size ≤ 1000000000) :
    Calls Try.prog 32 #[.agg (lookC (.mk 2 tt nn aa l) p c d)] w fun e w' => e = okB (shapeB d (.mk 2 tt nn aa l)) ∧ Below w.heap.size w w' := by
  rw [shape_2]
  show Calls Try.prog 32 #[.agg #[.int .u8 2, .string tt, .int .i64 nn, .int .i64 aa, .slice p l.length c, .bool d]] w fun e w' => e = okB ((nameB tt.data.toList && nn == 0) && areB l (fun k => [3].contains k) 0 l.length) ∧ Below w.heap.size w w'
  generalize hnk2 : l.length = nk at *
  have M1 : ∀ u, Below w.heap.size w u → Calls Try.prog 39 #[.agg #[.int .u8 2, .string tt, .int .i64 nn, .int .i64 aa, .slice p nk c, .bool d]] u fun e w' => e = okOr ((nameB tt.data.toList && nn == 0)) ∧ Below u.heap.size u w' := by
    intro u hu; subst hnk2; exact names_any (x := .mk 2 tt nn aa l) _ht
  have M2 : ∀ (u : World) (v : Value), Below w.heap.size w u → IsP u v (fun k => [3].contains k) → Calls Try.prog 40 #[.agg #[.int .u8 2, .string tt, .int .i64 nn, .int .i64 aa, .slice p nk c, .bool d], .int .i64 (0), .int .i64 ((nk : Int)), v] u fun e w' => e = okOr (areB l (fun k => [3].contains k) 0 nk) ∧ Below u.heap.size u w' := by
    intro u v hu hv; subst hnk2; exact are_any (x := .mk 2 tt nn aa l) (fr := 0) (to := l.length) (KidsV.below hu _hk) hv (by first | exact Nat.le_refl _ | (show _ ≤ l.length; simp) | (show _ ≤ l.length; omega)) hlen (by omega)
  generalize (nameB tt.data.toList && nn == 0) = b1 at *
  generalize (areB l (fun k => [3].contains k) 0 nk) = b2 at *
  have N1 := Lib.hid M1; clear M1
  have N2 := Lib.hid M2; clear M2
  have HB0 : Hid (Below w.heap.size w (w.alloc (.cells #[.int .u8 2, .string tt, .int .i64 nn, .int .i64 aa, .slice p nk c, .bool d] 42))) := Lib.hid ((Below.refl w.heap.size w).alloc (Nat.le_refl _) _)
  have BX0 : Hid (BoxAt (w.alloc (.cells #[.int .u8 2, .string tt, .int .i64 nn, .int .i64 aa, .slice p nk c, .bool d] 42)) w.heap.size (.int .u8 2) (.string tt) (.int .i64 nn) (.int .i64 aa) (.slice p nk c) (.bool d)) := Lib.hid BoxAt.new
  have HNK := Lib.hid hnk2; clear hnk2 _hk _ht hlen
  go_enter Try.func32, Try.ntmps32
  go_wp2_with (go_at_call 39; go_must (with_reducible refine (N1.out _ HB0.out).mono ?_; rintro e w1 ⟨rfl, hb⟩; have HB1 := Lib.hid (HB0.out.trans (hb.mono HB0.out.size)); have BX1 := Lib.hid (BX0.out.below hb); clear hb; cases b1; (· simp only [okOr_false]; exact panic_post rfl ⟨rfl, HB1.out⟩); simp only [okOr_true]; obtain ⟨k0, k1, k2, k3, k4, k5⟩ := BX1.out))
  clear k0 k1 k2 k3 k4 k5
  refine wp_region_mixI (l1 := [_, _, _, _]) (l2 := [_]) [(0, true), (1, true), (2, false), (3, false)] (fun u => Below w1.heap.size w1 u) (by kernel_rfl) (by kernel_rfl) (by repeat (first | refine loose_then ?_ | refine loose_block ?_ | exact loose_body (P := Try.prog) (fn := Try.f32))) ((Below.refl _ w1).drew) ?_
  refine mixI_take (.agg #[.int .u8 2, .string tt, .int .i64 nn, .int .i64 aa, .slice p nk c, .bool d]) rfl rfl (fun u hu => by obtain ⟨k0, k1, k2, k3, k4, k5⟩ := BX1.out.below hu; go_simp) ?_
  refine mixI_take (.int .i64 (nk : Int)) rfl rfl (fun u hu => by go_simp) ?_
  refine mixI_go rfl rfl fun K hK => wp_val (v := .slice (some ⟨w1.heap.size, 0, none⟩) 1 1) (w' := w1.drew.alloc (.cells #[.int .u8 3] 22)) (by go_simp) ?_
  refine hK.out _ _ (((Below.refl _ w1).drew).alloc (Nat.le_refl _) _) ?_
  clear hK
  refine mixI_go rfl rfl fun K hK => wp_go (f := 41) (args := #[.slice (some ⟨w1.heap.size, 0, none⟩) 1 1]) (by go_simp) ((of_any (l := [3]) (by decide) (kinds1 _)).mono ?_)
  rintro e wR ⟨vR, rfl, hvR, hb⟩
  have hbR : Below w1.heap.size w1 wR := (((Below.refl _ w1).drew).alloc (Nat.le_refl _) (.cells #[.int .u8 3] 22)).trans (hb.mono (by simp))
  refine hK.out _ _ hbR ?_
  clear hK
  show wpList _ _ _ _ _ _
  have HBR := Lib.hid (HB1.out.trans (hbR.mono HB1.out.size))
  have N2R := Lib.hid (N2.out _ _ HBR.out hvR)
  have BXR := Lib.hid (BX1.out.below hbR)
  clear hb hvR hbR
  go_wp2_with (go_at_call 40; go_must (with_reducible refine (N2R.out).mono ?_; rintro e w2 ⟨rfl, hb⟩; have HB2 := Lib.hid (HBR.out.trans (hb.mono HBR.out.size)); have BX2 := Lib.hid (BXR.out.below hb); clear hb; cases b2; (· simp only [okOr_false]; exact panic_post rfl ⟨rfl, HB2.out⟩); simp only [okOr_true]; obtain ⟨k0, k1, k2, k3, k4, k5⟩ := BX2.out))
  go_ret
  exact ⟨rfl, HB2.out⟩
set_option maxRecDepth 100000 in
set_option maxHeartbeats 4000000 in
theorem top_5 {tt : ByteArray} {nn aa : Int} {l : List Nd} {p : Option Addr} {c : Nat} {d : Bool} {w : World} (_hk : KidsV w p l) (hlen : l.length ≤ 1000000) (_ht : tt.size ≤ 1000000000) :
    Calls Try.prog 32 #[.agg (lookC (.mk 5 tt nn aa l) p c d)] w fun e w' => e = okB (shapeB d (.mk 5 tt nn aa l)) ∧ Below w.heap.size w w' := by
  rw [shape_5]
  show Calls Try.prog 32 #[.agg #[.int .u8 5, .string tt, .int .i64 nn, .int .i64 aa, .slice p l.length c, .bool d]] w fun e w' => e = okB ((tt.data.toList == [] && nn == 0) && areB l (fun k => [3].contains k) 0 l.length) ∧ Below w.heap.size w w'
  generalize hnk2 : l.length = nk at *
  have M1 : ∀ u, Below w.heap.size w u → Calls Try.prog 42 #[.agg #[.int .u8 5, .string tt, .int .i64 nn, .int .i64 aa, .slice p nk c, .bool d]] u fun e w' => e = okOr ((tt.data.toList == [] && nn == 0)) ∧ Below u.heap.size u w' := by
    intro u hu; subst hnk2; exact bare_any (x := .mk 5 tt nn aa l) u
  have M2 : ∀ (u : World) (v : Value), Below w.heap.size w u → IsP u v (fun k => [3].contains k) → Calls Try.prog 40 #[.agg #[.int .u8 5, .string tt, .int .i64 nn, .int .i64 aa, .slice p nk c, .bool d], .int .i64 (0), .int .i64 ((nk : Int)), v] u fun e w' => e = okOr (areB l (fun k => [3].contains k) 0 nk) ∧ Below u.heap.size u w' := by
    intro u v hu hv; subst hnk2; exact are_any (x := .mk 5 tt nn aa l) (fr := 0) (to := l.length) (KidsV.below hu _hk) hv (by first | exact Nat.le_refl _ | (show _ ≤ l.length; simp) | (show _ ≤ l.length; omega)) hlen (by omega)
  generalize (tt.data.toList == [] && nn == 0) = b1 at *
  generalize (areB l (fun k => [3].contains k) 0 nk) = b2 at *
  have N1 := Lib.hid M1; clear M1
  have N2 := Lib.hid M2; clear M2
  have HB0 : Hid (Below w.heap.size w (w.alloc (.cells #[.int .u8 5, .string tt, .int .i64 nn, .int .i64 aa, .slice p nk c, .bool d] 42))) := Lib.hid ((Below.refl w.heap.size w).alloc (Nat.le_refl _) _)
  have BX0 : Hid (BoxAt (w.alloc (.cells #[.int .u8 5, .string tt, .int .i64 nn, .int .i64 aa, .slice p nk c, .bool d] 42)) w.heap.size (.int .u8 5) (.string tt) (.int .i64 nn) (.int .i64 aa) (.slice p nk c) (.bool d)) := Lib.hid BoxAt.new
  have HNK := Lib.hid hnk2; clear hnk2 _hk _ht hlen
  go_enter Try.func32, Try.ntmps32
  go_wp2_with (go_at_call 42; go_must (with_reducible refine (N1.out _ HB0.out).mono ?_; rintro e w1 ⟨rfl, hb⟩; have HB1 := Lib.hid (HB0.out.trans (hb.mono HB0.out.size)); have BX1 := Lib.hid (BX0.out.below hb); clear hb; cases b1; (· simp only [okOr_false]; exact panic_post rfl ⟨rfl, HB1.out⟩); simp only [okOr_true]; obtain ⟨k0, k1, k2, k3, k4, k5⟩ := BX1.out))
  clear k0 k1 k2 k3 k4 k5
  refine wp_region_mixI (l1 := [_, _, _, _]) (l2 := [_]) [(0, true), (1, true), (2, false), (3, false)] (fun u => Below w1.heap.size w1 u) (by kernel_rfl) (by kernel_rfl) (by repeat (first | refine loose_then ?_ | refine loose_block ?_ | exact loose_body (P := Try.prog) (fn := Try.f32))) ((Below.refl _ w1).drew) ?_
  refine mixI_take (.agg #[.int .u8 5, .string tt, .int .i64 nn, .int .i64 aa, .slice p nk c, .bool d]) rfl rfl (fun u hu => by obtain ⟨k0, k1, k2, k3, k4, k5⟩ := BX1.out.below hu; go_simp) ?_
  refine mixI_take (.int .i64 (nk : Int)) rfl rfl (fun u hu => by go_simp) ?_
  refine mixI_go rfl rfl fun K hK => wp_val (v := .slice (some ⟨w1.heap.size, 0, none⟩) 1 1) (w' := w1.drew.alloc (.cells #[.int .u8 3] 22)) (by go_simp) ?_
  refine hK.out _ _ (((Below.refl _ w1).drew).alloc (Nat.le_refl _) _) ?_
  clear hK
  refine mixI_go rfl rfl fun K hK => wp_go (f := 41) (args := #[.slice (some ⟨w1.heap.size, 0, none⟩) 1 1]) (by go_simp) ((of_any (l := [3]) (by decide) (kinds1 _)).mono ?_)
  rintro e wR ⟨vR, rfl, hvR, hb⟩
  have hbR : Below w1.heap.size w1 wR := (((Below.refl _ w1).drew).alloc (Nat.le_refl _) (.cells #[.int .u8 3] 22)).trans (hb.mono (by simp))
  refine hK.out _ _ hbR ?_
  clear hK
  show wpList _ _ _ _ _ _
  have HBR := Lib.hid (HB1.out.trans (hbR.mono HB1.out.size))
  have N2R := Lib.hid (N2.out _ _ HBR.out hvR)
  have BXR := Lib.hid (BX1.out.below hbR)
  clear hb hvR hbR
  go_wp2_with (go_at_call 40; go_must (with_reducible refine (N2R.out).mono ?_; rintro e w2 ⟨rfl, hb⟩; have HB2 := Lib.hid (HBR.out.trans (hb.mono HBR.out.size)); have BX2 := Lib.hid (BXR.out.below hb); clear hb; cases b2; (· simp only [okOr_false]; exact panic_post rfl ⟨rfl, HB2.out⟩); simp only [okOr_true]; obtain ⟨k0, k1, k2, k3, k4, k5⟩ := BX2.out))
  go_ret
  exact ⟨rfl, HB2.out⟩
set_option maxRecDepth 100000 in
set_option maxHeartbeats 4000000 in
theorem top_3 {tt : ByteArray} {nn aa : Int} {l : List Nd} {p : Option Addr} {c : Nat} {d : Bool} {w : World} (_hk : KidsV w p l) (hlen : l.length ≤ 1000000) (_ht : tt.size ≤ 1000000000) :
    Calls Try.prog 32 #[.agg (lookC (.mk 3 tt nn aa l) p c d)] w fun e w' => e = okB (shapeB d (.mk 3 tt nn aa l)) ∧ Below w.heap.size w w' := by
  rw [shape_3]
  show Calls Try.prog 32 #[.agg #[.int .u8 3, .string tt, .int .i64 nn, .int .i64 aa, .slice p l.length c, .bool d]] w fun e w' => e = okB ((nameB tt.data.toList && nn == 0) && allB [typedK] l) ∧ Below w.heap.size w w'
  generalize hnk2 : l.length = nk at *
  have M1 : ∀ u, Below w.heap.size w u → Calls Try.prog 39 #[.agg #[.int .u8 3, .string tt, .int .i64 nn, .int .i64 aa, .slice p nk c, .bool d]] u fun e w' => e = okOr ((nameB tt.data.toList && nn == 0)) ∧ Below u.heap.size u w' := by
    intro u hu; subst hnk2; exact names_any (x := .mk 3 tt nn aa l) _ht
  have M2 : ∀ u, Below w.heap.size w u → Calls Try.prog 43 #[.agg #[.int .u8 3, .string tt, .int .i64 nn, .int .i64 aa, .slice p nk c, .bool d], .slice (some ⟨u.heap.size, 0, none⟩) 1 1] (u.alloc (.cells #[.func (.func 44) #[] #[]] 55)) fun e w' => e = okOr (allB [typedK] l) ∧ Below u.heap.size u w' := by
    intro u hu; subst hnk2; exact (all_any (x := .mk 3 tt nn aa l) (ps := [typedK]) (KidsV.below (hu.alloc hu.size _) _hk) (funs1 isP_typed u _) hlen (by simp)).mono fun _ _ h => ⟨h.1, ((Below.refl _ _).alloc (Nat.le_refl _) _).trans (h.2.mono (by simp))⟩
  generalize (nameB tt.data.toList && nn == 0) = b1 at *
  generalize (allB [typedK] l) = b2 at *
  have N1 := Lib.hid M1; clear M1
  have N2 := Lib.hid M2; clear M2
  have HB0 : Hid (Below w.heap.size w (w.alloc (.cells #[.int .u8 3, .string tt, .int .i64 nn, .int .i64 aa, .slice p nk c, .bool d] 42))) := Lib.hid ((Below.refl w.heap.size w).alloc (Nat.le_refl _) _)
  have BX0 : Hid (BoxAt (w.alloc (.cells #[.int .u8 3, .string tt, .int .i64 nn, .int .i64 aa, .slice p nk c, .bool d] 42)) w.heap.size (.int .u8 3) (.string tt) (.int .i64 nn) (.int .i64 aa) (.slice p nk c) (.bool d)) := Lib.hid BoxAt.new
  have HNK := Lib.hid hnk2; clear hnk2 _hk _ht hlen
  go_enter Try.func32, Try.ntmps32
  go_wp2_with (first | (go_at_call 39; go_must (with_reducible refine (N1.out _ HB0.out).mono ?_; rintro e w1 ⟨rfl, hb⟩; have HB1 := Lib.hid (HB0.out.trans (hb.mono HB0.out.size)); have BX1 := Lib.hid (BX0.out.below hb); clear hb; cases b1; (· simp only [okOr_false]; exact panic_post rfl ⟨rfl, HB1.out⟩); simp only [okOr_true]; obtain ⟨k0, k1, k2, k3, k4, k5⟩ := BX1.out)) | (go_at_call 43; go_must (with_reducible refine (N2.out _ HB1.out).mono ?_; rintro e w2 ⟨rfl, hb⟩; have HB2 := Lib.hid (HB1.out.trans (hb.mono HB1.out.size)); have BX2 := Lib.hid (BX1.out.below hb); clear hb; cases b2; (· simp only [okOr_false]; exact panic_post rfl ⟨rfl, HB2.out⟩); simp only [okOr_true]; obtain ⟨k0, k1, k2, k3, k4, k5⟩ := BX2.out)))
  go_ret
  exact ⟨rfl, HB2.out⟩
set_option maxRecDepth 100000 in
set_option maxHeartbeats 4000000 in
theorem top_6 {tt : ByteArray} {nn aa : Int} {l : List Nd} {p : Option Addr} {c : Nat} {d : Bool} {w : World} (_hk : KidsV w p l) (hlen : l.length ≤ 1000000) (_ht : tt.size ≤ 1000000000) :
    Calls Try.prog 32 #[.agg (lookC (.mk 6 tt nn aa l) p c d)] w fun e w' => e = okB (shapeB d (.mk 6 tt nn aa l)) ∧ Below w.heap.size w w' := by
  rw [shape_6]
  show Calls Try.prog 32 #[.agg #[.int .u8 6, .string tt, .int .i64 nn, .int .i64 aa, .slice p l.length c, .bool d]] w fun e w' => e = okB ((tt.data.toList == [] && nn == 0) && areB l typedK 0 l.length) ∧ Below w.heap.size w w'
  generalize hnk2 : l.length = nk at *
  have M1 : ∀ u, Below w.heap.size w u → Calls Try.prog 42 #[.agg #[.int .u8 6, .string tt, .int .i64 nn, .int .i64 aa, .slice p nk c, .bool d]] u fun e w' => e = okOr ((tt.data.toList == [] && nn == 0)) ∧ Below u.heap.size u w' := by
    intro u hu; subst hnk2; exact bare_any (x := .mk 6 tt nn aa l) u
  have M2 : ∀ (u : World), Below w.heap.size w u → Calls Try.prog 40 #[.agg #[.int .u8 6, .string tt, .int .i64 nn, .int .i64 aa, .slice p nk c, .bool d], .int .i64 (0), .int .i64 ((nk : Int)), (.func (.func 44) #[] #[])] u fun e w' => e = okOr (areB l typedK 0 nk) ∧ Below u.heap.size u w' := by
    intro u hu; subst hnk2; exact are_any (x := .mk 6 tt nn aa l) (fr := 0) (to := l.length) (KidsV.below hu _hk) (isP_typed u) (by first | exact Nat.le_refl _ | (show _ ≤ l.length; simp) | (show _ ≤ l.length; omega)) hlen (by omega)
  generalize (tt.data.toList == [] && nn == 0) = b1 at *
  generalize (areB l typedK 0 nk) = b2 at *
  have N1 := Lib.hid M1; clear M1
  have N2 := Lib.hid M2; clear M2
  have HB0 : Hid (Below w.heap.size w (w.alloc (.cells #[.int .u8 6, .string tt, .int .i64 nn, .int .i64 aa, .slice p nk c, .bool d] 42))) := Lib.hid ((Below.refl w.heap.size w).alloc (Nat.le_refl _) _)
  have BX0 : Hid (BoxAt (w.alloc (.cells #[.int .u8 6, .string tt, .int .i64 nn, .int .i64 aa, .slice p nk c, .bool d] 42)) w.heap.size (.int .u8 6) (.string tt) (.int .i64 nn) (.int .i64 aa) (.slice p nk c) (.bool d)) := Lib.hid BoxAt.new
  have HNK := Lib.hid hnk2; clear hnk2 _hk _ht hlen
  go_enter Try.func32, Try.ntmps32
  go_wp2_with (first | (go_at_call 42; go_must (with_reducible refine (N1.out _ HB0.out).mono ?_; rintro e w1 ⟨rfl, hb⟩; have HB1 := Lib.hid (HB0.out.trans (hb.mono HB0.out.size)); have BX1 := Lib.hid (BX0.out.below hb); clear hb; cases b1; (· simp only [okOr_false]; exact panic_post rfl ⟨rfl, HB1.out⟩); simp only [okOr_true]; obtain ⟨k0, k1, k2, k3, k4, k5⟩ := BX1.out)) | (go_at_call 40; go_must (with_reducible refine (N2.out _ HB1.out).mono ?_; rintro e w2 ⟨rfl, hb⟩; have HB2 := Lib.hid (HB1.out.trans (hb.mono HB1.out.size)); have BX2 := Lib.hid (BX1.out.below hb); clear hb; cases b2; (· simp only [okOr_false]; exact panic_post rfl ⟨rfl, HB2.out⟩); simp only [okOr_true]; obtain ⟨k0, k1, k2, k3, k4, k5⟩ := BX2.out)))
  go_ret
  exact ⟨rfl, HB2.out⟩
set_option maxRecDepth 100000 in
set_option maxHeartbeats 4000000 in
theorem top_7 {tt : ByteArray} {nn aa : Int} {l : List Nd} {p : Option Addr} {c : Nat} {d : Bool} {w : World} (_hk : KidsV w p l) (hlen : l.length ≤ 1000000) (_ht : tt.size ≤ 1000000000) :
    Calls Try.prog 32 #[.agg (lookC (.mk 7 tt nn aa l) p c d)] w fun e w' => e = okB (shapeB d (.mk 7 tt nn aa l)) ∧ Below w.heap.size w w' := by
  rw [shape_7]
  show Calls Try.prog 32 #[.agg #[.int .u8 7, .string tt, .int .i64 nn, .int .i64 aa, .slice p l.length c, .bool d]] w fun e w' => e = okB ((nameB tt.data.toList && nn == 0) && allB [] l) ∧ Below w.heap.size w w'
  generalize hnk2 : l.length = nk at *
  have M1 : ∀ u, Below w.heap.size w u → Calls Try.prog 39 #[.agg #[.int .u8 7, .string tt, .int .i64 nn, .int .i64 aa, .slice p nk c, .bool d]] u fun e w' => e = okOr ((nameB tt.data.toList && nn == 0)) ∧ Below u.heap.size u w' := by
    intro u hu; subst hnk2; exact names_any (x := .mk 7 tt nn aa l) _ht
  have M2 : ∀ u, Below w.heap.size w u → Calls Try.prog 43 #[.agg #[.int .u8 7, .string tt, .int .i64 nn, .int .i64 aa, .slice p nk c, .bool d], .slice none 0 0] u fun e w' => e = okOr (allB [] l) ∧ Below u.heap.size u w' := by
    intro u hu; subst hnk2; exact all_any (x := .mk 7 tt nn aa l) (ps := []) (KidsV.below hu _hk) (Or.inl rfl) hlen (by simp)
  generalize (nameB tt.data.toList && nn == 0) = b1 at *
  generalize (allB [] l) = b2 at *
  have N1 := Lib.hid M1; clear M1
  have N2 := Lib.hid M2; clear M2
  have HB0 : Hid (Below w.heap.size w (w.alloc (.cells #[.int .u8 7, .string tt, .int .i64 nn, .int .i64 aa, .slice p nk c, .bool d] 42))) := Lib.hid ((Below.refl w.heap.size w).alloc (Nat.le_refl _) _)
  have BX0 : Hid (BoxAt (w.alloc (.cells #[.int .u8 7, .string tt, .int .i64 nn, .int .i64 aa, .slice p nk c, .bool d] 42)) w.heap.size (.int .u8 7) (.string tt) (.int .i64 nn) (.int .i64 aa) (.slice p nk c) (.bool d)) := Lib.hid BoxAt.new
  have HNK := Lib.hid hnk2; clear hnk2 _hk _ht hlen
  go_enter Try.func32, Try.ntmps32
  go_wp2_with (first | (go_at_call 39; go_must (with_reducible refine (N1.out _ HB0.out).mono ?_; rintro e w1 ⟨rfl, hb⟩; have HB1 := Lib.hid (HB0.out.trans (hb.mono HB0.out.size)); have BX1 := Lib.hid (BX0.out.below hb); clear hb; cases b1; (· simp only [okOr_false]; exact panic_post rfl ⟨rfl, HB1.out⟩); simp only [okOr_true]; obtain ⟨k0, k1, k2, k3, k4, k5⟩ := BX1.out)) | (go_at_call 43; go_must (with_reducible refine (N2.out _ HB1.out).mono ?_; rintro e w2 ⟨rfl, hb⟩; have HB2 := Lib.hid (HB1.out.trans (hb.mono HB1.out.size)); have BX2 := Lib.hid (BX1.out.below hb); clear hb; cases b2; (· simp only [okOr_false]; exact panic_post rfl ⟨rfl, HB2.out⟩); simp only [okOr_true]; obtain ⟨k0, k1, k2, k3, k4, k5⟩ := BX2.out)))
  go_ret
  exact ⟨rfl, HB2.out⟩
set_option maxRecDepth 100000 in
set_option maxHeartbeats 4000000 in
theorem top_8 {tt : ByteArray} {nn aa : Int} {l : List Nd} {p : Option Addr} {c : Nat} {d : Bool} {w : World} (_hk : KidsV w p l) (hlen : l.length ≤ 1000000) (_ht : tt.size ≤ 1000000000) :
    Calls Try.prog 32 #[.agg (lookC (.mk 8 tt nn aa l) p c d)] w fun e w' => e = okB (shapeB d (.mk 8 tt nn aa l)) ∧ Below w.heap.size w w' := by
  rw [shape_8]
  show Calls Try.prog 32 #[.agg #[.int .u8 8, .string tt, .int .i64 nn, .int .i64 aa, .slice p l.length c, .bool d]] w fun e w' => e = okB ((tt.data.toList == [] && nn == 0) && allB [typedK] l) ∧ Below w.heap.size w w'
  generalize hnk2 : l.length = nk at *
  have M1 : ∀ u, Below w.heap.size w u → Calls Try.prog 42 #[.agg #[.int .u8 8, .string tt, .int .i64 nn, .int .i64 aa, .slice p nk c, .bool d]] u fun e w' => e = okOr ((tt.data.toList == [] && nn == 0)) ∧ Below u.heap.size u w' := by
    intro u hu; subst hnk2; exact bare_any (x := .mk 8 tt nn aa l) u
  have M2 : ∀ u, Below w.heap.size w u → Calls Try.prog 43 #[.agg #[.int .u8 8, .string tt, .int .i64 nn, .int .i64 aa, .slice p nk c, .bool d], .slice (some ⟨u.heap.size, 0, none⟩) 1 1] (u.alloc (.cells #[.func (.func 44) #[] #[]] 55)) fun e w' => e = okOr (allB [typedK] l) ∧ Below u.heap.size u w' := by
    intro u hu; subst hnk2; exact (all_any (x := .mk 8 tt nn aa l) (ps := [typedK]) (KidsV.below (hu.alloc hu.size _) _hk) (funs1 isP_typed u _) hlen (by simp)).mono fun _ _ h => ⟨h.1, ((Below.refl _ _).alloc (Nat.le_refl _) _).trans (h.2.mono (by simp))⟩
  generalize (tt.data.toList == [] && nn == 0) = b1 at *
  generalize (allB [typedK] l) = b2 at *
  have N1 := Lib.hid M1; clear M1
  have N2 := Lib.hid M2; clear M2
  have HB0 : Hid (Below w.heap.size w (w.alloc (.cells #[.int .u8 8, .string tt, .int .i64 nn, .int .i64 aa, .slice p nk c, .bool d] 42))) := Lib.hid ((Below.refl w.heap.size w).alloc (Nat.le_refl _) _)
  have BX0 : Hid (BoxAt (w.alloc (.cells #[.int .u8 8, .string tt, .int .i64 nn, .int .i64 aa, .slice p nk c, .bool d] 42)) w.heap.size (.int .u8 8) (.string tt) (.int .i64 nn) (.int .i64 aa) (.slice p nk c) (.bool d)) := Lib.hid BoxAt.new
  have HNK := Lib.hid hnk2; clear hnk2 _hk _ht hlen
  go_enter Try.func32, Try.ntmps32
  go_wp2_with (first | (go_at_call 42; go_must (with_reducible refine (N1.out _ HB0.out).mono ?_; rintro e w1 ⟨rfl, hb⟩; have HB1 := Lib.hid (HB0.out.trans (hb.mono HB0.out.size)); have BX1 := Lib.hid (BX0.out.below hb); clear hb; cases b1; (· simp only [okOr_false]; exact panic_post rfl ⟨rfl, HB1.out⟩); simp only [okOr_true]; obtain ⟨k0, k1, k2, k3, k4, k5⟩ := BX1.out)) | (go_at_call 43; go_must (with_reducible refine (N2.out _ HB1.out).mono ?_; rintro e w2 ⟨rfl, hb⟩; have HB2 := Lib.hid (HB1.out.trans (hb.mono HB1.out.size)); have BX2 := Lib.hid (BX1.out.below hb); clear hb; cases b2; (· simp only [okOr_false]; exact panic_post rfl ⟨rfl, HB2.out⟩); simp only [okOr_true]; obtain ⟨k0, k1, k2, k3, k4, k5⟩ := BX2.out)))
  go_ret
  exact ⟨rfl, HB2.out⟩
set_option maxRecDepth 100000 in
set_option maxHeartbeats 4000000 in
theorem top_other {k : Nat} {tt : ByteArray} {nn aa : Int} {l : List Nd} {p : Option Addr} {c : Nat} {d : Bool} {w : World} (h : k = 0 ∨ 9 ≤ k) :
    Calls Try.prog 32 #[.agg (lookC (.mk k tt nn aa l) p c d)] w fun e w' => e = .returned (.bool false) ∧ Below w.heap.size w w' := by
  show Calls Try.prog 32 #[.agg #[.int .u8 (k : Int), .string tt, .int .i64 nn, .int .i64 aa, .slice p l.length c, .bool d]] w fun e w' => e = .returned (.bool false) ∧ Below w.heap.size w w'
  generalize l.length = nk
  have HB0 : Hid (Below w.heap.size w (w.alloc (.cells #[.int .u8 (k : Int), .string tt, .int .i64 nn, .int .i64 aa, .slice p nk c, .bool d] 42))) := Lib.hid ((Below.refl w.heap.size w).alloc (Nat.le_refl _) _)
  have BX0 : Hid (BoxAt (w.alloc (.cells #[.int .u8 (k : Int), .string tt, .int .i64 nn, .int .i64 aa, .slice p nk c, .bool d] 42)) w.heap.size (.int .u8 (k : Int)) (.string tt) (.int .i64 nn) (.int .i64 aa) (.slice p nk c) (.bool d)) := Lib.hid BoxAt.new
  have e1 : ((k : Int) == 1) = false := by simp; omega
  have e2 : ((k : Int) == 2) = false := by simp; omega
  have e3 : ((k : Int) == 3) = false := by simp; omega
  have e4 : ((k : Int) == 4) = false := by simp; omega
  have e5 : ((k : Int) == 5) = false := by simp; omega
  have e6 : ((k : Int) == 6) = false := by simp; omega
  have e7 : ((k : Int) == 7) = false := by simp; omega
  have e8 : ((k : Int) == 8) = false := by simp; omega
  clear h
  go_enter Try.func32, Try.ntmps32
  go_wp2
  go_ret
  exact ⟨rfl, HB0.out⟩
theorem top_any {x : Nd} {p : Option Addr} {c : Nat} {d : Bool} {w : World} (hk : KidsV w p x.kids) (hlen : x.kids.length ≤ 1000000) (ht : x.text.size ≤ 1000000000) :
    Calls Try.prog 32 #[.agg (lookC x p c d)] w fun e w' => e = (if 1 ≤ x.kind ∧ x.kind ≤ 8 then okB (shapeB d x) else .returned (.bool false)) ∧ Below w.heap.size w w' := by
  obtain ⟨k, tt, nn, aa, l⟩ := x
  by_cases h : 1 ≤ k ∧ k ≤ 8
  · rw [if_pos (show 1 ≤ (Nd.mk k tt nn aa l).kind ∧ (Nd.mk k tt nn aa l).kind ≤ 8 from h)]
    obtain ⟨h1, h8⟩ := h
    rcases (show k = 1 ∨ k = 2 ∨ k = 3 ∨ k = 4 ∨ k = 5 ∨ k = 6 ∨ k = 7 ∨ k = 8 by omega) with h | h | h | h | h | h | h | h <;> subst h
    · exact top_1 hk hlen ht
    · exact top_2 hk hlen ht
    · exact top_3 hk hlen ht
    · exact top_4 hk hlen ht
    · exact top_5 hk hlen ht
    · exact top_6 hk hlen ht
    · exact top_7 hk hlen ht
    · exact top_8 hk hlen ht
  · rw [if_neg (show ¬ (1 ≤ (Nd.mk k tt nn aa l).kind ∧ (Nd.mk k tt nn aa l).kind ≤ 8) from h)]
    exact top_other (k := k) (by omega)
end Go.Proofs.Ytkjpdhnibfhaaaa.NodeM
