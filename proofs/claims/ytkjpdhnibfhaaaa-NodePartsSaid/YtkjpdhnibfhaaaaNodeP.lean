/- node's looks: statement, the other half. -/
import Derived.Test.YtkjpdhnibfhaaaaNodeN
namespace Go.Proofs.Ytkjpdhnibfhaaaa.NodeP
open Go.RowKit Go.Proofs.Ytkjpdhnibfhaaaa.Nodey Go.Proofs.Ytkjpdhnibfhaaaa.NodeA Go.Proofs.Ytkjpdhnibfhaaaa.NodeB Go.Proofs.Ytkjpdhnibfhaaaa.NodeC Go.Proofs.Ytkjpdhnibfhaaaa.NodeD Go.Proofs.Ytkjpdhnibfhaaaa.NodeE Go.Proofs.Ytkjpdhnibfhaaaa.NodeF Go.Proofs.Ytkjpdhnibfhaaaa.NodeG Go.Proofs.Ytkjpdhnibfhaaaa.NodeH Go.Proofs.Ytkjpdhnibfhaaaa.NodeI Go.Proofs.Ytkjpdhnibfhaaaa.NodeJ Go.Proofs.Ytkjpdhnibfhaaaa.NodeK Go.Proofs.Ytkjpdhnibfhaaaa.NodeL Go.Proofs.Ytkjpdhnibfhaaaa.NodeM Go.Proofs.Ytkjpdhnibfhaaaa.NodeN Go.Proofs.Ytkjpdhnibfhaaaa.Cut

set_option maxRecDepth 100000 in
set_option maxHeartbeats 4000000 in
theorem statement_14a {tt : ByteArray} {nn aa : Int} {y0 : Nd} {p : Option Addr} {c : Nat} {d : Bool} {w : World} (_hk : KidsV w p [y0]) (_ht : tt.size ≤ 1000000000) :
    Calls Try.prog 33 #[.agg (lookC (.mk 14 tt nn aa [y0]) p c d)] w fun e w' => e = okB (shapeB d (.mk 14 tt nn aa [y0])) ∧ Below w.heap.size w w' := by
  rw [shape_14 (Or.inl rfl)]
  show Calls Try.prog 33 #[.agg #[.int .u8 14, .string tt, .int .i64 nn, .int .i64 aa, .slice p 1 c, .bool d]] w fun e w' => e = okB (((tt.data.toList == [] || nameB tt.data.toList) && nn == 0) && (areB [y0] saidK 0 0 && areB [y0] (fun k => [9].contains k) 0 1)) ∧ Below w.heap.size w w'
  have hlen : ([y0] : List Nd).length ≤ 1000000 := by simp
  have M1 : ∀ u, Below w.heap.size w u → Calls Try.prog 48 #[.agg #[.int .u8 14, .string tt, .int .i64 nn, .int .i64 aa, .slice p 1 c, .bool d]] u fun e w' => e = okOr (((tt.data.toList == [] || nameB tt.data.toList) && nn == 0)) ∧ Below u.heap.size u w' := by
    intro u hu; exact label_any (x := .mk 14 tt nn aa [y0]) _ht
  have M2 : ∀ u, Below w.heap.size w u → Calls Try.prog 22 #[.slice (some ⟨u.heap.size, 0, none⟩) 1 1] (u.alloc (.cells #[.bool true] 4)) fun e w' => e = okOr (true) ∧ Below u.heap.size u w' := fun u _ => mustA1 true u
  have M3 : ∀ (u : World), Below w.heap.size w u → Calls Try.prog 40 #[.agg #[.int .u8 14, .string tt, .int .i64 nn, .int .i64 aa, .slice p 1 c, .bool d], .int .i64 (0), .int .i64 (0), (.func (.func 46) #[] #[])] u fun e w' => e = okOr (areB [y0] saidK 0 0) ∧ Below u.heap.size u w' := by
    intro u hu; exact are_any (x := .mk 14 tt nn aa [y0]) (fr := 0) (to := 0) (KidsV.below hu _hk) (isP_said u) (by first | exact Nat.le_refl _ | (show _ ≤ [y0].length; simp) | (show _ ≤ [y0].length; omega)) hlen (by omega)
  have M4 : ∀ (u : World) (v : Value), Below w.heap.size w u → IsP u v (fun k => [9].contains k) → Calls Try.prog 40 #[.agg #[.int .u8 14, .string tt, .int .i64 nn, .int .i64 aa, .slice p 1 c, .bool d], .int .i64 (0), .int .i64 (1), v] u fun e w' => e = okOr (areB [y0] (fun k => [9].contains k) 0 1) ∧ Below u.heap.size u w' := by
    intro u v hu hv; exact are_any (x := .mk 14 tt nn aa [y0]) (fr := 0) (to := 1) (KidsV.below hu _hk) hv (by first | exact Nat.le_refl _ | (show _ ≤ [y0].length; simp) | (show _ ≤ [y0].length; omega)) hlen (by omega)
  generalize ((tt.data.toList == [] || nameB tt.data.toList) && nn == 0) = b1 at *
  generalize (areB [y0] saidK 0 0) = b3 at *
  generalize (areB [y0] (fun k => [9].contains k) 0 1) = b4 at *
  have N1 := Lib.hid M1; clear M1
  have N2 := Lib.hid M2; clear M2
  have N3 := Lib.hid M3; clear M3
  have N4 := Lib.hid M4; clear M4
  have HB0 : Hid (Below w.heap.size w (w.alloc (.cells #[.int .u8 14, .string tt, .int .i64 nn, .int .i64 aa, .slice p 1 c, .bool d] 42))) := Lib.hid ((Below.refl w.heap.size w).alloc (Nat.le_refl _) _)
  have BX0 : Hid (BoxAt (w.alloc (.cells #[.int .u8 14, .string tt, .int .i64 nn, .int .i64 aa, .slice p 1 c, .bool d] 42)) w.heap.size (.int .u8 14) (.string tt) (.int .i64 nn) (.int .i64 aa) (.slice p 1 c) (.bool d)) := Lib.hid BoxAt.new
  have NB : Hid (Calls Try.prog 41 #[.slice (some ⟨w.heap.size + 1, 0, none⟩) 1 1] ((w.alloc (.cells #[.int .u8 14, .string tt, .int .i64 nn, .int .i64 aa, .slice p 1 c, .bool d] 42)).alloc (.cells #[.int .u8 9] 22)) fun e w' => ∃ v, e = .returned v ∧ IsP w' v (fun k => [9].contains k) ∧ Below (w.alloc (.cells #[.int .u8 14, .string tt, .int .i64 nn, .int .i64 aa, .slice p 1 c, .bool d] 42)).heap.size (w.alloc (.cells #[.int .u8 14, .string tt, .int .i64 nn, .int .i64 aa, .slice p 1 c, .bool d] 42)) w') := Lib.hid (by rw [show w.heap.size + 1 = (w.alloc (.cells #[.int .u8 14, .string tt, .int .i64 nn, .int .i64 aa, .slice p 1 c, .bool d] 42)).heap.size by simp]; exact ofA1 9 _)
  clear _hk _ht hlen
  go_enter Try.func33, Try.ntmps33
  go_wp2_with (first | (go_at_call 41; go_must (with_reducible refine NB.out.mono ?_; rintro e w100 ⟨vb, rfl, hvb, hb⟩; have HV0 := Lib.hid hvb; have HB00 := Lib.hid (HB0.out.trans (hb.mono HB0.out.size)); have BX00 := Lib.hid (BX0.out.below hb); clear hb hvb HB0 BX0; have HB0 := HB00; have BX0 := BX00; clear HB00 BX00; obtain ⟨k0, k1, k2, k3, k4, k5⟩ := BX0.out)) | (go_at_call 48; go_must (with_reducible refine (N1.out _ HB0.out).mono ?_; rintro e w1 ⟨rfl, hb⟩; have HB1 := Lib.hid (HB0.out.trans (hb.mono HB0.out.size)); have BX1 := Lib.hid (BX0.out.below hb); have HV1 := Lib.hid (HV0.out.below hb); clear hb; cases b1; (· simp only [okOr_false]; exact panic_post rfl ⟨rfl, HB1.out⟩); simp only [okOr_true]; obtain ⟨k0, k1, k2, k3, k4, k5⟩ := BX1.out)) | (go_at_call 22; go_must (with_reducible refine (N2.out _ HB1.out).mono ?_; rintro e w2 ⟨rfl, hb⟩; have HB2 := Lib.hid (HB1.out.trans (hb.mono HB1.out.size)); have BX2 := Lib.hid (BX1.out.below hb); have HV2 := Lib.hid (HV1.out.below hb); clear hb; simp only [okOr_true]; obtain ⟨k0, k1, k2, k3, k4, k5⟩ := BX2.out)) | (go_at_call 40; first | (with_reducible refine (N3.out _ HB2.out).mono ?_; rintro e w3 ⟨rfl, hb⟩; have HB3 := Lib.hid (HB2.out.trans (hb.mono HB2.out.size)); have BX3 := Lib.hid (BX2.out.below hb); have HV3 := Lib.hid (HV2.out.below hb); clear hb; cases b3; (· simp only [okOr_false]; exact panic_post rfl ⟨rfl, HB3.out⟩); simp only [okOr_true]; obtain ⟨k0, k1, k2, k3, k4, k5⟩ := BX3.out) | (with_reducible refine (N4.out _ _ HB3.out HV3.out).mono ?_; rintro e w4 ⟨rfl, hb⟩; have HB4 := Lib.hid (HB3.out.trans (hb.mono HB3.out.size)); have BX4 := Lib.hid (BX3.out.below hb); have HV4 := Lib.hid (HV3.out.below hb); clear hb; cases b4; (· simp only [okOr_false]; exact panic_post rfl ⟨rfl, HB4.out⟩); simp only [okOr_true]; obtain ⟨k0, k1, k2, k3, k4, k5⟩ := BX4.out)))
  go_ret
  exact ⟨rfl, HB4.out⟩
set_option maxRecDepth 100000 in
set_option maxHeartbeats 4000000 in
theorem statement_14b {tt : ByteArray} {nn aa : Int} {y0 y1 : Nd} {p : Option Addr} {c : Nat} {d : Bool} {w : World} (_hk : KidsV w p [y0, y1]) (_ht : tt.size ≤ 1000000000) :
    Calls Try.prog 33 #[.agg (lookC (.mk 14 tt nn aa [y0, y1]) p c d)] w fun e w' => e = okB (shapeB d (.mk 14 tt nn aa [y0, y1])) ∧ Below w.heap.size w w' := by
  rw [shape_14 (Or.inr rfl)]
  show Calls Try.prog 33 #[.agg #[.int .u8 14, .string tt, .int .i64 nn, .int .i64 aa, .slice p 2 c, .bool d]] w fun e w' => e = okB (((tt.data.toList == [] || nameB tt.data.toList) && nn == 0) && (areB [y0, y1] saidK 0 1 && areB [y0, y1] (fun k => [9].contains k) 1 2)) ∧ Below w.heap.size w w'
  have hlen : ([y0, y1] : List Nd).length ≤ 1000000 := by simp
  have M1 : ∀ u, Below w.heap.size w u → Calls Try.prog 48 #[.agg #[.int .u8 14, .string tt, .int .i64 nn, .int .i64 aa, .slice p 2 c, .bool d]] u fun e w' => e = okOr (((tt.data.toList == [] || nameB tt.data.toList) && nn == 0)) ∧ Below u.heap.size u w' := by
    intro u hu; exact label_any (x := .mk 14 tt nn aa [y0, y1]) _ht
  have M2 : ∀ u, Below w.heap.size w u → Calls Try.prog 22 #[.slice (some ⟨u.heap.size, 0, none⟩) 1 1] (u.alloc (.cells #[.bool true] 4)) fun e w' => e = okOr (true) ∧ Below u.heap.size u w' := fun u _ => mustA1 true u
  have M3 : ∀ (u : World), Below w.heap.size w u → Calls Try.prog 40 #[.agg #[.int .u8 14, .string tt, .int .i64 nn, .int .i64 aa, .slice p 2 c, .bool d], .int .i64 (0), .int .i64 (1), (.func (.func 46) #[] #[])] u fun e w' => e = okOr (areB [y0, y1] saidK 0 1) ∧ Below u.heap.size u w' := by
    intro u hu; exact are_any (x := .mk 14 tt nn aa [y0, y1]) (fr := 0) (to := 1) (KidsV.below hu _hk) (isP_said u) (by first | exact Nat.le_refl _ | (show _ ≤ [y0, y1].length; simp) | (show _ ≤ [y0, y1].length; omega)) hlen (by omega)
  have M4 : ∀ (u : World) (v : Value), Below w.heap.size w u → IsP u v (fun k => [9].contains k) → Calls Try.prog 40 #[.agg #[.int .u8 14, .string tt, .int .i64 nn, .int .i64 aa, .slice p 2 c, .bool d], .int .i64 (1), .int .i64 (2), v] u fun e w' => e = okOr (areB [y0, y1] (fun k => [9].contains k) 1 2) ∧ Below u.heap.size u w' := by
    intro u v hu hv; exact are_any (x := .mk 14 tt nn aa [y0, y1]) (fr := 1) (to := 2) (KidsV.below hu _hk) hv (by first | exact Nat.le_refl _ | (show _ ≤ [y0, y1].length; simp) | (show _ ≤ [y0, y1].length; omega)) hlen (by omega)
  generalize ((tt.data.toList == [] || nameB tt.data.toList) && nn == 0) = b1 at *
  generalize (areB [y0, y1] saidK 0 1) = b3 at *
  generalize (areB [y0, y1] (fun k => [9].contains k) 1 2) = b4 at *
  have N1 := Lib.hid M1; clear M1
  have N2 := Lib.hid M2; clear M2
  have N3 := Lib.hid M3; clear M3
  have N4 := Lib.hid M4; clear M4
  have HB0 : Hid (Below w.heap.size w (w.alloc (.cells #[.int .u8 14, .string tt, .int .i64 nn, .int .i64 aa, .slice p 2 c, .bool d] 42))) := Lib.hid ((Below.refl w.heap.size w).alloc (Nat.le_refl _) _)
  have BX0 : Hid (BoxAt (w.alloc (.cells #[.int .u8 14, .string tt, .int .i64 nn, .int .i64 aa, .slice p 2 c, .bool d] 42)) w.heap.size (.int .u8 14) (.string tt) (.int .i64 nn) (.int .i64 aa) (.slice p 2 c) (.bool d)) := Lib.hid BoxAt.new
  have NB : Hid (Calls Try.prog 41 #[.slice (some ⟨w.heap.size + 1, 0, none⟩) 1 1] ((w.alloc (.cells #[.int .u8 14, .string tt, .int .i64 nn, .int .i64 aa, .slice p 2 c, .bool d] 42)).alloc (.cells #[.int .u8 9] 22)) fun e w' => ∃ v, e = .returned v ∧ IsP w' v (fun k => [9].contains k) ∧ Below (w.alloc (.cells #[.int .u8 14, .string tt, .int .i64 nn, .int .i64 aa, .slice p 2 c, .bool d] 42)).heap.size (w.alloc (.cells #[.int .u8 14, .string tt, .int .i64 nn, .int .i64 aa, .slice p 2 c, .bool d] 42)) w') := Lib.hid (by rw [show w.heap.size + 1 = (w.alloc (.cells #[.int .u8 14, .string tt, .int .i64 nn, .int .i64 aa, .slice p 2 c, .bool d] 42)).heap.size by simp]; exact ofA1 9 _)
  clear _hk _ht hlen
  go_enter Try.func33, Try.ntmps33
  go_wp2_with (first | (go_at_call 41; go_must (with_reducible refine NB.out.mono ?_; rintro e w100 ⟨vb, rfl, hvb, hb⟩; have HV0 := Lib.hid hvb; have HB00 := Lib.hid (HB0.out.trans (hb.mono HB0.out.size)); have BX00 := Lib.hid (BX0.out.below hb); clear hb hvb HB0 BX0; have HB0 := HB00; have BX0 := BX00; clear HB00 BX00; obtain ⟨k0, k1, k2, k3, k4, k5⟩ := BX0.out)) | (go_at_call 48; go_must (with_reducible refine (N1.out _ HB0.out).mono ?_; rintro e w1 ⟨rfl, hb⟩; have HB1 := Lib.hid (HB0.out.trans (hb.mono HB0.out.size)); have BX1 := Lib.hid (BX0.out.below hb); have HV1 := Lib.hid (HV0.out.below hb); clear hb; cases b1; (· simp only [okOr_false]; exact panic_post rfl ⟨rfl, HB1.out⟩); simp only [okOr_true]; obtain ⟨k0, k1, k2, k3, k4, k5⟩ := BX1.out)) | (go_at_call 22; go_must (with_reducible refine (N2.out _ HB1.out).mono ?_; rintro e w2 ⟨rfl, hb⟩; have HB2 := Lib.hid (HB1.out.trans (hb.mono HB1.out.size)); have BX2 := Lib.hid (BX1.out.below hb); have HV2 := Lib.hid (HV1.out.below hb); clear hb; simp only [okOr_true]; obtain ⟨k0, k1, k2, k3, k4, k5⟩ := BX2.out)) | (go_at_call 40; first | (with_reducible refine (N3.out _ HB2.out).mono ?_; rintro e w3 ⟨rfl, hb⟩; have HB3 := Lib.hid (HB2.out.trans (hb.mono HB2.out.size)); have BX3 := Lib.hid (BX2.out.below hb); have HV3 := Lib.hid (HV2.out.below hb); clear hb; cases b3; (· simp only [okOr_false]; exact panic_post rfl ⟨rfl, HB3.out⟩); simp only [okOr_true]; obtain ⟨k0, k1, k2, k3, k4, k5⟩ := BX3.out) | (with_reducible refine (N4.out _ _ HB3.out HV3.out).mono ?_; rintro e w4 ⟨rfl, hb⟩; have HB4 := Lib.hid (HB3.out.trans (hb.mono HB3.out.size)); have BX4 := Lib.hid (BX3.out.below hb); have HV4 := Lib.hid (HV3.out.below hb); clear hb; cases b4; (· simp only [okOr_false]; exact panic_post rfl ⟨rfl, HB4.out⟩); simp only [okOr_true]; obtain ⟨k0, k1, k2, k3, k4, k5⟩ := BX4.out)))
  go_ret
  exact ⟨rfl, HB4.out⟩
set_option maxRecDepth 100000 in
set_option maxHeartbeats 4000000 in
theorem statement_14n {tt : ByteArray} {nn aa : Int} {l : List Nd} {p : Option Addr} {c : Nat} {d : Bool} {w : World} (_hk : KidsV w p l) (hlen : l.length ≤ 1000000) (_ht : tt.size ≤ 1000000000) (h1 : l.length ≠ 1) (h2 : l.length ≠ 2) :
    Calls Try.prog 33 #[.agg (lookC (.mk 14 tt nn aa l) p c d)] w fun e w' => e = okB (shapeB d (.mk 14 tt nn aa l)) ∧ Below w.heap.size w w' := by
  rw [shape_14n h1 h2]
  show Calls Try.prog 33 #[.agg #[.int .u8 14, .string tt, .int .i64 nn, .int .i64 aa, .slice p l.length c, .bool d]] w fun e w' => e = okB (((tt.data.toList == [] || nameB tt.data.toList) && nn == 0) && false) ∧ Below w.heap.size w w'
  generalize hnk2 : l.length = nk at *
  have e1 : ((nk : Int) == 1) = false := by simp; omega
  have e2 : ((nk : Int) == 2) = false := by simp; omega
  have M1 : ∀ u, Below w.heap.size w u → Calls Try.prog 48 #[.agg #[.int .u8 14, .string tt, .int .i64 nn, .int .i64 aa, .slice p nk c, .bool d]] u fun e w' => e = okOr (((tt.data.toList == [] || nameB tt.data.toList) && nn == 0)) ∧ Below u.heap.size u w' := by
    intro u hu; subst hnk2; exact label_any (x := .mk 14 tt nn aa l) _ht
  have M2 : ∀ u, Below w.heap.size w u → Calls Try.prog 22 #[.slice (some ⟨u.heap.size, 0, none⟩) 1 1] (u.alloc (.cells #[.bool false] 4)) fun e w' => e = okOr (false) ∧ Below u.heap.size u w' := fun u _ => mustA1 false u
  generalize ((tt.data.toList == [] || nameB tt.data.toList) && nn == 0) = b1 at *
  have N1 := Lib.hid M1; clear M1
  have N2 := Lib.hid M2; clear M2
  have HB0 : Hid (Below w.heap.size w (w.alloc (.cells #[.int .u8 14, .string tt, .int .i64 nn, .int .i64 aa, .slice p nk c, .bool d] 42))) := Lib.hid ((Below.refl w.heap.size w).alloc (Nat.le_refl _) _)
  have BX0 : Hid (BoxAt (w.alloc (.cells #[.int .u8 14, .string tt, .int .i64 nn, .int .i64 aa, .slice p nk c, .bool d] 42)) w.heap.size (.int .u8 14) (.string tt) (.int .i64 nn) (.int .i64 aa) (.slice p nk c) (.bool d)) := Lib.hid BoxAt.new
  have NB : Hid (Calls Try.prog 41 #[.slice (some ⟨w.heap.size + 1, 0, none⟩) 1 1] ((w.alloc (.cells #[.int .u8 14, .string tt, .int .i64 nn, .int .i64 aa, .slice p nk c, .bool d] 42)).alloc (.cells #[.int .u8 9] 22)) fun e w' => ∃ v, e = .returned v ∧ IsP w' v (fun k => [9].contains k) ∧ Below (w.alloc (.cells #[.int .u8 14, .string tt, .int .i64 nn, .int .i64 aa, .slice p nk c, .bool d] 42)).heap.size (w.alloc (.cells #[.int .u8 14, .string tt, .int .i64 nn, .int .i64 aa, .slice p nk c, .bool d] 42)) w') := Lib.hid (by rw [show w.heap.size + 1 = (w.alloc (.cells #[.int .u8 14, .string tt, .int .i64 nn, .int .i64 aa, .slice p nk c, .bool d] 42)).heap.size by simp]; exact ofA1 9 _)
  have HNK := Lib.hid hnk2; clear hnk2 _hk _ht hlen
  go_enter Try.func33, Try.ntmps33
  go_wp2_with (first | (go_at_call 41; go_must (with_reducible refine NB.out.mono ?_; rintro e w100 ⟨vb, rfl, hvb, hb⟩; have HV0 := Lib.hid hvb; have HB00 := Lib.hid (HB0.out.trans (hb.mono HB0.out.size)); have BX00 := Lib.hid (BX0.out.below hb); clear hb hvb HB0 BX0; have HB0 := HB00; have BX0 := BX00; clear HB00 BX00; obtain ⟨k0, k1, k2, k3, k4, k5⟩ := BX0.out)) | (go_at_call 48; go_must (with_reducible refine (N1.out _ HB0.out).mono ?_; rintro e w1 ⟨rfl, hb⟩; have HB1 := Lib.hid (HB0.out.trans (hb.mono HB0.out.size)); have BX1 := Lib.hid (BX0.out.below hb); have HV1 := Lib.hid (HV0.out.below hb); clear hb; cases b1; (· simp only [okOr_false]; exact panic_post rfl ⟨rfl, HB1.out⟩); simp only [okOr_true]; obtain ⟨k0, k1, k2, k3, k4, k5⟩ := BX1.out)) | (go_at_call 22; go_must (with_reducible refine (N2.out _ HB1.out).mono ?_; rintro e w2 ⟨rfl, hb⟩; have HB2 := Lib.hid (HB1.out.trans (hb.mono HB1.out.size)); clear hb; simp only [okOr_false]; exact panic_post rfl ⟨rfl, HB2.out⟩)))
set_option maxRecDepth 100000 in
set_option maxHeartbeats 4000000 in
theorem statement_15 {tt : ByteArray} {nn aa : Int} {l : List Nd} {p : Option Addr} {c : Nat} {d : Bool} {w : World} (_hk : KidsV w p l) (hlen : l.length ≤ 1000000) (_ht : tt.size ≤ 1000000000) (h : 1 ≤ l.length) :
    Calls Try.prog 33 #[.agg (lookC (.mk 15 tt nn aa l) p c d)] w fun e w' => e = okB (shapeB d (.mk 15 tt nn aa l)) ∧ Below w.heap.size w w' := by
  rw [shape_15 h]
  show Calls Try.prog 33 #[.agg #[.int .u8 15, .string tt, .int .i64 nn, .int .i64 aa, .slice p l.length c, .bool d]] w fun e w' => e = okB ((tt.data.toList == [] && nn == 0) && (areB l saidK 0 1 && areB l (fun k => [16].contains k) 1 l.length)) ∧ Below w.heap.size w w'
  generalize hnk2 : l.length = nk at *
  have g1 : (1 : Int) ≤ (nk : Int) := by omega
  have M1 : ∀ u, Below w.heap.size w u → Calls Try.prog 42 #[.agg #[.int .u8 15, .string tt, .int .i64 nn, .int .i64 aa, .slice p nk c, .bool d]] u fun e w' => e = okOr ((tt.data.toList == [] && nn == 0)) ∧ Below u.heap.size u w' := by
    intro u hu; subst hnk2; exact bare_any (x := .mk 15 tt nn aa l) u
  have M2 : ∀ u, Below w.heap.size w u → Calls Try.prog 22 #[.slice (some ⟨u.heap.size, 0, none⟩) 1 1] (u.alloc (.cells #[.bool true] 4)) fun e w' => e = okOr (true) ∧ Below u.heap.size u w' := fun u _ => mustA1 true u
  have M3 : ∀ (u : World), Below w.heap.size w u → Calls Try.prog 40 #[.agg #[.int .u8 15, .string tt, .int .i64 nn, .int .i64 aa, .slice p nk c, .bool d], .int .i64 (0), .int .i64 (1), (.func (.func 46) #[] #[])] u fun e w' => e = okOr (areB l saidK 0 1) ∧ Below u.heap.size u w' := by
    intro u hu; subst hnk2; exact are_any (x := .mk 15 tt nn aa l) (fr := 0) (to := 1) (KidsV.below hu _hk) (isP_said u) (by first | exact Nat.le_refl _ | (show _ ≤ l.length; simp) | (show _ ≤ l.length; omega)) hlen (by omega)
  have M4 : ∀ (u : World) (v : Value), Below w.heap.size w u → IsP u v (fun k => [16].contains k) → Calls Try.prog 40 #[.agg #[.int .u8 15, .string tt, .int .i64 nn, .int .i64 aa, .slice p nk c, .bool d], .int .i64 (1), .int .i64 ((nk : Int)), v] u fun e w' => e = okOr (areB l (fun k => [16].contains k) 1 nk) ∧ Below u.heap.size u w' := by
    intro u v hu hv; subst hnk2; exact are_any (x := .mk 15 tt nn aa l) (fr := 1) (to := l.length) (KidsV.below hu _hk) hv (by first | exact Nat.le_refl _ | (show _ ≤ l.length; simp) | (show _ ≤ l.length; omega)) hlen (by omega)
  generalize (tt.data.toList == [] && nn == 0) = b1 at *
  generalize (areB l saidK 0 1) = b3 at *
  generalize (areB l (fun k => [16].contains k) 1 nk) = b4 at *
  have N1 := Lib.hid M1; clear M1
  have N2 := Lib.hid M2; clear M2
  have N3 := Lib.hid M3; clear M3
  have N4 := Lib.hid M4; clear M4
  have HB0 : Hid (Below w.heap.size w (w.alloc (.cells #[.int .u8 15, .string tt, .int .i64 nn, .int .i64 aa, .slice p nk c, .bool d] 42))) := Lib.hid ((Below.refl w.heap.size w).alloc (Nat.le_refl _) _)
  have BX0 : Hid (BoxAt (w.alloc (.cells #[.int .u8 15, .string tt, .int .i64 nn, .int .i64 aa, .slice p nk c, .bool d] 42)) w.heap.size (.int .u8 15) (.string tt) (.int .i64 nn) (.int .i64 aa) (.slice p nk c) (.bool d)) := Lib.hid BoxAt.new
  have NB : Hid (Calls Try.prog 41 #[.slice (some ⟨w.heap.size + 1, 0, none⟩) 1 1] ((w.alloc (.cells #[.int .u8 15, .string tt, .int .i64 nn, .int .i64 aa, .slice p nk c, .bool d] 42)).alloc (.cells #[.int .u8 9] 22)) fun e w' => ∃ v, e = .returned v ∧ IsP w' v (fun k => [9].contains k) ∧ Below (w.alloc (.cells #[.int .u8 15, .string tt, .int .i64 nn, .int .i64 aa, .slice p nk c, .bool d] 42)).heap.size (w.alloc (.cells #[.int .u8 15, .string tt, .int .i64 nn, .int .i64 aa, .slice p nk c, .bool d] 42)) w') := Lib.hid (by rw [show w.heap.size + 1 = (w.alloc (.cells #[.int .u8 15, .string tt, .int .i64 nn, .int .i64 aa, .slice p nk c, .bool d] 42)).heap.size by simp]; exact ofA1 9 _)
  have HNK := Lib.hid hnk2; clear hnk2 _hk _ht hlen
  go_enter Try.func33, Try.ntmps33
  go_wp2_with (first | (go_at_call 41; go_must (with_reducible refine NB.out.mono ?_; rintro e w100 ⟨vb, rfl, hvb, hb⟩; have HV0 := Lib.hid hvb; have HB00 := Lib.hid (HB0.out.trans (hb.mono HB0.out.size)); have BX00 := Lib.hid (BX0.out.below hb); clear hb hvb HB0 BX0; have HB0 := HB00; have BX0 := BX00; clear HB00 BX00; obtain ⟨k0, k1, k2, k3, k4, k5⟩ := BX0.out)) | (go_at_call 42; go_must (with_reducible refine (N1.out _ HB0.out).mono ?_; rintro e w1 ⟨rfl, hb⟩; have HB1 := Lib.hid (HB0.out.trans (hb.mono HB0.out.size)); have BX1 := Lib.hid (BX0.out.below hb); have HV1 := Lib.hid (HV0.out.below hb); clear hb; cases b1; (· simp only [okOr_false]; exact panic_post rfl ⟨rfl, HB1.out⟩); simp only [okOr_true]; obtain ⟨k0, k1, k2, k3, k4, k5⟩ := BX1.out)) | (go_at_call 22; go_must (with_reducible refine (N2.out _ HB1.out).mono ?_; rintro e w2 ⟨rfl, hb⟩; have HB2 := Lib.hid (HB1.out.trans (hb.mono HB1.out.size)); have BX2 := Lib.hid (BX1.out.below hb); have HV2 := Lib.hid (HV1.out.below hb); clear hb; simp only [okOr_true]; obtain ⟨k0, k1, k2, k3, k4, k5⟩ := BX2.out)) | (go_at_call 40; go_must (with_reducible refine (N3.out _ HB2.out).mono ?_; rintro e w3 ⟨rfl, hb⟩; have HB3 := Lib.hid (HB2.out.trans (hb.mono HB2.out.size)); have BX3 := Lib.hid (BX2.out.below hb); have HV3 := Lib.hid (HV2.out.below hb); clear hb; cases b3; (· simp only [okOr_false]; exact panic_post rfl ⟨rfl, HB3.out⟩); simp only [okOr_true]; obtain ⟨k0, k1, k2, k3, k4, k5⟩ := BX3.out)))
  clear k0 k1 k2 k3 k4 k5
  refine wp_region_mixI (l1 := [_, _, _, _]) (l2 := [_]) [(0, true), (1, true), (2, false), (3, false)] (fun u => Below w3.heap.size w3 u) (by kernel_rfl) (by kernel_rfl) (by repeat (first | refine loose_then ?_ | refine loose_block ?_ | exact loose_body (P := Try.prog) (fn := Try.f33))) ((Below.refl _ w3).drew) ?_
  refine mixI_take (.agg #[.int .u8 15, .string tt, .int .i64 nn, .int .i64 aa, .slice p nk c, .bool d]) rfl rfl (fun u hu => by obtain ⟨k0, k1, k2, k3, k4, k5⟩ := BX3.out.below hu; go_simp) ?_
  refine mixI_take (.int .i64 (nk : Int)) rfl rfl (fun u hu => by go_simp) ?_
  refine mixI_go rfl rfl fun K hK => wp_val (v := .slice (some ⟨w3.heap.size, 0, none⟩) 1 1) (w' := w3.drew.alloc (.cells #[.int .u8 16] 22)) (by go_simp) ?_
  refine hK.out _ _ (((Below.refl _ w3).drew).alloc (Nat.le_refl _) _) ?_
  clear hK
  refine mixI_go rfl rfl fun K hK => wp_go (f := 41) (args := #[.slice (some ⟨w3.heap.size, 0, none⟩) 1 1]) (by go_simp) ((of_any (l := [16]) (by decide) (kinds1 _)).mono ?_)
  rintro e wR ⟨vR, rfl, hvR, hb⟩
  have hbR : Below w3.heap.size w3 wR := (((Below.refl _ w3).drew).alloc (Nat.le_refl _) (.cells #[.int .u8 16] 22)).trans (hb.mono (by simp))
  refine hK.out _ _ hbR ?_
  clear hK
  show wpList _ _ _ _ _ _
  have HBR := Lib.hid (HB3.out.trans (hbR.mono HB3.out.size))
  have N4R := Lib.hid (N4.out _ _ HBR.out hvR)
  have BXR := Lib.hid (BX3.out.below hbR)
  have HVR := Lib.hid (HV3.out.below hbR)
  clear hb hvR hbR
  go_wp2_with (go_at_call 40; go_must (with_reducible refine (N4R.out).mono ?_; rintro e w4 ⟨rfl, hb⟩; have HB4 := Lib.hid (HBR.out.trans (hb.mono HBR.out.size)); have BX4 := Lib.hid (BXR.out.below hb); have HV4 := Lib.hid (HVR.out.below hb); clear hb; cases b4; (· simp only [okOr_false]; exact panic_post rfl ⟨rfl, HB4.out⟩); simp only [okOr_true]; obtain ⟨k0, k1, k2, k3, k4, k5⟩ := BX4.out))
  go_ret
  exact ⟨rfl, HB4.out⟩
set_option maxRecDepth 100000 in
set_option maxHeartbeats 4000000 in
theorem statement_15n {tt : ByteArray} {nn aa : Int}  {p : Option Addr} {c : Nat} {d : Bool} {w : World} (_hk : KidsV w p []) (_ht : tt.size ≤ 1000000000) :
    Calls Try.prog 33 #[.agg (lookC (.mk 15 tt nn aa []) p c d)] w fun e w' => e = okB (shapeB d (.mk 15 tt nn aa [])) ∧ Below w.heap.size w w' := by
  rw [shape_15n (by simp)]
  show Calls Try.prog 33 #[.agg #[.int .u8 15, .string tt, .int .i64 nn, .int .i64 aa, .slice p 0 c, .bool d]] w fun e w' => e = okB ((tt.data.toList == [] && nn == 0) && false) ∧ Below w.heap.size w w'
  have hlen : ([] : List Nd).length ≤ 1000000 := by simp
  have M1 : ∀ u, Below w.heap.size w u → Calls Try.prog 42 #[.agg #[.int .u8 15, .string tt, .int .i64 nn, .int .i64 aa, .slice p 0 c, .bool d]] u fun e w' => e = okOr ((tt.data.toList == [] && nn == 0)) ∧ Below u.heap.size u w' := by
    intro u hu; exact bare_any (x := .mk 15 tt nn aa []) u
  have M2 : ∀ u, Below w.heap.size w u → Calls Try.prog 22 #[.slice (some ⟨u.heap.size, 0, none⟩) 1 1] (u.alloc (.cells #[.bool false] 4)) fun e w' => e = okOr (false) ∧ Below u.heap.size u w' := fun u _ => mustA1 false u
  generalize (tt.data.toList == [] && nn == 0) = b1 at *
  have N1 := Lib.hid M1; clear M1
  have N2 := Lib.hid M2; clear M2
  have HB0 : Hid (Below w.heap.size w (w.alloc (.cells #[.int .u8 15, .string tt, .int .i64 nn, .int .i64 aa, .slice p 0 c, .bool d] 42))) := Lib.hid ((Below.refl w.heap.size w).alloc (Nat.le_refl _) _)
  have BX0 : Hid (BoxAt (w.alloc (.cells #[.int .u8 15, .string tt, .int .i64 nn, .int .i64 aa, .slice p 0 c, .bool d] 42)) w.heap.size (.int .u8 15) (.string tt) (.int .i64 nn) (.int .i64 aa) (.slice p 0 c) (.bool d)) := Lib.hid BoxAt.new
  have NB : Hid (Calls Try.prog 41 #[.slice (some ⟨w.heap.size + 1, 0, none⟩) 1 1] ((w.alloc (.cells #[.int .u8 15, .string tt, .int .i64 nn, .int .i64 aa, .slice p 0 c, .bool d] 42)).alloc (.cells #[.int .u8 9] 22)) fun e w' => ∃ v, e = .returned v ∧ IsP w' v (fun k => [9].contains k) ∧ Below (w.alloc (.cells #[.int .u8 15, .string tt, .int .i64 nn, .int .i64 aa, .slice p 0 c, .bool d] 42)).heap.size (w.alloc (.cells #[.int .u8 15, .string tt, .int .i64 nn, .int .i64 aa, .slice p 0 c, .bool d] 42)) w') := Lib.hid (by rw [show w.heap.size + 1 = (w.alloc (.cells #[.int .u8 15, .string tt, .int .i64 nn, .int .i64 aa, .slice p 0 c, .bool d] 42)).heap.size by simp]; exact ofA1 9 _)
  clear _hk _ht hlen
  go_enter Try.func33, Try.ntmps33
  go_wp2_with (first | (go_at_call 41; go_must (with_reducible refine NB.out.mono ?_; rintro e w100 ⟨vb, rfl, hvb, hb⟩; have HV0 := Lib.hid hvb; have HB00 := Lib.hid (HB0.out.trans (hb.mono HB0.out.size)); have BX00 := Lib.hid (BX0.out.below hb); clear hb hvb HB0 BX0; have HB0 := HB00; have BX0 := BX00; clear HB00 BX00; obtain ⟨k0, k1, k2, k3, k4, k5⟩ := BX0.out)) | (go_at_call 42; go_must (with_reducible refine (N1.out _ HB0.out).mono ?_; rintro e w1 ⟨rfl, hb⟩; have HB1 := Lib.hid (HB0.out.trans (hb.mono HB0.out.size)); have BX1 := Lib.hid (BX0.out.below hb); have HV1 := Lib.hid (HV0.out.below hb); clear hb; cases b1; (· simp only [okOr_false]; exact panic_post rfl ⟨rfl, HB1.out⟩); simp only [okOr_true]; obtain ⟨k0, k1, k2, k3, k4, k5⟩ := BX1.out)) | (go_at_call 22; go_must (with_reducible refine (N2.out _ HB1.out).mono ?_; rintro e w2 ⟨rfl, hb⟩; have HB2 := Lib.hid (HB1.out.trans (hb.mono HB1.out.size)); clear hb; simp only [okOr_false]; exact panic_post rfl ⟨rfl, HB2.out⟩)))
set_option maxRecDepth 100000 in
set_option maxHeartbeats 4000000 in
theorem statement_16 {tt : ByteArray} {nn aa : Int} {l : List Nd} {p : Option Addr} {c : Nat} {d : Bool} {w : World} (_hk : KidsV w p l) (hlen : l.length ≤ 1000000) (_ht : tt.size ≤ 1000000000) (h : 1 ≤ l.length) :
    Calls Try.prog 33 #[.agg (lookC (.mk 16 tt nn aa l) p c d)] w fun e w' => e = okB (shapeB d (.mk 16 tt nn aa l)) ∧ Below w.heap.size w w' := by
  rw [shape_16 h]
  show Calls Try.prog 33 #[.agg #[.int .u8 16, .string tt, .int .i64 nn, .int .i64 aa, .slice p l.length c, .bool d]] w fun e w' => e = okB ((tt.data.toList == [] && nn == 0) && (areB l saidK 0 (l.length - 1) && areB l (fun k => [9].contains k) (l.length - 1) l.length)) ∧ Below w.heap.size w w'
  generalize hnk2 : l.length = nk at *
  have g1 : (1 : Int) ≤ (nk : Int) := by omega
  have M1 : ∀ u, Below w.heap.size w u → Calls Try.prog 42 #[.agg #[.int .u8 16, .string tt, .int .i64 nn, .int .i64 aa, .slice p nk c, .bool d]] u fun e w' => e = okOr ((tt.data.toList == [] && nn == 0)) ∧ Below u.heap.size u w' := by
    intro u hu; subst hnk2; exact bare_any (x := .mk 16 tt nn aa l) u
  have M2 : ∀ u, Below w.heap.size w u → Calls Try.prog 22 #[.slice (some ⟨u.heap.size, 0, none⟩) 1 1] (u.alloc (.cells #[.bool true] 4)) fun e w' => e = okOr (true) ∧ Below u.heap.size u w' := fun u _ => mustA1 true u
  have M3 : ∀ (u : World), Below w.heap.size w u → Calls Try.prog 40 #[.agg #[.int .u8 16, .string tt, .int .i64 nn, .int .i64 aa, .slice p nk c, .bool d], .int .i64 (0), .int .i64 ((nk : Int) - 1), (.func (.func 46) #[] #[])] u fun e w' => e = okOr (areB l saidK 0 (nk - 1)) ∧ Below u.heap.size u w' := by
    intro u hu; rw [show ((nk : Int) - 1 : Int) = (((nk - 1) : Nat) : Int) by omega]; subst hnk2; exact are_any (x := .mk 16 tt nn aa l) (fr := 0) (to := (l.length - 1)) (KidsV.below hu _hk) (isP_said u) (by first | exact Nat.le_refl _ | (show _ ≤ l.length; simp) | (show _ ≤ l.length; omega)) hlen (by omega)
  have M4 : ∀ (u : World) (v : Value), Below w.heap.size w u → IsP u v (fun k => [9].contains k) → Calls Try.prog 40 #[.agg #[.int .u8 16, .string tt, .int .i64 nn, .int .i64 aa, .slice p nk c, .bool d], .int .i64 ((nk : Int) - 1), .int .i64 ((nk : Int)), v] u fun e w' => e = okOr (areB l (fun k => [9].contains k) (nk - 1) nk) ∧ Below u.heap.size u w' := by
    intro u v hu hv; rw [show ((nk : Int) - 1 : Int) = (((nk - 1) : Nat) : Int) by omega]; subst hnk2; exact are_any (x := .mk 16 tt nn aa l) (fr := (l.length - 1)) (to := l.length) (KidsV.below hu _hk) hv (by first | exact Nat.le_refl _ | (show _ ≤ l.length; simp) | (show _ ≤ l.length; omega)) hlen (by omega)
  generalize (tt.data.toList == [] && nn == 0) = b1 at *
  generalize (areB l saidK 0 (nk - 1)) = b3 at *
  generalize (areB l (fun k => [9].contains k) (nk - 1) nk) = b4 at *
  have N1 := Lib.hid M1; clear M1
  have N2 := Lib.hid M2; clear M2
  have N3 := Lib.hid M3; clear M3
  have N4 := Lib.hid M4; clear M4
  have HB0 : Hid (Below w.heap.size w (w.alloc (.cells #[.int .u8 16, .string tt, .int .i64 nn, .int .i64 aa, .slice p nk c, .bool d] 42))) := Lib.hid ((Below.refl w.heap.size w).alloc (Nat.le_refl _) _)
  have BX0 : Hid (BoxAt (w.alloc (.cells #[.int .u8 16, .string tt, .int .i64 nn, .int .i64 aa, .slice p nk c, .bool d] 42)) w.heap.size (.int .u8 16) (.string tt) (.int .i64 nn) (.int .i64 aa) (.slice p nk c) (.bool d)) := Lib.hid BoxAt.new
  have NB : Hid (Calls Try.prog 41 #[.slice (some ⟨w.heap.size + 1, 0, none⟩) 1 1] ((w.alloc (.cells #[.int .u8 16, .string tt, .int .i64 nn, .int .i64 aa, .slice p nk c, .bool d] 42)).alloc (.cells #[.int .u8 9] 22)) fun e w' => ∃ v, e = .returned v ∧ IsP w' v (fun k => [9].contains k) ∧ Below (w.alloc (.cells #[.int .u8 16, .string tt, .int .i64 nn, .int .i64 aa, .slice p nk c, .bool d] 42)).heap.size (w.alloc (.cells #[.int .u8 16, .string tt, .int .i64 nn, .int .i64 aa, .slice p nk c, .bool d] 42)) w') := Lib.hid (by rw [show w.heap.size + 1 = (w.alloc (.cells #[.int .u8 16, .string tt, .int .i64 nn, .int .i64 aa, .slice p nk c, .bool d] 42)).heap.size by simp]; exact ofA1 9 _)
  have HNK := Lib.hid hnk2; clear hnk2 _hk _ht
  go_enter Try.func33, Try.ntmps33
  go_wp2_with (first | (go_at_call 41; go_must (with_reducible refine NB.out.mono ?_; rintro e w100 ⟨vb, rfl, hvb, hb⟩; have HV0 := Lib.hid hvb; have HB00 := Lib.hid (HB0.out.trans (hb.mono HB0.out.size)); have BX00 := Lib.hid (BX0.out.below hb); clear hb hvb HB0 BX0; have HB0 := HB00; have BX0 := BX00; clear HB00 BX00; obtain ⟨k0, k1, k2, k3, k4, k5⟩ := BX0.out)) | (go_at_call 42; go_must (with_reducible refine (N1.out _ HB0.out).mono ?_; rintro e w1 ⟨rfl, hb⟩; have HB1 := Lib.hid (HB0.out.trans (hb.mono HB0.out.size)); have BX1 := Lib.hid (BX0.out.below hb); have HV1 := Lib.hid (HV0.out.below hb); clear hb; cases b1; (· simp only [okOr_false]; exact panic_post rfl ⟨rfl, HB1.out⟩); simp only [okOr_true]; obtain ⟨k0, k1, k2, k3, k4, k5⟩ := BX1.out)) | (go_at_call 22; go_must (with_reducible refine (N2.out _ HB1.out).mono ?_; rintro e w2 ⟨rfl, hb⟩; have HB2 := Lib.hid (HB1.out.trans (hb.mono HB1.out.size)); have BX2 := Lib.hid (BX1.out.below hb); have HV2 := Lib.hid (HV1.out.below hb); clear hb; simp only [okOr_true]; obtain ⟨k0, k1, k2, k3, k4, k5⟩ := BX2.out)) | (go_at_call 40; first | (with_reducible refine (N3.out _ HB2.out).mono ?_; rintro e w3 ⟨rfl, hb⟩; have HB3 := Lib.hid (HB2.out.trans (hb.mono HB2.out.size)); have BX3 := Lib.hid (BX2.out.below hb); have HV3 := Lib.hid (HV2.out.below hb); clear hb; cases b3; (· simp only [okOr_false]; exact panic_post rfl ⟨rfl, HB3.out⟩); simp only [okOr_true]; obtain ⟨k0, k1, k2, k3, k4, k5⟩ := BX3.out) | (with_reducible refine (N4.out _ _ HB3.out HV3.out).mono ?_; rintro e w4 ⟨rfl, hb⟩; have HB4 := Lib.hid (HB3.out.trans (hb.mono HB3.out.size)); have BX4 := Lib.hid (BX3.out.below hb); have HV4 := Lib.hid (HV3.out.below hb); clear hb; cases b4; (· simp only [okOr_false]; exact panic_post rfl ⟨rfl, HB4.out⟩); simp only [okOr_true]; obtain ⟨k0, k1, k2, k3, k4, k5⟩ := BX4.out)))
  go_ret
  exact ⟨rfl, HB4.out⟩
set_option maxRecDepth 100000 in
set_option maxHeartbeats 4000000 in
theorem statement_16n {tt : ByteArray} {nn aa : Int}  {p : Option Addr} {c : Nat} {d : Bool} {w : World} (_hk : KidsV w p []) (_ht : tt.size ≤ 1000000000) :
    Calls Try.prog 33 #[.agg (lookC (.mk 16 tt nn aa []) p c d)] w fun e w' => e = okB (shapeB d (.mk 16 tt nn aa [])) ∧ Below w.heap.size w w' := by
  rw [shape_16n (by simp)]
  show Calls Try.prog 33 #[.agg #[.int .u8 16, .string tt, .int .i64 nn, .int .i64 aa, .slice p 0 c, .bool d]] w fun e w' => e = okB ((tt.data.toList == [] && nn == 0) && false) ∧ Below w.heap.size w w'
  have hlen : ([] : List Nd).length ≤ 1000000 := by simp
  have M1 : ∀ u, Below w.heap.size w u → Calls Try.prog 42 #[.agg #[.int .u8 16, .string tt, .int .i64 nn, .int .i64 aa, .slice p 0 c, .bool d]] u fun e w' => e = okOr ((tt.data.toList == [] && nn == 0)) ∧ Below u.heap.size u w' := by
    intro u hu; exact bare_any (x := .mk 16 tt nn aa []) u
  have M2 : ∀ u, Below w.heap.size w u → Calls Try.prog 22 #[.slice (some ⟨u.heap.size, 0, none⟩) 1 1] (u.alloc (.cells #[.bool false] 4)) fun e w' => e = okOr (false) ∧ Below u.heap.size u w' := fun u _ => mustA1 false u
  generalize (tt.data.toList == [] && nn == 0) = b1 at *
  have N1 := Lib.hid M1; clear M1
  have N2 := Lib.hid M2; clear M2
  have HB0 : Hid (Below w.heap.size w (w.alloc (.cells #[.int .u8 16, .string tt, .int .i64 nn, .int .i64 aa, .slice p 0 c, .bool d] 42))) := Lib.hid ((Below.refl w.heap.size w).alloc (Nat.le_refl _) _)
  have BX0 : Hid (BoxAt (w.alloc (.cells #[.int .u8 16, .string tt, .int .i64 nn, .int .i64 aa, .slice p 0 c, .bool d] 42)) w.heap.size (.int .u8 16) (.string tt) (.int .i64 nn) (.int .i64 aa) (.slice p 0 c) (.bool d)) := Lib.hid BoxAt.new
  have NB : Hid (Calls Try.prog 41 #[.slice (some ⟨w.heap.size + 1, 0, none⟩) 1 1] ((w.alloc (.cells #[.int .u8 16, .string tt, .int .i64 nn, .int .i64 aa, .slice p 0 c, .bool d] 42)).alloc (.cells #[.int .u8 9] 22)) fun e w' => ∃ v, e = .returned v ∧ IsP w' v (fun k => [9].contains k) ∧ Below (w.alloc (.cells #[.int .u8 16, .string tt, .int .i64 nn, .int .i64 aa, .slice p 0 c, .bool d] 42)).heap.size (w.alloc (.cells #[.int .u8 16, .string tt, .int .i64 nn, .int .i64 aa, .slice p 0 c, .bool d] 42)) w') := Lib.hid (by rw [show w.heap.size + 1 = (w.alloc (.cells #[.int .u8 16, .string tt, .int .i64 nn, .int .i64 aa, .slice p 0 c, .bool d] 42)).heap.size by simp]; exact ofA1 9 _)
  clear _hk _ht hlen
  go_enter Try.func33, Try.ntmps33
  go_wp2_with (first | (go_at_call 41; go_must (with_reducible refine NB.out.mono ?_; rintro e w100 ⟨vb, rfl, hvb, hb⟩; have HV0 := Lib.hid hvb; have HB00 := Lib.hid (HB0.out.trans (hb.mono HB0.out.size)); have BX00 := Lib.hid (BX0.out.below hb); clear hb hvb HB0 BX0; have HB0 := HB00; have BX0 := BX00; clear HB00 BX00; obtain ⟨k0, k1, k2, k3, k4, k5⟩ := BX0.out)) | (go_at_call 42; go_must (with_reducible refine (N1.out _ HB0.out).mono ?_; rintro e w1 ⟨rfl, hb⟩; have HB1 := Lib.hid (HB0.out.trans (hb.mono HB0.out.size)); have BX1 := Lib.hid (BX0.out.below hb); have HV1 := Lib.hid (HV0.out.below hb); clear hb; cases b1; (· simp only [okOr_false]; exact panic_post rfl ⟨rfl, HB1.out⟩); simp only [okOr_true]; obtain ⟨k0, k1, k2, k3, k4, k5⟩ := BX1.out)) | (go_at_call 22; go_must (with_reducible refine (N2.out _ HB1.out).mono ?_; rintro e w2 ⟨rfl, hb⟩; have HB2 := Lib.hid (HB1.out.trans (hb.mono HB1.out.size)); clear hb; simp only [okOr_false]; exact panic_post rfl ⟨rfl, HB2.out⟩)))
set_option maxRecDepth 100000 in
set_option maxHeartbeats 4000000 in
theorem statement_17 {tt : ByteArray} {nn aa : Int} {l : List Nd} {p : Option Addr} {c : Nat} {d : Bool} {w : World} (_hk : KidsV w p l) (hlen : l.length ≤ 1000000) (_ht : tt.size ≤ 1000000000) :
    Calls Try.prog 33 #[.agg (lookC (.mk 17 tt nn aa l) p c d)] w fun e w' => e = okB (shapeB d (.mk 17 tt nn aa l)) ∧ Below w.heap.size w w' := by
  rw [shape_17]
  show Calls Try.prog 33 #[.agg #[.int .u8 17, .string tt, .int .i64 nn, .int .i64 aa, .slice p l.length c, .bool d]] w fun e w' => e = okB ((tt.data.toList == [] && nn == 0) && areB l saidK 0 l.length) ∧ Below w.heap.size w w'
  generalize hnk2 : l.length = nk at *
  have M1 : ∀ u, Below w.heap.size w u → Calls Try.prog 42 #[.agg #[.int .u8 17, .string tt, .int .i64 nn, .int .i64 aa, .slice p nk c, .bool d]] u fun e w' => e = okOr ((tt.data.toList == [] && nn == 0)) ∧ Below u.heap.size u w' := by
    intro u hu; subst hnk2; exact bare_any (x := .mk 17 tt nn aa l) u
  have M2 : ∀ (u : World), Below w.heap.size w u → Calls Try.prog 40 #[.agg #[.int .u8 17, .string tt, .int .i64 nn, .int .i64 aa, .slice p nk c, .bool d], .int .i64 (0), .int .i64 ((nk : Int)), (.func (.func 46) #[] #[])] u fun e w' => e = okOr (areB l saidK 0 nk) ∧ Below u.heap.size u w' := by
    intro u hu; subst hnk2; exact are_any (x := .mk 17 tt nn aa l) (fr := 0) (to := l.length) (KidsV.below hu _hk) (isP_said u) (by first | exact Nat.le_refl _ | (show _ ≤ l.length; simp) | (show _ ≤ l.length; omega)) hlen (by omega)
  generalize (tt.data.toList == [] && nn == 0) = b1 at *
  generalize (areB l saidK 0 nk) = b2 at *
  have N1 := Lib.hid M1; clear M1
  have N2 := Lib.hid M2; clear M2
  have HB0 : Hid (Below w.heap.size w (w.alloc (.cells #[.int .u8 17, .string tt, .int .i64 nn, .int .i64 aa, .slice p nk c, .bool d] 42))) := Lib.hid ((Below.refl w.heap.size w).alloc (Nat.le_refl _) _)
  have BX0 : Hid (BoxAt (w.alloc (.cells #[.int .u8 17, .string tt, .int .i64 nn, .int .i64 aa, .slice p nk c, .bool d] 42)) w.heap.size (.int .u8 17) (.string tt) (.int .i64 nn) (.int .i64 aa) (.slice p nk c) (.bool d)) := Lib.hid BoxAt.new
  have NB : Hid (Calls Try.prog 41 #[.slice (some ⟨w.heap.size + 1, 0, none⟩) 1 1] ((w.alloc (.cells #[.int .u8 17, .string tt, .int .i64 nn, .int .i64 aa, .slice p nk c, .bool d] 42)).alloc (.cells #[.int .u8 9] 22)) fun e w' => ∃ v, e = .returned v ∧ IsP w' v (fun k => [9].contains k) ∧ Below (w.alloc (.cells #[.int .u8 17, .string tt, .int .i64 nn, .int .i64 aa, .slice p nk c, .bool d] 42)).heap.size (w.alloc (.cells #[.int .u8 17, .string tt, .int .i64 nn, .int .i64 aa, .slice p nk c, .bool d] 42)) w') := Lib.hid (by rw [show w.heap.size + 1 = (w.alloc (.cells #[.int .u8 17, .string tt, .int .i64 nn, .int .i64 aa, .slice p nk c, .bool d] 42)).heap.size by simp]; exact ofA1 9 _)
  have HNK := Lib.hid hnk2; clear hnk2 _hk _ht hlen
  go_enter Try.func33, Try.ntmps33
  go_wp2_with (first | (go_at_call 41; go_must (with_reducible refine NB.out.mono ?_; rintro e w100 ⟨vb, rfl, hvb, hb⟩; have HV0 := Lib.hid hvb; have HB00 := Lib.hid (HB0.out.trans (hb.mono HB0.out.size)); have BX00 := Lib.hid (BX0.out.below hb); clear hb hvb HB0 BX0; have HB0 := HB00; have BX0 := BX00; clear HB00 BX00; obtain ⟨k0, k1, k2, k3, k4, k5⟩ := BX0.out)) | (go_at_call 42; go_must (with_reducible refine (N1.out _ HB0.out).mono ?_; rintro e w1 ⟨rfl, hb⟩; have HB1 := Lib.hid (HB0.out.trans (hb.mono HB0.out.size)); have BX1 := Lib.hid (BX0.out.below hb); have HV1 := Lib.hid (HV0.out.below hb); clear hb; cases b1; (· simp only [okOr_false]; exact panic_post rfl ⟨rfl, HB1.out⟩); simp only [okOr_true]; obtain ⟨k0, k1, k2, k3, k4, k5⟩ := BX1.out)) | (go_at_call 40; go_must (with_reducible refine (N2.out _ HB1.out).mono ?_; rintro e w2 ⟨rfl, hb⟩; have HB2 := Lib.hid (HB1.out.trans (hb.mono HB1.out.size)); have BX2 := Lib.hid (BX1.out.below hb); have HV2 := Lib.hid (HV1.out.below hb); clear hb; cases b2; (· simp only [okOr_false]; exact panic_post rfl ⟨rfl, HB2.out⟩); simp only [okOr_true]; obtain ⟨k0, k1, k2, k3, k4, k5⟩ := BX2.out)))
  go_ret
  exact ⟨rfl, HB2.out⟩
set_option maxRecDepth 100000 in
set_option maxHeartbeats 4000000 in
theorem statement_18 {tt : ByteArray} {nn aa : Int} {l : List Nd} {p : Option Addr} {c : Nat} {d : Bool} {w : World} (_hk : KidsV w p l) (hlen : l.length ≤ 1000000) (_ht : tt.size ≤ 1000000000) :
    Calls Try.prog 33 #[.agg (lookC (.mk 18 tt nn aa l) p c d)] w fun e w' => e = okB (shapeB d (.mk 18 tt nn aa l)) ∧ Below w.heap.size w w' := by
  rw [shape_18]
  show Calls Try.prog 33 #[.agg #[.int .u8 18, .string tt, .int .i64 nn, .int .i64 aa, .slice p l.length c, .bool d]] w fun e w' => e = okB (((tt.data.toList == [] || nameB tt.data.toList) && nn == 0) && allB [] l) ∧ Below w.heap.size w w'
  generalize hnk2 : l.length = nk at *
  have M1 : ∀ u, Below w.heap.size w u → Calls Try.prog 48 #[.agg #[.int .u8 18, .string tt, .int .i64 nn, .int .i64 aa, .slice p nk c, .bool d]] u fun e w' => e = okOr (((tt.data.toList == [] || nameB tt.data.toList) && nn == 0)) ∧ Below u.heap.size u w' := by
    intro u hu; subst hnk2; exact label_any (x := .mk 18 tt nn aa l) _ht
  have M2 : ∀ u, Below w.heap.size w u → Calls Try.prog 43 #[.agg #[.int .u8 18, .string tt, .int .i64 nn, .int .i64 aa, .slice p nk c, .bool d], .slice none 0 0] u fun e w' => e = okOr (allB [] l) ∧ Below u.heap.size u w' := by
    intro u hu; subst hnk2; exact all_any (x := .mk 18 tt nn aa l) (ps := []) (KidsV.below hu _hk) (Or.inl rfl) hlen (by simp)
  generalize ((tt.data.toList == [] || nameB tt.data.toList) && nn == 0) = b1 at *
  generalize (allB [] l) = b2 at *
  have N1 := Lib.hid M1; clear M1
  have N2 := Lib.hid M2; clear M2
  have HB0 : Hid (Below w.heap.size w (w.alloc (.cells #[.int .u8 18, .string tt, .int .i64 nn, .int .i64 aa, .slice p nk c, .bool d] 42))) := Lib.hid ((Below.refl w.heap.size w).alloc (Nat.le_refl _) _)
  have BX0 : Hid (BoxAt (w.alloc (.cells #[.int .u8 18, .string tt, .int .i64 nn, .int .i64 aa, .slice p nk c, .bool d] 42)) w.heap.size (.int .u8 18) (.string tt) (.int .i64 nn) (.int .i64 aa) (.slice p nk c) (.bool d)) := Lib.hid BoxAt.new
  have NB : Hid (Calls Try.prog 41 #[.slice (some ⟨w.heap.size + 1, 0, none⟩) 1 1] ((w.alloc (.cells #[.int .u8 18, .string tt, .int .i64 nn, .int .i64 aa, .slice p nk c, .bool d] 42)).alloc (.cells #[.int .u8 9] 22)) fun e w' => ∃ v, e = .returned v ∧ IsP w' v (fun k => [9].contains k) ∧ Below (w.alloc (.cells #[.int .u8 18, .string tt, .int .i64 nn, .int .i64 aa, .slice p nk c, .bool d] 42)).heap.size (w.alloc (.cells #[.int .u8 18, .string tt, .int .i64 nn, .int .i64 aa, .slice p nk c, .bool d] 42)) w') := Lib.hid (by rw [show w.heap.size + 1 = (w.alloc (.cells #[.int .u8 18, .string tt, .int .i64 nn, .int .i64 aa, .slice p nk c, .bool d] 42)).heap.size by simp]; exact ofA1 9 _)
  have HNK := Lib.hid hnk2; clear hnk2 _hk _ht hlen
  go_enter Try.func33, Try.ntmps33
  go_wp2_with (first | (go_at_call 41; go_must (with_reducible refine NB.out.mono ?_; rintro e w100 ⟨vb, rfl, hvb, hb⟩; have HV0 := Lib.hid hvb; have HB00 := Lib.hid (HB0.out.trans (hb.mono HB0.out.size)); have BX00 := Lib.hid (BX0.out.below hb); clear hb hvb HB0 BX0; have HB0 := HB00; have BX0 := BX00; clear HB00 BX00; obtain ⟨k0, k1, k2, k3, k4, k5⟩ := BX0.out)) | (go_at_call 48; go_must (with_reducible refine (N1.out _ HB0.out).mono ?_; rintro e w1 ⟨rfl, hb⟩; have HB1 := Lib.hid (HB0.out.trans (hb.mono HB0.out.size)); have BX1 := Lib.hid (BX0.out.below hb); have HV1 := Lib.hid (HV0.out.below hb); clear hb; cases b1; (· simp only [okOr_false]; exact panic_post rfl ⟨rfl, HB1.out⟩); simp only [okOr_true]; obtain ⟨k0, k1, k2, k3, k4, k5⟩ := BX1.out)) | (go_at_call 43; go_must (with_reducible refine (N2.out _ HB1.out).mono ?_; rintro e w2 ⟨rfl, hb⟩; have HB2 := Lib.hid (HB1.out.trans (hb.mono HB1.out.size)); have BX2 := Lib.hid (BX1.out.below hb); have HV2 := Lib.hid (HV1.out.below hb); clear hb; cases b2; (· simp only [okOr_false]; exact panic_post rfl ⟨rfl, HB2.out⟩); simp only [okOr_true]; obtain ⟨k0, k1, k2, k3, k4, k5⟩ := BX2.out)))
  go_ret
  exact ⟨rfl, HB2.out⟩
set_option maxRecDepth 100000 in
set_option maxHeartbeats 4000000 in
theorem statement_19 {tt : ByteArray} {nn aa : Int} {l : List Nd} {p : Option Addr} {c : Nat} {d : Bool} {w : World} (_hk : KidsV w p l) (hlen : l.length ≤ 1000000) (_ht : tt.size ≤ 1000000000) :
    Calls Try.prog 33 #[.agg (lookC (.mk 19 tt nn aa l) p c d)] w fun e w' => e = okB (shapeB d (.mk 19 tt nn aa l)) ∧ Below w.heap.size w w' := by
  rw [shape_19]
  show Calls Try.prog 33 #[.agg #[.int .u8 19, .string tt, .int .i64 nn, .int .i64 aa, .slice p l.length c, .bool d]] w fun e w' => e = okB (((tt.data.toList == [] || nameB tt.data.toList) && nn == 0) && allB [] l) ∧ Below w.heap.size w w'
  generalize hnk2 : l.length = nk at *
  have M1 : ∀ u, Below w.heap.size w u → Calls Try.prog 48 #[.agg #[.int .u8 19, .string tt, .int .i64 nn, .int .i64 aa, .slice p nk c, .bool d]] u fun e w' => e = okOr (((tt.data.toList == [] || nameB tt.data.toList) && nn == 0)) ∧ Below u.heap.size u w' := by
    intro u hu; subst hnk2; exact label_any (x := .mk 19 tt nn aa l) _ht
  have M2 : ∀ u, Below w.heap.size w u → Calls Try.prog 43 #[.agg #[.int .u8 19, .string tt, .int .i64 nn, .int .i64 aa, .slice p nk c, .bool d], .slice none 0 0] u fun e w' => e = okOr (allB [] l) ∧ Below u.heap.size u w' := by
    intro u hu; subst hnk2; exact all_any (x := .mk 19 tt nn aa l) (ps := []) (KidsV.below hu _hk) (Or.inl rfl) hlen (by simp)
  generalize ((tt.data.toList == [] || nameB tt.data.toList) && nn == 0) = b1 at *
  generalize (allB [] l) = b2 at *
  have N1 := Lib.hid M1; clear M1
  have N2 := Lib.hid M2; clear M2
  have HB0 : Hid (Below w.heap.size w (w.alloc (.cells #[.int .u8 19, .string tt, .int .i64 nn, .int .i64 aa, .slice p nk c, .bool d] 42))) := Lib.hid ((Below.refl w.heap.size w).alloc (Nat.le_refl _) _)
  have BX0 : Hid (BoxAt (w.alloc (.cells #[.int .u8 19, .string tt, .int .i64 nn, .int .i64 aa, .slice p nk c, .bool d] 42)) w.heap.size (.int .u8 19) (.string tt) (.int .i64 nn) (.int .i64 aa) (.slice p nk c) (.bool d)) := Lib.hid BoxAt.new
  have NB : Hid (Calls Try.prog 41 #[.slice (some ⟨w.heap.size + 1, 0, none⟩) 1 1] ((w.alloc (.cells #[.int .u8 19, .string tt, .int .i64 nn, .int .i64 aa, .slice p nk c, .bool d] 42)).alloc (.cells #[.int .u8 9] 22)) fun e w' => ∃ v, e = .returned v ∧ IsP w' v (fun k => [9].contains k) ∧ Below (w.alloc (.cells #[.int .u8 19, .string tt, .int .i64 nn, .int .i64 aa, .slice p nk c, .bool d] 42)).heap.size (w.alloc (.cells #[.int .u8 19, .string tt, .int .i64 nn, .int .i64 aa, .slice p nk c, .bool d] 42)) w') := Lib.hid (by rw [show w.heap.size + 1 = (w.alloc (.cells #[.int .u8 19, .string tt, .int .i64 nn, .int .i64 aa, .slice p nk c, .bool d] 42)).heap.size by simp]; exact ofA1 9 _)
  have HNK := Lib.hid hnk2; clear hnk2 _hk _ht hlen
  go_enter Try.func33, Try.ntmps33
  go_wp2_with (first | (go_at_call 41; go_must (with_reducible refine NB.out.mono ?_; rintro e w100 ⟨vb, rfl, hvb, hb⟩; have HV0 := Lib.hid hvb; have HB00 := Lib.hid (HB0.out.trans (hb.mono HB0.out.size)); have BX00 := Lib.hid (BX0.out.below hb); clear hb hvb HB0 BX0; have HB0 := HB00; have BX0 := BX00; clear HB00 BX00; obtain ⟨k0, k1, k2, k3, k4, k5⟩ := BX0.out)) | (go_at_call 48; go_must (with_reducible refine (N1.out _ HB0.out).mono ?_; rintro e w1 ⟨rfl, hb⟩; have HB1 := Lib.hid (HB0.out.trans (hb.mono HB0.out.size)); have BX1 := Lib.hid (BX0.out.below hb); have HV1 := Lib.hid (HV0.out.below hb); clear hb; cases b1; (· simp only [okOr_false]; exact panic_post rfl ⟨rfl, HB1.out⟩); simp only [okOr_true]; obtain ⟨k0, k1, k2, k3, k4, k5⟩ := BX1.out)) | (go_at_call 43; go_must (with_reducible refine (N2.out _ HB1.out).mono ?_; rintro e w2 ⟨rfl, hb⟩; have HB2 := Lib.hid (HB1.out.trans (hb.mono HB1.out.size)); have BX2 := Lib.hid (BX1.out.below hb); have HV2 := Lib.hid (HV1.out.below hb); clear hb; cases b2; (· simp only [okOr_false]; exact panic_post rfl ⟨rfl, HB2.out⟩); simp only [okOr_true]; obtain ⟨k0, k1, k2, k3, k4, k5⟩ := BX2.out)))
  go_ret
  exact ⟨rfl, HB2.out⟩
set_option maxRecDepth 100000 in
set_option maxHeartbeats 4000000 in
theorem statement_20 {tt : ByteArray} {nn aa : Int} {l : List Nd} {p : Option Addr} {c : Nat} {d : Bool} {w : World} (_hk : KidsV w p l) (hlen : l.length ≤ 1000000) (_ht : tt.size ≤ 1000000000) :
    Calls Try.prog 33 #[.agg (lookC (.mk 20 tt nn aa l) p c d)] w fun e w' => e = okB (shapeB d (.mk 20 tt nn aa l)) ∧ Below w.heap.size w w' := by
  rw [shape_20]
  show Calls Try.prog 33 #[.agg #[.int .u8 20, .string tt, .int .i64 nn, .int .i64 aa, .slice p l.length c, .bool d]] w fun e w' => e = okB ((tt.data.toList == [] && nn == 0) && allB [fun k => [28].contains k] l) ∧ Below w.heap.size w w'
  generalize hnk2 : l.length = nk at *
  have M1 : ∀ u, Below w.heap.size w u → Calls Try.prog 42 #[.agg #[.int .u8 20, .string tt, .int .i64 nn, .int .i64 aa, .slice p nk c, .bool d]] u fun e w' => e = okOr ((tt.data.toList == [] && nn == 0)) ∧ Below u.heap.size u w' := by
    intro u hu; subst hnk2; exact bare_any (x := .mk 20 tt nn aa l) u
  have M2 : ∀ (u : World) (g c' : Nat), Below w.heap.size w u → Funs u (some ⟨g, 0, none⟩) [fun k => [28].contains k] → Calls Try.prog 43 #[.agg #[.int .u8 20, .string tt, .int .i64 nn, .int .i64 aa, .slice p nk c, .bool d], .slice (some ⟨g, 0, none⟩) 1 c'] u fun e w' => e = okOr (allB [fun k => [28].contains k] l) ∧ Below u.heap.size u w' := by
    intro u g c' hu hf; subst hnk2; exact all_any (x := .mk 20 tt nn aa l) (ps := [fun k => [28].contains k]) (KidsV.below hu _hk) hf hlen (by simp)
  generalize (tt.data.toList == [] && nn == 0) = b1 at *
  generalize (allB [fun k => [28].contains k] l) = b2 at *
  have N1 := Lib.hid M1; clear M1
  have N2 := Lib.hid M2; clear M2
  have HB0 : Hid (Below w.heap.size w (w.alloc (.cells #[.int .u8 20, .string tt, .int .i64 nn, .int .i64 aa, .slice p nk c, .bool d] 42))) := Lib.hid ((Below.refl w.heap.size w).alloc (Nat.le_refl _) _)
  have BX0 : Hid (BoxAt (w.alloc (.cells #[.int .u8 20, .string tt, .int .i64 nn, .int .i64 aa, .slice p nk c, .bool d] 42)) w.heap.size (.int .u8 20) (.string tt) (.int .i64 nn) (.int .i64 aa) (.slice p nk c) (.bool d)) := Lib.hid BoxAt.new
  have NB : Hid (Calls Try.prog 41 #[.slice (some ⟨w.heap.size + 1, 0, none⟩) 1 1] ((w.alloc (.cells #[.int .u8 20, .string tt, .int .i64 nn, .int .i64 aa, .slice p nk c, .bool d] 42)).alloc (.cells #[.int .u8 9] 22)) fun e w' => ∃ v, e = .returned v ∧ IsP w' v (fun k => [9].contains k) ∧ Below (w.alloc (.cells #[.int .u8 20, .string tt, .int .i64 nn, .int .i64 aa, .slice p nk c, .bool d] 42)).heap.size (w.alloc (.cells #[.int .u8 20, .string tt, .int .i64 nn, .int .i64 aa, .slice p nk c, .bool d] 42)) w') := Lib.hid (by rw [show w.heap.size + 1 = (w.alloc (.cells #[.int .u8 20, .string tt, .int .i64 nn, .int .i64 aa, .slice p nk c, .bool d] 42)).heap.size by simp]; exact ofA1 9 _)
  have HNK := Lib.hid hnk2; clear hnk2 _hk _ht hlen
  go_enter Try.func33, Try.ntmps33
  go_wp2_with (first | (go_at_call 41; go_must (with_reducible refine NB.out.mono ?_; rintro e w100 ⟨vb, rfl, hvb, hb⟩; have HV0 := Lib.hid hvb; have HB00 := Lib.hid (HB0.out.trans (hb.mono HB0.out.size)); have BX00 := Lib.hid (BX0.out.below hb); clear hb hvb HB0 BX0; have HB0 := HB00; have BX0 := BX00; clear HB00 BX00; obtain ⟨k0, k1, k2, k3, k4, k5⟩ := BX0.out)) | (go_at_call 42; go_must (with_reducible refine (N1.out _ HB0.out).mono ?_; rintro e w1 ⟨rfl, hb⟩; have HB1 := Lib.hid (HB0.out.trans (hb.mono HB0.out.size)); have BX1 := Lib.hid (BX0.out.below hb); have HV1 := Lib.hid (HV0.out.below hb); clear hb; cases b1; (· simp only [okOr_false]; exact panic_post rfl ⟨rfl, HB1.out⟩); simp only [okOr_true]; obtain ⟨k0, k1, k2, k3, k4, k5⟩ := BX1.out)))
  clear k0 k1 k2 k3 k4 k5
  refine wp_region_mixI (l1 := [_, _, _, _]) (l2 := [_]) [(0, true), (1, false), (2, false), (3, false)] (fun u => Below w1.heap.size w1 u) (by kernel_rfl) (by kernel_rfl) (by repeat (first | refine loose_then ?_ | refine loose_block ?_ | exact loose_body (P := Try.prog) (fn := Try.f33))) ((Below.refl _ w1).drew) ?_
  refine mixI_take (.agg #[.int .u8 20, .string tt, .int .i64 nn, .int .i64 aa, .slice p nk c, .bool d]) rfl rfl (fun u hu => by obtain ⟨k0, k1, k2, k3, k4, k5⟩ := BX1.out.below hu; go_simp) ?_
  refine mixI_go rfl rfl fun K hK => wp_val (v := .slice (some ⟨w1.heap.size, 0, none⟩) 1 1) (w' := w1.drew.alloc (.cells #[.int .u8 28] 22)) (by go_simp) ?_
  refine hK.out _ _ (((Below.refl _ w1).drew).alloc (Nat.le_refl _) _) ?_
  clear hK
  refine mixI_go rfl rfl fun K hK => wp_go (f := 41) (args := #[.slice (some ⟨w1.heap.size, 0, none⟩) 1 1]) (by go_simp) ((of_any (l := [28]) (by decide) (kinds1 _)).mono ?_)
  rintro e wR ⟨vR, rfl, hvR, hb⟩
  have hbR : Below w1.heap.size w1 wR := (((Below.refl _ w1).drew).alloc (Nat.le_refl _) (.cells #[.int .u8 28] 22)).trans (hb.mono (by simp))
  refine hK.out _ _ hbR ?_
  clear hK hb
  obtain ⟨fR, cR, rfl, hhR⟩ := hvR
  refine mixI_go rfl rfl fun K hK => wp_val (v := .slice (some ⟨wR.heap.size, 0, none⟩) 1 1) (w' := wR.alloc (.cells #[.func (.func fR) #[] cR] 55)) (by go_simp) ?_
  have hbS := hbR.alloc hbR.size (.cells #[.func (.func fR) #[] cR] 55)
  have hfS : Funs (wR.alloc (.cells #[.func (.func fR) #[] cR] 55)) (some ⟨wR.heap.size, 0, none⟩) [fun k => [28].contains k] := Or.inr ⟨_, rfl, fun j b hj => by
    rcases j with _ | j
    · cases hj; exact ⟨_, kernel_cell, IsP.below ⟨fR, cR, rfl, hhR⟩ ((Below.refl _ _).alloc (Nat.le_refl _) _)⟩
    · simp at hj⟩
  refine hK.out _ _ hbS ?_
  clear hK hhR hbR
  show wpList _ _ _ _ _ _
  have HBR := Lib.hid (HB1.out.trans (hbS.mono HB1.out.size))
  have NR := Lib.hid (N2.out _ _ 1 HBR.out hfS)
  clear hbS hfS
  generalize wR.alloc (.cells #[.func (.func fR) #[] cR] 55) = wS at *
  go_wp2_with (go_at_call 43; go_must (with_reducible refine NR.out.mono ?_; rintro e w2 ⟨rfl, hb⟩; have HB2 := Lib.hid (HBR.out.trans (hb.mono HBR.out.size)); clear hb; cases b2; (· simp only [okOr_false]; exact panic_post rfl ⟨rfl, HB2.out⟩); simp only [okOr_true]))
  go_ret
  exact ⟨rfl, HB2.out⟩
set_option maxRecDepth 100000 in
set_option maxHeartbeats 4000000 in
theorem statement_other {k : Nat} {tt : ByteArray} {nn aa : Int} {l : List Nd} {p : Option Addr} {c : Nat} {d : Bool} {w : World} (h : k ≤ 8 ∨ 21 ≤ k) :
    Calls Try.prog 33 #[.agg (lookC (.mk k tt nn aa l) p c d)] w fun e w' => e = .returned (.bool false) ∧ Below w.heap.size w w' := by
  show Calls Try.prog 33 #[.agg #[.int .u8 (k : Int), .string tt, .int .i64 nn, .int .i64 aa, .slice p l.length c, .bool d]] w fun e w' => e = .returned (.bool false) ∧ Below w.heap.size w w'
  generalize l.length = nk
  have HB0 : Hid (Below w.heap.size w (w.alloc (.cells #[.int .u8 (k : Int), .string tt, .int .i64 nn, .int .i64 aa, .slice p nk c, .bool d] 42))) := Lib.hid ((Below.refl w.heap.size w).alloc (Nat.le_refl _) _)
  have BX0 : Hid (BoxAt (w.alloc (.cells #[.int .u8 (k : Int), .string tt, .int .i64 nn, .int .i64 aa, .slice p nk c, .bool d] 42)) w.heap.size (.int .u8 (k : Int)) (.string tt) (.int .i64 nn) (.int .i64 aa) (.slice p nk c) (.bool d)) := Lib.hid BoxAt.new
  have e9 : ((k : Int) == 9) = false := by simp; omega
  have e10 : ((k : Int) == 10) = false := by simp; omega
  have e11 : ((k : Int) == 11) = false := by simp; omega
  have e12 : ((k : Int) == 12) = false := by simp; omega
  have e13 : ((k : Int) == 13) = false := by simp; omega
  have e14 : ((k : Int) == 14) = false := by simp; omega
  have e15 : ((k : Int) == 15) = false := by simp; omega
  have e16 : ((k : Int) == 16) = false := by simp; omega
  have e17 : ((k : Int) == 17) = false := by simp; omega
  have e18 : ((k : Int) == 18) = false := by simp; omega
  have e19 : ((k : Int) == 19) = false := by simp; omega
  have e20 : ((k : Int) == 20) = false := by simp; omega
  have NB : Hid (Calls Try.prog 41 #[.slice (some ⟨w.heap.size + 1, 0, none⟩) 1 1] ((w.alloc (.cells #[.int .u8 (k : Int), .string tt, .int .i64 nn, .int .i64 aa, .slice p nk c, .bool d] 42)).alloc (.cells #[.int .u8 9] 22)) fun e w' => ∃ v, e = .returned v ∧ IsP w' v (fun k => [9].contains k) ∧ Below (w.alloc (.cells #[.int .u8 (k : Int), .string tt, .int .i64 nn, .int .i64 aa, .slice p nk c, .bool d] 42)).heap.size (w.alloc (.cells #[.int .u8 (k : Int), .string tt, .int .i64 nn, .int .i64 aa, .slice p nk c, .bool d] 42)) w') := Lib.hid (by rw [show w.heap.size + 1 = (w.alloc (.cells #[.int .u8 (k : Int), .string tt, .int .i64 nn, .int .i64 aa, .slice p nk c, .bool d] 42)).heap.size by simp]; exact ofA1 9 _)
  clear h
  go_enter Try.func33, Try.ntmps33
  go_wp2_with (go_at_call 41; go_must (with_reducible refine NB.out.mono ?_; rintro e w1 ⟨vb, rfl, hvb, hb⟩; have hb1 := HB0.out.trans (hb.mono HB0.out.size); obtain ⟨k0, k1, k2, k3, k4, k5⟩ := BX0.out.below hb; clear hb hvb HB0 BX0; have HB0 := Lib.hid hb1; clear hb1))
  go_ret
  exact ⟨rfl, HB0.out⟩
end Go.Proofs.Ytkjpdhnibfhaaaa.NodeP
