/- node's looks: statement, the first half. -/
import Derived.Test.YtkjpdhnibfhaaaaNodeN
namespace Go.Proofs.Ytkjpdhnibfhaaaa.NodeO
open Go.RowKit Go.Proofs.Ytkjpdhnibfhaaaa.Nodey Go.Proofs.Ytkjpdhnibfhaaaa.NodeA Go.Proofs.Ytkjpdhnibfhaaaa.NodeB Go.Proofs.Ytkjpdhnibfhaaaa.NodeC Go.Proofs.Ytkjpdhnibfhaaaa.NodeD Go.Proofs.Ytkjpdhnibfhaaaa.NodeE Go.Proofs.Ytkjpdhnibfhaaaa.NodeF Go.Proofs.Ytkjpdhnibfhaaaa.NodeG Go.Proofs.Ytkjpdhnibfhaaaa.NodeH Go.Proofs.Ytkjpdhnibfhaaaa.NodeI Go.Proofs.Ytkjpdhnibfhaaaa.NodeJ Go.Proofs.Ytkjpdhnibfhaaaa.NodeK Go.Proofs.Ytkjpdhnibfhaaaa.NodeL Go.Proofs.Ytkjpdhnibfhaaaa.NodeM Go.Proofs.Ytkjpdhnibfhaaaa.NodeN Go.Proofs.Ytkjpdhnibfhaaaa.Cut

set_option maxRecDepth 100000 in
set_option maxHeartbeats 4000000 in
theorem statement_9 {tt : ByteArray} {nn aa : Int} {l : List Nd} {p : Option Addr} {c : Nat} {d : Bool} {w : World} (_hk : KidsV w p l) (hlen : l.length ≤ 1000000) (_ht : tt.size ≤ 1000000000) :
    Calls Try.prog 33 #[.agg (lookC (.mk 9 tt nn aa l) p c d)] w fun e w' => e = okB (shapeB d (.mk 9 tt nn aa l)) ∧ Below w.heap.size w w' := by
  rw [shape_9]
  show Calls Try.prog 33 #[.agg #[.int .u8 9, .string tt, .int .i64 nn, .int .i64 aa, .slice p l.length c, .bool d]] w fun e w' => e = okB ((tt.data.toList == [] && nn == 0) && areB l statedK 0 l.length) ∧ Below w.heap.size w w'
  generalize hnk2 : l.length = nk at *
  have M1 : ∀ u, Below w.heap.size w u → Calls Try.prog 42 #[.agg #[.int .u8 9, .string tt, .int .i64 nn, .int .i64 aa, .slice p nk c, .bool d]] u fun e w' => e = okOr ((tt.data.toList == [] && nn == 0)) ∧ Below u.heap.size u w' := by
    intro u hu; subst hnk2; exact bare_any (x := .mk 9 tt nn aa l) u
  have M2 : ∀ (u : World), Below w.heap.size w u → Calls Try.prog 40 #[.agg #[.int .u8 9, .string tt, .int .i64 nn, .int .i64 aa, .slice p nk c, .bool d], .int .i64 (0), .int .i64 ((nk : Int)), (.func (.func 45) #[] #[])] u fun e w' => e = okOr (areB l statedK 0 nk) ∧ Below u.heap.size u w' := by
    intro u hu; subst hnk2; exact are_any (x := .mk 9 tt nn aa l) (fr := 0) (to := l.length) (KidsV.below hu _hk) (isP_stated u) (by first | exact Nat.le_refl _ | (show _ ≤ l.length; simp) | (show _ ≤ l.length; omega)) hlen (by omega)
  generalize (tt.data.toList == [] && nn == 0) = b1 at *
  generalize (areB l statedK 0 nk) = b2 at *
  have N1 := Lib.hid M1; clear M1
  have N2 := Lib.hid M2; clear M2
  have HB0 : Hid (Below w.heap.size w (w.alloc (.cells #[.int .u8 9, .string tt, .int .i64 nn, .int .i64 aa, .slice p nk c, .bool d] 42))) := Lib.hid ((Below.refl w.heap.size w).alloc (Nat.le_refl _) _)
  have BX0 : Hid (BoxAt (w.alloc (.cells #[.int .u8 9, .string tt, .int .i64 nn, .int .i64 aa, .slice p nk c, .bool d] 42)) w.heap.size (.int .u8 9) (.string tt) (.int .i64 nn) (.int .i64 aa) (.slice p nk c) (.bool d)) := Lib.hid BoxAt.new
  have NB : Hid (Calls Try.prog 41 #[.slice (some ⟨w.heap.size + 1, 0, none⟩) 1 1] ((w.alloc (.cells #[.int .u8 9, .string tt, .int .i64 nn, .int .i64 aa, .slice p nk c, .bool d] 42)).alloc (.cells #[.int .u8 9] 22)) fun e w' => ∃ v, e = .returned v ∧ IsP w' v (fun k => [9].contains k) ∧ Below (w.alloc (.cells #[.int .u8 9, .string tt, .int .i64 nn, .int .i64 aa, .slice p nk c, .bool d] 42)).heap.size (w.alloc (.cells #[.int .u8 9, .string tt, .int .i64 nn, .int .i64 aa, .slice p nk c, .bool d] 42)) w') := Lib.hid (by rw [show w.heap.size + 1 = (w.alloc (.cells #[.int .u8 9, .string tt, .int .i64 nn, .int .i64 aa, .slice p nk c, .bool d] 42)).heap.size by simp]; exact ofA1 9 _)
  have HNK := Lib.hid hnk2; clear hnk2 _hk _ht hlen
  go_enter Try.func33, Try.ntmps33
  go_wp2_with (first | (go_at_call 41; go_must (with_reducible refine NB.out.mono ?_; rintro e w100 ⟨vb, rfl, hvb, hb⟩; have HV0 := Lib.hid hvb; have HB00 := Lib.hid (HB0.out.trans (hb.mono HB0.out.size)); have BX00 := Lib.hid (BX0.out.below hb); clear hb hvb HB0 BX0; have HB0 := HB00; have BX0 := BX00; clear HB00 BX00; obtain ⟨k0, k1, k2, k3, k4, k5⟩ := BX0.out)) | (go_at_call 42; go_must (with_reducible refine (N1.out _ HB0.out).mono ?_; rintro e w1 ⟨rfl, hb⟩; have HB1 := Lib.hid (HB0.out.trans (hb.mono HB0.out.size)); have BX1 := Lib.hid (BX0.out.below hb); have HV1 := Lib.hid (HV0.out.below hb); clear hb; cases b1; (· simp only [okOr_false]; exact panic_post rfl ⟨rfl, HB1.out⟩); simp only [okOr_true]; obtain ⟨k0, k1, k2, k3, k4, k5⟩ := BX1.out)) | (go_at_call 40; go_must (with_reducible refine (N2.out _ HB1.out).mono ?_; rintro e w2 ⟨rfl, hb⟩; have HB2 := Lib.hid (HB1.out.trans (hb.mono HB1.out.size)); have BX2 := Lib.hid (BX1.out.below hb); have HV2 := Lib.hid (HV1.out.below hb); clear hb; cases b2; (· simp only [okOr_false]; exact panic_post rfl ⟨rfl, HB2.out⟩); simp only [okOr_true]; obtain ⟨k0, k1, k2, k3, k4, k5⟩ := BX2.out)))
  go_ret
  exact ⟨rfl, HB2.out⟩
set_option maxRecDepth 100000 in
set_option maxHeartbeats 4000000 in
theorem statement_10a {tt : ByteArray} {nn aa : Int} {y0 : Nd} {p : Option Addr} {c : Nat} {d : Bool} {w : World} (_hk : KidsV w p [y0]) (_ht : tt.size ≤ 1000000000) :
    Calls Try.prog 33 #[.agg (lookC (.mk 10 tt nn aa [y0]) p c d)] w fun e w' => e = okB (shapeB d (.mk 10 tt nn aa [y0])) ∧ Below w.heap.size w w' := by
  rw [shape_10 (Or.inl rfl)]
  show Calls Try.prog 33 #[.agg #[.int .u8 10, .string tt, .int .i64 nn, .int .i64 aa, .slice p 1 c, .bool d]] w fun e w' => e = okB ((nameB tt.data.toList && nn == 0) && (areB [y0] typedK 0 1 && areB [y0] saidK 1 1)) ∧ Below w.heap.size w w'
  have hlen : ([y0] : List Nd).length ≤ 1000000 := by simp
  have M1 : ∀ u, Below w.heap.size w u → Calls Try.prog 39 #[.agg #[.int .u8 10, .string tt, .int .i64 nn, .int .i64 aa, .slice p 1 c, .bool d]] u fun e w' => e = okOr ((nameB tt.data.toList && nn == 0)) ∧ Below u.heap.size u w' := by
    intro u hu; exact names_any (x := .mk 10 tt nn aa [y0]) _ht
  have M2 : ∀ u, Below w.heap.size w u → Calls Try.prog 22 #[.slice (some ⟨u.heap.size, 0, none⟩) 1 1] (u.alloc (.cells #[.bool true] 4)) fun e w' => e = okOr (true) ∧ Below u.heap.size u w' := fun u _ => mustA1 true u
  have M3 : ∀ (u : World), Below w.heap.size w u → Calls Try.prog 40 #[.agg #[.int .u8 10, .string tt, .int .i64 nn, .int .i64 aa, .slice p 1 c, .bool d], .int .i64 (0), .int .i64 (1), (.func (.func 44) #[] #[])] u fun e w' => e = okOr (areB [y0] typedK 0 1) ∧ Below u.heap.size u w' := by
    intro u hu; exact are_any (x := .mk 10 tt nn aa [y0]) (fr := 0) (to := 1) (KidsV.below hu _hk) (isP_typed u) (by first | exact Nat.le_refl _ | (show _ ≤ [y0].length; simp) | (show _ ≤ [y0].length; omega)) hlen (by omega)
  have M4 : ∀ (u : World), Below w.heap.size w u → Calls Try.prog 40 #[.agg #[.int .u8 10, .string tt, .int .i64 nn, .int .i64 aa, .slice p 1 c, .bool d], .int .i64 (1), .int .i64 (1), (.func (.func 46) #[] #[])] u fun e w' => e = okOr (areB [y0] saidK 1 1) ∧ Below u.heap.size u w' := by
    intro u hu; exact are_any (x := .mk 10 tt nn aa [y0]) (fr := 1) (to := 1) (KidsV.below hu _hk) (isP_said u) (by first | exact Nat.le_refl _ | (show _ ≤ [y0].length; simp) | (show _ ≤ [y0].length; omega)) hlen (by omega)
  generalize (nameB tt.data.toList && nn == 0) = b1 at *
  generalize (areB [y0] typedK 0 1) = b3 at *
  generalize (areB [y0] saidK 1 1) = b4 at *
  have N1 := Lib.hid M1; clear M1
  have N2 := Lib.hid M2; clear M2
  have N3 := Lib.hid M3; clear M3
  have N4 := Lib.hid M4; clear M4
  have HB0 : Hid (Below w.heap.size w (w.alloc (.cells #[.int .u8 10, .string tt, .int .i64 nn, .int .i64 aa, .slice p 1 c, .bool d] 42))) := Lib.hid ((Below.refl w.heap.size w).alloc (Nat.le_refl _) _)
  have BX0 : Hid (BoxAt (w.alloc (.cells #[.int .u8 10, .string tt, .int .i64 nn, .int .i64 aa, .slice p 1 c, .bool d] 42)) w.heap.size (.int .u8 10) (.string tt) (.int .i64 nn) (.int .i64 aa) (.slice p 1 c) (.bool d)) := Lib.hid BoxAt.new
  have NB : Hid (Calls Try.prog 41 #[.slice (some ⟨w.heap.size + 1, 0, none⟩) 1 1] ((w.alloc (.cells #[.int .u8 10, .string tt, .int .i64 nn, .int .i64 aa, .slice p 1 c, .bool d] 42)).alloc (.cells #[.int .u8 9] 22)) fun e w' => ∃ v, e = .returned v ∧ IsP w' v (fun k => [9].contains k) ∧ Below (w.alloc (.cells #[.int .u8 10, .string tt, .int .i64 nn, .int .i64 aa, .slice p 1 c, .bool d] 42)).heap.size (w.alloc (.cells #[.int .u8 10, .string tt, .int .i64 nn, .int .i64 aa, .slice p 1 c, .bool d] 42)) w') := Lib.hid (by rw [show w.heap.size + 1 = (w.alloc (.cells #[.int .u8 10, .string tt, .int .i64 nn, .int .i64 aa, .slice p 1 c, .bool d] 42)).heap.size by simp]; exact ofA1 9 _)
  clear _hk _ht hlen
  go_enter Try.func33, Try.ntmps33
  go_wp2_with (first | (go_at_call 41; go_must (with_reducible refine NB.out.mono ?_; rintro e w100 ⟨vb, rfl, hvb, hb⟩; have HV0 := Lib.hid hvb; have HB00 := Lib.hid (HB0.out.trans (hb.mono HB0.out.size)); have BX00 := Lib.hid (BX0.out.below hb); clear hb hvb HB0 BX0; have HB0 := HB00; have BX0 := BX00; clear HB00 BX00; obtain ⟨k0, k1, k2, k3, k4, k5⟩ := BX0.out)) | (go_at_call 39; go_must (with_reducible refine (N1.out _ HB0.out).mono ?_; rintro e w1 ⟨rfl, hb⟩; have HB1 := Lib.hid (HB0.out.trans (hb.mono HB0.out.size)); have BX1 := Lib.hid (BX0.out.below hb); have HV1 := Lib.hid (HV0.out.below hb); clear hb; cases b1; (· simp only [okOr_false]; exact panic_post rfl ⟨rfl, HB1.out⟩); simp only [okOr_true]; obtain ⟨k0, k1, k2, k3, k4, k5⟩ := BX1.out)) | (go_at_call 22; go_must (with_reducible refine (N2.out _ HB1.out).mono ?_; rintro e w2 ⟨rfl, hb⟩; have HB2 := Lib.hid (HB1.out.trans (hb.mono HB1.out.size)); have BX2 := Lib.hid (BX1.out.below hb); have HV2 := Lib.hid (HV1.out.below hb); clear hb; simp only [okOr_true]; obtain ⟨k0, k1, k2, k3, k4, k5⟩ := BX2.out)) | (go_at_call 40; first | (with_reducible refine (N3.out _ HB2.out).mono ?_; rintro e w3 ⟨rfl, hb⟩; have HB3 := Lib.hid (HB2.out.trans (hb.mono HB2.out.size)); have BX3 := Lib.hid (BX2.out.below hb); have HV3 := Lib.hid (HV2.out.below hb); clear hb; cases b3; (· simp only [okOr_false]; exact panic_post rfl ⟨rfl, HB3.out⟩); simp only [okOr_true]; obtain ⟨k0, k1, k2, k3, k4, k5⟩ := BX3.out) | (with_reducible refine (N4.out _ HB3.out).mono ?_; rintro e w4 ⟨rfl, hb⟩; have HB4 := Lib.hid (HB3.out.trans (hb.mono HB3.out.size)); have BX4 := Lib.hid (BX3.out.below hb); have HV4 := Lib.hid (HV3.out.below hb); clear hb; cases b4; (· simp only [okOr_false]; exact panic_post rfl ⟨rfl, HB4.out⟩); simp only [okOr_true]; obtain ⟨k0, k1, k2, k3, k4, k5⟩ := BX4.out)))
  go_ret
  exact ⟨rfl, HB4.out⟩
set_option maxRecDepth 100000 in
set_option maxHeartbeats 4000000 in
theorem statement_10b {tt : ByteArray} {nn aa : Int} {y0 y1 : Nd} {p : Option Addr} {c : Nat} {d : Bool} {w : World} (_hk : KidsV w p [y0, y1]) (_ht : tt.size ≤ 1000000000) :
    Calls Try.prog 33 #[.agg (lookC (.mk 10 tt nn aa [y0, y1]) p c d)] w fun e w' => e = okB (shapeB d (.mk 10 tt nn aa [y0, y1])) ∧ Below w.heap.size w w' := by
  rw [shape_10 (Or.inr rfl)]
  show Calls Try.prog 33 #[.agg #[.int .u8 10, .string tt, .int .i64 nn, .int .i64 aa, .slice p 2 c, .bool d]] w fun e w' => e = okB ((nameB tt.data.toList && nn == 0) && (areB [y0, y1] typedK 0 1 && areB [y0, y1] saidK 1 2)) ∧ Below w.heap.size w w'
  have hlen : ([y0, y1] : List Nd).length ≤ 1000000 := by simp
  have M1 : ∀ u, Below w.heap.size w u → Calls Try.prog 39 #[.agg #[.int .u8 10, .string tt, .int .i64 nn, .int .i64 aa, .slice p 2 c, .bool d]] u fun e w' => e = okOr ((nameB tt.data.toList && nn == 0)) ∧ Below u.heap.size u w' := by
    intro u hu; exact names_any (x := .mk 10 tt nn aa [y0, y1]) _ht
  have M2 : ∀ u, Below w.heap.size w u → Calls Try.prog 22 #[.slice (some ⟨u.heap.size, 0, none⟩) 1 1] (u.alloc (.cells #[.bool true] 4)) fun e w' => e = okOr (true) ∧ Below u.heap.size u w' := fun u _ => mustA1 true u
  have M3 : ∀ (u : World), Below w.heap.size w u → Calls Try.prog 40 #[.agg #[.int .u8 10, .string tt, .int .i64 nn, .int .i64 aa, .slice p 2 c, .bool d], .int .i64 (0), .int .i64 (1), (.func (.func 44) #[] #[])] u fun e w' => e = okOr (areB [y0, y1] typedK 0 1) ∧ Below u.heap.size u w' := by
    intro u hu; exact are_any (x := .mk 10 tt nn aa [y0, y1]) (fr := 0) (to := 1) (KidsV.below hu _hk) (isP_typed u) (by first | exact Nat.le_refl _ | (show _ ≤ [y0, y1].length; simp) | (show _ ≤ [y0, y1].length; omega)) hlen (by omega)
  have M4 : ∀ (u : World), Below w.heap.size w u → Calls Try.prog 40 #[.agg #[.int .u8 10, .string tt, .int .i64 nn, .int .i64 aa, .slice p 2 c, .bool d], .int .i64 (1), .int .i64 (2), (.func (.func 46) #[] #[])] u fun e w' => e = okOr (areB [y0, y1] saidK 1 2) ∧ Below u.heap.size u w' := by
    intro u hu; exact are_any (x := .mk 10 tt nn aa [y0, y1]) (fr := 1) (to := 2) (KidsV.below hu _hk) (isP_said u) (by first | exact Nat.le_refl _ | (show _ ≤ [y0, y1].length; simp) | (show _ ≤ [y0, y1].length; omega)) hlen (by omega)
  generalize (nameB tt.data.toList && nn == 0) = b1 at *
  generalize (areB [y0, y1] typedK 0 1) = b3 at *
  generalize (areB [y0, y1] saidK 1 2) = b4 at *
  have N1 := Lib.hid M1; clear M1
  have N2 := Lib.hid M2; clear M2
  have N3 := Lib.hid M3; clear M3
  have N4 := Lib.hid M4; clear M4
  have HB0 : Hid (Below w.heap.size w (w.alloc (.cells #[.int .u8 10, .string tt, .int .i64 nn, .int .i64 aa, .slice p 2 c, .bool d] 42))) := Lib.hid ((Below.refl w.heap.size w).alloc (Nat.le_refl _) _)
  have BX0 : Hid (BoxAt (w.alloc (.cells #[.int .u8 10, .string tt, .int .i64 nn, .int .i64 aa, .slice p 2 c, .bool d] 42)) w.heap.size (.int .u8 10) (.string tt) (.int .i64 nn) (.int .i64 aa) (.slice p 2 c) (.bool d)) := Lib.hid BoxAt.new
  have NB : Hid (Calls Try.prog 41 #[.slice (some ⟨w.heap.size + 1, 0, none⟩) 1 1] ((w.alloc (.cells #[.int .u8 10, .string tt, .int .i64 nn, .int .i64 aa, .slice p 2 c, .bool d] 42)).alloc (.cells #[.int .u8 9] 22)) fun e w' => ∃ v, e = .returned v ∧ IsP w' v (fun k => [9].contains k) ∧ Below (w.alloc (.cells #[.int .u8 10, .string tt, .int .i64 nn, .int .i64 aa, .slice p 2 c, .bool d] 42)).heap.size (w.alloc (.cells #[.int .u8 10, .string tt, .int .i64 nn, .int .i64 aa, .slice p 2 c, .bool d] 42)) w') := Lib.hid (by rw [show w.heap.size + 1 = (w.alloc (.cells #[.int .u8 10, .string tt, .int .i64 nn, .int .i64 aa, .slice p 2 c, .bool d] 42)).heap.size by simp]; exact ofA1 9 _)
  clear _hk _ht hlen
  go_enter Try.func33, Try.ntmps33
  go_wp2_with (first | (go_at_call 41; go_must (with_reducible refine NB.out.mono ?_; rintro e w100 ⟨vb, rfl, hvb, hb⟩; have HV0 := Lib.hid hvb; have HB00 := Lib.hid (HB0.out.trans (hb.mono HB0.out.size)); have BX00 := Lib.hid (BX0.out.below hb); clear hb hvb HB0 BX0; have HB0 := HB00; have BX0 := BX00; clear HB00 BX00; obtain ⟨k0, k1, k2, k3, k4, k5⟩ := BX0.out)) | (go_at_call 39; go_must (with_reducible refine (N1.out _ HB0.out).mono ?_; rintro e w1 ⟨rfl, hb⟩; have HB1 := Lib.hid (HB0.out.trans (hb.mono HB0.out.size)); have BX1 := Lib.hid (BX0.out.below hb); have HV1 := Lib.hid (HV0.out.below hb); clear hb; cases b1; (· simp only [okOr_false]; exact panic_post rfl ⟨rfl, HB1.out⟩); simp only [okOr_true]; obtain ⟨k0, k1, k2, k3, k4, k5⟩ := BX1.out)) | (go_at_call 22; go_must (with_reducible refine (N2.out _ HB1.out).mono ?_; rintro e w2 ⟨rfl, hb⟩; have HB2 := Lib.hid (HB1.out.trans (hb.mono HB1.out.size)); have BX2 := Lib.hid (BX1.out.below hb); have HV2 := Lib.hid (HV1.out.below hb); clear hb; simp only [okOr_true]; obtain ⟨k0, k1, k2, k3, k4, k5⟩ := BX2.out)) | (go_at_call 40; first | (with_reducible refine (N3.out _ HB2.out).mono ?_; rintro e w3 ⟨rfl, hb⟩; have HB3 := Lib.hid (HB2.out.trans (hb.mono HB2.out.size)); have BX3 := Lib.hid (BX2.out.below hb); have HV3 := Lib.hid (HV2.out.below hb); clear hb; cases b3; (· simp only [okOr_false]; exact panic_post rfl ⟨rfl, HB3.out⟩); simp only [okOr_true]; obtain ⟨k0, k1, k2, k3, k4, k5⟩ := BX3.out) | (with_reducible refine (N4.out _ HB3.out).mono ?_; rintro e w4 ⟨rfl, hb⟩; have HB4 := Lib.hid (HB3.out.trans (hb.mono HB3.out.size)); have BX4 := Lib.hid (BX3.out.below hb); have HV4 := Lib.hid (HV3.out.below hb); clear hb; cases b4; (· simp only [okOr_false]; exact panic_post rfl ⟨rfl, HB4.out⟩); simp only [okOr_true]; obtain ⟨k0, k1, k2, k3, k4, k5⟩ := BX4.out)))
  go_ret
  exact ⟨rfl, HB4.out⟩
set_option maxRecDepth 100000 in
set_option maxHeartbeats 4000000 in
theorem statement_10n {tt : ByteArray} {nn aa : Int} {l : List Nd} {p : Option Addr} {c : Nat} {d : Bool} {w : World} (_hk : KidsV w p l) (hlen : l.length ≤ 1000000) (_ht : tt.size ≤ 1000000000) (h1 : l.length ≠ 1) (h2 : l.length ≠ 2) :
    Calls Try.prog 33 #[.agg (lookC (.mk 10 tt nn aa l) p c d)] w fun e w' => e = okB (shapeB d (.mk 10 tt nn aa l)) ∧ Below w.heap.size w w' := by
  rw [shape_10n h1 h2]
  show Calls Try.prog 33 #[.agg #[.int .u8 10, .string tt, .int .i64 nn, .int .i64 aa, .slice p l.length c, .bool d]] w fun e w' => e = okB ((nameB tt.data.toList && nn == 0) && false) ∧ Below w.heap.size w w'
  generalize hnk2 : l.length = nk at *
  have e1 : ((nk : Int) == 1) = false := by simp; omega
  have e2 : ((nk : Int) == 2) = false := by simp; omega
  have M1 : ∀ u, Below w.heap.size w u → Calls Try.prog 39 #[.agg #[.int .u8 10, .string tt, .int .i64 nn, .int .i64 aa, .slice p nk c, .bool d]] u fun e w' => e = okOr ((nameB tt.data.toList && nn == 0)) ∧ Below u.heap.size u w' := by
    intro u hu; subst hnk2; exact names_any (x := .mk 10 tt nn aa l) _ht
  have M2 : ∀ u, Below w.heap.size w u → Calls Try.prog 22 #[.slice (some ⟨u.heap.size, 0, none⟩) 1 1] (u.alloc (.cells #[.bool false] 4)) fun e w' => e = okOr (false) ∧ Below u.heap.size u w' := fun u _ => mustA1 false u
  generalize (nameB tt.data.toList && nn == 0) = b1 at *
  have N1 := Lib.hid M1; clear M1
  have N2 := Lib.hid M2; clear M2
  have HB0 : Hid (Below w.heap.size w (w.alloc (.cells #[.int .u8 10, .string tt, .int .i64 nn, .int .i64 aa, .slice p nk c, .bool d] 42))) := Lib.hid ((Below.refl w.heap.size w).alloc (Nat.le_refl _) _)
  have BX0 : Hid (BoxAt (w.alloc (.cells #[.int .u8 10, .string tt, .int .i64 nn, .int .i64 aa, .slice p nk c, .bool d] 42)) w.heap.size (.int .u8 10) (.string tt) (.int .i64 nn) (.int .i64 aa) (.slice p nk c) (.bool d)) := Lib.hid BoxAt.new
  have NB : Hid (Calls Try.prog 41 #[.slice (some ⟨w.heap.size + 1, 0, none⟩) 1 1] ((w.alloc (.cells #[.int .u8 10, .string tt, .int .i64 nn, .int .i64 aa, .slice p nk c, .bool d] 42)).alloc (.cells #[.int .u8 9] 22)) fun e w' => ∃ v, e = .returned v ∧ IsP w' v (fun k => [9].contains k) ∧ Below (w.alloc (.cells #[.int .u8 10, .string tt, .int .i64 nn, .int .i64 aa, .slice p nk c, .bool d] 42)).heap.size (w.alloc (.cells #[.int .u8 10, .string tt, .int .i64 nn, .int .i64 aa, .slice p nk c, .bool d] 42)) w') := Lib.hid (by rw [show w.heap.size + 1 = (w.alloc (.cells #[.int .u8 10, .string tt, .int .i64 nn, .int .i64 aa, .slice p nk c, .bool d] 42)).heap.size by simp]; exact ofA1 9 _)
  have HNK := Lib.hid hnk2; clear hnk2 _hk _ht hlen
  go_enter Try.func33, Try.ntmps33
  go_wp2_with (first | (go_at_call 41; go_must (with_reducible refine NB.out.mono ?_; rintro e w100 ⟨vb, rfl, hvb, hb⟩; have HV0 := Lib.hid hvb; have HB00 := Lib.hid (HB0.out.trans (hb.mono HB0.out.size)); have BX00 := Lib.hid (BX0.out.below hb); clear hb hvb HB0 BX0; have HB0 := HB00; have BX0 := BX00; clear HB00 BX00; obtain ⟨k0, k1, k2, k3, k4, k5⟩ := BX0.out)) | (go_at_call 39; go_must (with_reducible refine (N1.out _ HB0.out).mono ?_; rintro e w1 ⟨rfl, hb⟩; have HB1 := Lib.hid (HB0.out.trans (hb.mono HB0.out.size)); have BX1 := Lib.hid (BX0.out.below hb); have HV1 := Lib.hid (HV0.out.below hb); clear hb; cases b1; (· simp only [okOr_false]; exact panic_post rfl ⟨rfl, HB1.out⟩); simp only [okOr_true]; obtain ⟨k0, k1, k2, k3, k4, k5⟩ := BX1.out)) | (go_at_call 22; go_must (with_reducible refine (N2.out _ HB1.out).mono ?_; rintro e w2 ⟨rfl, hb⟩; have HB2 := Lib.hid (HB1.out.trans (hb.mono HB1.out.size)); clear hb; simp only [okOr_false]; exact panic_post rfl ⟨rfl, HB2.out⟩)))
set_option maxRecDepth 100000 in
set_option maxHeartbeats 4000000 in
theorem statement_11 {tt : ByteArray} {nn aa : Int} {l : List Nd} {p : Option Addr} {c : Nat} {d : Bool} {w : World} (_hk : KidsV w p l) (hlen : l.length ≤ 1000000) (_ht : tt.size ≤ 1000000000) (hc : l.length ≤ c) :
    Calls Try.prog 33 #[.agg (lookC (.mk 11 tt nn aa l) p c d)] w fun e w' => e = okB (shapeB d (.mk 11 tt nn aa l)) ∧ Below w.heap.size w w' := by
  rw [shape_11]
  show Calls Try.prog 33 #[.agg #[.int .u8 11, .string tt, .int .i64 nn, .int .i64 aa, .slice p l.length c, .bool d]] w fun e w' => e = okB (sidesB (.mk 11 tt nn aa l)) ∧ Below w.heap.size w w'
  generalize hnk2 : l.length = nk at *
  have M1 : ∀ u, Below w.heap.size w u → Calls Try.prog 47 #[.agg #[.int .u8 11, .string tt, .int .i64 nn, .int .i64 aa, .slice p nk c, .bool d]] u fun e w' => e = okOr (sidesB (.mk 11 tt nn aa l)) ∧ Below u.heap.size u w' := by
    intro u hu; subst hnk2; exact sides_any (by decide) (KidsV.below hu _hk) hlen _ht hc
  generalize (sidesB (.mk 11 tt nn aa l)) = b1 at *
  have N1 := Lib.hid M1; clear M1
  have HB0 : Hid (Below w.heap.size w (w.alloc (.cells #[.int .u8 11, .string tt, .int .i64 nn, .int .i64 aa, .slice p nk c, .bool d] 42))) := Lib.hid ((Below.refl w.heap.size w).alloc (Nat.le_refl _) _)
  have BX0 : Hid (BoxAt (w.alloc (.cells #[.int .u8 11, .string tt, .int .i64 nn, .int .i64 aa, .slice p nk c, .bool d] 42)) w.heap.size (.int .u8 11) (.string tt) (.int .i64 nn) (.int .i64 aa) (.slice p nk c) (.bool d)) := Lib.hid BoxAt.new
  have NB : Hid (Calls Try.prog 41 #[.slice (some ⟨w.heap.size + 1, 0, none⟩) 1 1] ((w.alloc (.cells #[.int .u8 11, .string tt, .int .i64 nn, .int .i64 aa, .slice p nk c, .bool d] 42)).alloc (.cells #[.int .u8 9] 22)) fun e w' => ∃ v, e = .returned v ∧ IsP w' v (fun k => [9].contains k) ∧ Below (w.alloc (.cells #[.int .u8 11, .string tt, .int .i64 nn, .int .i64 aa, .slice p nk c, .bool d] 42)).heap.size (w.alloc (.cells #[.int .u8 11, .string tt, .int .i64 nn, .int .i64 aa, .slice p nk c, .bool d] 42)) w') := Lib.hid (by rw [show w.heap.size + 1 = (w.alloc (.cells #[.int .u8 11, .string tt, .int .i64 nn, .int .i64 aa, .slice p nk c, .bool d] 42)).heap.size by simp]; exact ofA1 9 _)
  have HNK := Lib.hid hnk2; clear hnk2 _hk _ht hlen
  go_enter Try.func33, Try.ntmps33
  go_wp2_with (first | (go_at_call 41; go_must (with_reducible refine NB.out.mono ?_; rintro e w100 ⟨vb, rfl, hvb, hb⟩; have HV0 := Lib.hid hvb; have HB00 := Lib.hid (HB0.out.trans (hb.mono HB0.out.size)); have BX00 := Lib.hid (BX0.out.below hb); clear hb hvb HB0 BX0; have HB0 := HB00; have BX0 := BX00; clear HB00 BX00; obtain ⟨k0, k1, k2, k3, k4, k5⟩ := BX0.out)) | (go_at_call 47; go_must (with_reducible refine (N1.out _ HB0.out).mono ?_; rintro e w1 ⟨rfl, hb⟩; have HB1 := Lib.hid (HB0.out.trans (hb.mono HB0.out.size)); have BX1 := Lib.hid (BX0.out.below hb); have HV1 := Lib.hid (HV0.out.below hb); clear hb; cases b1; (· simp only [okOr_false]; exact panic_post rfl ⟨rfl, HB1.out⟩); simp only [okOr_true]; obtain ⟨k0, k1, k2, k3, k4, k5⟩ := BX1.out)))
  go_ret
  exact ⟨rfl, HB1.out⟩
set_option maxRecDepth 100000 in
set_option maxHeartbeats 4000000 in
theorem statement_12 {tt : ByteArray} {nn aa : Int} {l : List Nd} {p : Option Addr} {c : Nat} {d : Bool} {w : World} (_hk : KidsV w p l) (hlen : l.length ≤ 1000000) (_ht : tt.size ≤ 1000000000) (hc : l.length ≤ c) :
    Calls Try.prog 33 #[.agg (lookC (.mk 12 tt nn aa l) p c d)] w fun e w' => e = okB (shapeB d (.mk 12 tt nn aa l)) ∧ Below w.heap.size w w' := by
  rw [shape_12]
  show Calls Try.prog 33 #[.agg #[.int .u8 12, .string tt, .int .i64 nn, .int .i64 aa, .slice p l.length c, .bool d]] w fun e w' => e = okB (sidesB (.mk 12 tt nn aa l)) ∧ Below w.heap.size w w'
  generalize hnk2 : l.length = nk at *
  have M1 : ∀ u, Below w.heap.size w u → Calls Try.prog 47 #[.agg #[.int .u8 12, .string tt, .int .i64 nn, .int .i64 aa, .slice p nk c, .bool d]] u fun e w' => e = okOr (sidesB (.mk 12 tt nn aa l)) ∧ Below u.heap.size u w' := by
    intro u hu; subst hnk2; exact sides_any (by decide) (KidsV.below hu _hk) hlen _ht hc
  generalize (sidesB (.mk 12 tt nn aa l)) = b1 at *
  have N1 := Lib.hid M1; clear M1
  have HB0 : Hid (Below w.heap.size w (w.alloc (.cells #[.int .u8 12, .string tt, .int .i64 nn, .int .i64 aa, .slice p nk c, .bool d] 42))) := Lib.hid ((Below.refl w.heap.size w).alloc (Nat.le_refl _) _)
  have BX0 : Hid (BoxAt (w.alloc (.cells #[.int .u8 12, .string tt, .int .i64 nn, .int .i64 aa, .slice p nk c, .bool d] 42)) w.heap.size (.int .u8 12) (.string tt) (.int .i64 nn) (.int .i64 aa) (.slice p nk c) (.bool d)) := Lib.hid BoxAt.new
  have NB : Hid (Calls Try.prog 41 #[.slice (some ⟨w.heap.size + 1, 0, none⟩) 1 1] ((w.alloc (.cells #[.int .u8 12, .string tt, .int .i64 nn, .int .i64 aa, .slice p nk c, .bool d] 42)).alloc (.cells #[.int .u8 9] 22)) fun e w' => ∃ v, e = .returned v ∧ IsP w' v (fun k => [9].contains k) ∧ Below (w.alloc (.cells #[.int .u8 12, .string tt, .int .i64 nn, .int .i64 aa, .slice p nk c, .bool d] 42)).heap.size (w.alloc (.cells #[.int .u8 12, .string tt, .int .i64 nn, .int .i64 aa, .slice p nk c, .bool d] 42)) w') := Lib.hid (by rw [show w.heap.size + 1 = (w.alloc (.cells #[.int .u8 12, .string tt, .int .i64 nn, .int .i64 aa, .slice p nk c, .bool d] 42)).heap.size by simp]; exact ofA1 9 _)
  have HNK := Lib.hid hnk2; clear hnk2 _hk _ht hlen
  go_enter Try.func33, Try.ntmps33
  go_wp2_with (first | (go_at_call 41; go_must (with_reducible refine NB.out.mono ?_; rintro e w100 ⟨vb, rfl, hvb, hb⟩; have HV0 := Lib.hid hvb; have HB00 := Lib.hid (HB0.out.trans (hb.mono HB0.out.size)); have BX00 := Lib.hid (BX0.out.below hb); clear hb hvb HB0 BX0; have HB0 := HB00; have BX0 := BX00; clear HB00 BX00; obtain ⟨k0, k1, k2, k3, k4, k5⟩ := BX0.out)) | (go_at_call 47; go_must (with_reducible refine (N1.out _ HB0.out).mono ?_; rintro e w1 ⟨rfl, hb⟩; have HB1 := Lib.hid (HB0.out.trans (hb.mono HB0.out.size)); have BX1 := Lib.hid (BX0.out.below hb); have HV1 := Lib.hid (HV0.out.below hb); clear hb; cases b1; (· simp only [okOr_false]; exact panic_post rfl ⟨rfl, HB1.out⟩); simp only [okOr_true]; obtain ⟨k0, k1, k2, k3, k4, k5⟩ := BX1.out)))
  go_ret
  exact ⟨rfl, HB1.out⟩
set_option maxRecDepth 100000 in
set_option maxHeartbeats 4000000 in
theorem statement_13a {tt : ByteArray} {nn aa : Int} {y0 y1 : Nd} {p : Option Addr} {c : Nat} {d : Bool} {w : World} (_hk : KidsV w p [y0, y1]) (_ht : tt.size ≤ 1000000000) :
    Calls Try.prog 33 #[.agg (lookC (.mk 13 tt nn aa [y0, y1]) p c d)] w fun e w' => e = okB (shapeB d (.mk 13 tt nn aa [y0, y1])) ∧ Below w.heap.size w w' := by
  rw [shape_13 (Or.inl rfl)]
  show Calls Try.prog 33 #[.agg #[.int .u8 13, .string tt, .int .i64 nn, .int .i64 aa, .slice p 2 c, .bool d]] w fun e w' => e = okB ((tt.data.toList == [] && nn == 0) && (areB [y0, y1] saidK 0 1 && (areB [y0, y1] (fun k => [9].contains k) 1 2 && areB [y0, y1] (fun k => [9, 13].contains k) 2 2))) ∧ Below w.heap.size w w'
  have hlen : ([y0, y1] : List Nd).length ≤ 1000000 := by simp
  have M1 : ∀ u, Below w.heap.size w u → Calls Try.prog 42 #[.agg #[.int .u8 13, .string tt, .int .i64 nn, .int .i64 aa, .slice p 2 c, .bool d]] u fun e w' => e = okOr ((tt.data.toList == [] && nn == 0)) ∧ Below u.heap.size u w' := by
    intro u hu; exact bare_any (x := .mk 13 tt nn aa [y0, y1]) u
  have M2 : ∀ u, Below w.heap.size w u → Calls Try.prog 22 #[.slice (some ⟨u.heap.size, 0, none⟩) 1 1] (u.alloc (.cells #[.bool true] 4)) fun e w' => e = okOr (true) ∧ Below u.heap.size u w' := fun u _ => mustA1 true u
  have M3 : ∀ (u : World), Below w.heap.size w u → Calls Try.prog 40 #[.agg #[.int .u8 13, .string tt, .int .i64 nn, .int .i64 aa, .slice p 2 c, .bool d], .int .i64 (0), .int .i64 (1), (.func (.func 46) #[] #[])] u fun e w' => e = okOr (areB [y0, y1] saidK 0 1) ∧ Below u.heap.size u w' := by
    intro u hu; exact are_any (x := .mk 13 tt nn aa [y0, y1]) (fr := 0) (to := 1) (KidsV.below hu _hk) (isP_said u) (by first | exact Nat.le_refl _ | (show _ ≤ [y0, y1].length; simp) | (show _ ≤ [y0, y1].length; omega)) hlen (by omega)
  have M4 : ∀ (u : World) (v : Value), Below w.heap.size w u → IsP u v (fun k => [9].contains k) → Calls Try.prog 40 #[.agg #[.int .u8 13, .string tt, .int .i64 nn, .int .i64 aa, .slice p 2 c, .bool d], .int .i64 (1), .int .i64 (2), v] u fun e w' => e = okOr (areB [y0, y1] (fun k => [9].contains k) 1 2) ∧ Below u.heap.size u w' := by
    intro u v hu hv; exact are_any (x := .mk 13 tt nn aa [y0, y1]) (fr := 1) (to := 2) (KidsV.below hu _hk) hv (by first | exact Nat.le_refl _ | (show _ ≤ [y0, y1].length; simp) | (show _ ≤ [y0, y1].length; omega)) hlen (by omega)
  have M5 : ∀ (u : World) (v : Value), Below w.heap.size w u → IsP u v (fun k => [9, 13].contains k) → Calls Try.prog 40 #[.agg #[.int .u8 13, .string tt, .int .i64 nn, .int .i64 aa, .slice p 2 c, .bool d], .int .i64 (2), .int .i64 (2), v] u fun e w' => e = okOr (areB [y0, y1] (fun k => [9, 13].contains k) 2 2) ∧ Below u.heap.size u w' := by
    intro u v hu hv; exact are_any (x := .mk 13 tt nn aa [y0, y1]) (fr := 2) (to := 2) (KidsV.below hu _hk) hv (by first | exact Nat.le_refl _ | (show _ ≤ [y0, y1].length; simp) | (show _ ≤ [y0, y1].length; omega)) hlen (by omega)
  generalize (tt.data.toList == [] && nn == 0) = b1 at *
  generalize (areB [y0, y1] saidK 0 1) = b3 at *
  generalize (areB [y0, y1] (fun k => [9].contains k) 1 2) = b4 at *
  generalize (areB [y0, y1] (fun k => [9, 13].contains k) 2 2) = b5 at *
  have N1 := Lib.hid M1; clear M1
  have N2 := Lib.hid M2; clear M2
  have N3 := Lib.hid M3; clear M3
  have N4 := Lib.hid M4; clear M4
  have N5 := Lib.hid M5; clear M5
  have HB0 : Hid (Below w.heap.size w (w.alloc (.cells #[.int .u8 13, .string tt, .int .i64 nn, .int .i64 aa, .slice p 2 c, .bool d] 42))) := Lib.hid ((Below.refl w.heap.size w).alloc (Nat.le_refl _) _)
  have BX0 : Hid (BoxAt (w.alloc (.cells #[.int .u8 13, .string tt, .int .i64 nn, .int .i64 aa, .slice p 2 c, .bool d] 42)) w.heap.size (.int .u8 13) (.string tt) (.int .i64 nn) (.int .i64 aa) (.slice p 2 c) (.bool d)) := Lib.hid BoxAt.new
  have NB : Hid (Calls Try.prog 41 #[.slice (some ⟨w.heap.size + 1, 0, none⟩) 1 1] ((w.alloc (.cells #[.int .u8 13, .string tt, .int .i64 nn, .int .i64 aa, .slice p 2 c, .bool d] 42)).alloc (.cells #[.int .u8 9] 22)) fun e w' => ∃ v, e = .returned v ∧ IsP w' v (fun k => [9].contains k) ∧ Below (w.alloc (.cells #[.int .u8 13, .string tt, .int .i64 nn, .int .i64 aa, .slice p 2 c, .bool d] 42)).heap.size (w.alloc (.cells #[.int .u8 13, .string tt, .int .i64 nn, .int .i64 aa, .slice p 2 c, .bool d] 42)) w') := Lib.hid (by rw [show w.heap.size + 1 = (w.alloc (.cells #[.int .u8 13, .string tt, .int .i64 nn, .int .i64 aa, .slice p 2 c, .bool d] 42)).heap.size by simp]; exact ofA1 9 _)
  clear _hk _ht hlen
  go_enter Try.func33, Try.ntmps33
  go_wp2_with (first | (go_at_call 41; go_must (with_reducible refine NB.out.mono ?_; rintro e w100 ⟨vb, rfl, hvb, hb⟩; have HV0 := Lib.hid hvb; have HB00 := Lib.hid (HB0.out.trans (hb.mono HB0.out.size)); have BX00 := Lib.hid (BX0.out.below hb); clear hb hvb HB0 BX0; have HB0 := HB00; have BX0 := BX00; clear HB00 BX00; obtain ⟨k0, k1, k2, k3, k4, k5⟩ := BX0.out)) | (go_at_call 42; go_must (with_reducible refine (N1.out _ HB0.out).mono ?_; rintro e w1 ⟨rfl, hb⟩; have HB1 := Lib.hid (HB0.out.trans (hb.mono HB0.out.size)); have BX1 := Lib.hid (BX0.out.below hb); have HV1 := Lib.hid (HV0.out.below hb); clear hb; cases b1; (· simp only [okOr_false]; exact panic_post rfl ⟨rfl, HB1.out⟩); simp only [okOr_true]; obtain ⟨k0, k1, k2, k3, k4, k5⟩ := BX1.out)) | (go_at_call 22; go_must (with_reducible refine (N2.out _ HB1.out).mono ?_; rintro e w2 ⟨rfl, hb⟩; have HB2 := Lib.hid (HB1.out.trans (hb.mono HB1.out.size)); have BX2 := Lib.hid (BX1.out.below hb); have HV2 := Lib.hid (HV1.out.below hb); clear hb; simp only [okOr_true]; obtain ⟨k0, k1, k2, k3, k4, k5⟩ := BX2.out)) | (go_at_call 40; first | (with_reducible refine (N3.out _ HB2.out).mono ?_; rintro e w3 ⟨rfl, hb⟩; have HB3 := Lib.hid (HB2.out.trans (hb.mono HB2.out.size)); have BX3 := Lib.hid (BX2.out.below hb); have HV3 := Lib.hid (HV2.out.below hb); clear hb; cases b3; (· simp only [okOr_false]; exact panic_post rfl ⟨rfl, HB3.out⟩); simp only [okOr_true]; obtain ⟨k0, k1, k2, k3, k4, k5⟩ := BX3.out) | (with_reducible refine (N4.out _ _ HB3.out HV3.out).mono ?_; rintro e w4 ⟨rfl, hb⟩; have HB4 := Lib.hid (HB3.out.trans (hb.mono HB3.out.size)); have BX4 := Lib.hid (BX3.out.below hb); have HV4 := Lib.hid (HV3.out.below hb); clear hb; cases b4; (· simp only [okOr_false]; exact panic_post rfl ⟨rfl, HB4.out⟩); simp only [okOr_true]; obtain ⟨k0, k1, k2, k3, k4, k5⟩ := BX4.out)))
  clear k0 k1 k2 k3 k4 k5
  refine wp_region_mixI (l1 := [_, _, _, _]) (l2 := [_]) [(0, true), (1, true), (2, false), (3, false)] (fun u => Below w4.heap.size w4 u) (by kernel_rfl) (by kernel_rfl) (by repeat (first | refine loose_then ?_ | refine loose_block ?_ | exact loose_body (P := Try.prog) (fn := Try.f33))) ((Below.refl _ w4).drew) ?_
  refine mixI_take (.agg #[.int .u8 13, .string tt, .int .i64 nn, .int .i64 aa, .slice p 2 c, .bool d]) rfl rfl (fun u hu => by obtain ⟨k0, k1, k2, k3, k4, k5⟩ := BX4.out.below hu; go_simp) ?_
  refine mixI_take (.int .i64 2) rfl rfl (fun u hu => by go_simp) ?_
  refine mixI_go rfl rfl fun K hK => wp_val (v := .slice (some ⟨w4.heap.size, 0, none⟩) 2 2) (w' := w4.drew.alloc (.cells #[.int .u8 9, .int .u8 13] 22)) (by go_simp) ?_
  refine hK.out _ _ (((Below.refl _ w4).drew).alloc (Nat.le_refl _) _) ?_
  clear hK
  refine mixI_go rfl rfl fun K hK => wp_go (f := 41) (args := #[.slice (some ⟨w4.heap.size, 0, none⟩) 2 2]) (by go_simp) ((of_any (l := [9, 13]) (by decide) (kinds2 _)).mono ?_)
  rintro e wR ⟨vR, rfl, hvR, hb⟩
  have hbR : Below w4.heap.size w4 wR := (((Below.refl _ w4).drew).alloc (Nat.le_refl _) (.cells #[.int .u8 9, .int .u8 13] 22)).trans (hb.mono (by simp))
  refine hK.out _ _ hbR ?_
  clear hK
  show wpList _ _ _ _ _ _
  have HBR := Lib.hid (HB4.out.trans (hbR.mono HB4.out.size))
  have N5R := Lib.hid (N5.out _ _ HBR.out hvR)
  have BXR := Lib.hid (BX4.out.below hbR)
  have HVR := Lib.hid (HV4.out.below hbR)
  clear hb hvR hbR
  go_wp2_with (go_at_call 40; go_must (with_reducible refine (N5R.out).mono ?_; rintro e w5 ⟨rfl, hb⟩; have HB5 := Lib.hid (HBR.out.trans (hb.mono HBR.out.size)); have BX5 := Lib.hid (BXR.out.below hb); have HV5 := Lib.hid (HVR.out.below hb); clear hb; cases b5; (· simp only [okOr_false]; exact panic_post rfl ⟨rfl, HB5.out⟩); simp only [okOr_true]; obtain ⟨k0, k1, k2, k3, k4, k5⟩ := BX5.out))
  go_ret
  exact ⟨rfl, HB5.out⟩
set_option maxRecDepth 100000 in
set_option maxHeartbeats 4000000 in
theorem statement_13b {tt : ByteArray} {nn aa : Int} {y0 y1 y2 : Nd} {p : Option Addr} {c : Nat} {d : Bool} {w : World} (_hk : KidsV w p [y0, y1, y2]) (_ht : tt.size ≤ 1000000000) :
    Calls Try.prog 33 #[.agg (lookC (.mk 13 tt nn aa [y0, y1, y2]) p c d)] w fun e w' => e = okB (shapeB d (.mk 13 tt nn aa [y0, y1, y2])) ∧ Below w.heap.size w w' := by
  rw [shape_13 (Or.inr rfl)]
  show Calls Try.prog 33 #[.agg #[.int .u8 13, .string tt, .int .i64 nn, .int .i64 aa, .slice p 3 c, .bool d]] w fun e w' => e = okB ((tt.data.toList == [] && nn == 0) && (areB [y0, y1, y2] saidK 0 1 && (areB [y0, y1, y2] (fun k => [9].contains k) 1 2 && areB [y0, y1, y2] (fun k => [9, 13].contains k) 2 3))) ∧ Below w.heap.size w w'
  have hlen : ([y0, y1, y2] : List Nd).length ≤ 1000000 := by simp
  have M1 : ∀ u, Below w.heap.size w u → Calls Try.prog 42 #[.agg #[.int .u8 13, .string tt, .int .i64 nn, .int .i64 aa, .slice p 3 c, .bool d]] u fun e w' => e = okOr ((tt.data.toList == [] && nn == 0)) ∧ Below u.heap.size u w' := by
    intro u hu; exact bare_any (x := .mk 13 tt nn aa [y0, y1, y2]) u
  have M2 : ∀ u, Below w.heap.size w u → Calls Try.prog 22 #[.slice (some ⟨u.heap.size, 0, none⟩) 1 1] (u.alloc (.cells #[.bool true] 4)) fun e w' => e = okOr (true) ∧ Below u.heap.size u w' := fun u _ => mustA1 true u
  have M3 : ∀ (u : World), Below w.heap.size w u → Calls Try.prog 40 #[.agg #[.int .u8 13, .string tt, .int .i64 nn, .int .i64 aa, .slice p 3 c, .bool d], .int .i64 (0), .int .i64 (1), (.func (.func 46) #[] #[])] u fun e w' => e = okOr (areB [y0, y1, y2] saidK 0 1) ∧ Below u.heap.size u w' := by
    intro u hu; exact are_any (x := .mk 13 tt nn aa [y0, y1, y2]) (fr := 0) (to := 1) (KidsV.below hu _hk) (isP_said u) (by first | exact Nat.le_refl _ | (show _ ≤ [y0, y1, y2].length; simp) | (show _ ≤ [y0, y1, y2].length; omega)) hlen (by omega)
  have M4 : ∀ (u : World) (v : Value), Below w.heap.size w u → IsP u v (fun k => [9].contains k) → Calls Try.prog 40 #[.agg #[.int .u8 13, .string tt, .int .i64 nn, .int .i64 aa, .slice p 3 c, .bool d], .int .i64 (1), .int .i64 (2), v] u fun e w' => e = okOr (areB [y0, y1, y2] (fun k => [9].contains k) 1 2) ∧ Below u.heap.size u w' := by
    intro u v hu hv; exact are_any (x := .mk 13 tt nn aa [y0, y1, y2]) (fr := 1) (to := 2) (KidsV.below hu _hk) hv (by first | exact Nat.le_refl _ | (show _ ≤ [y0, y1, y2].length; simp) | (show _ ≤ [y0, y1, y2].length; omega)) hlen (by omega)
  have M5 : ∀ (u : World) (v : Value), Below w.heap.size w u → IsP u v (fun k => [9, 13].contains k) → Calls Try.prog 40 #[.agg #[.int .u8 13, .string tt, .int .i64 nn, .int .i64 aa, .slice p 3 c, .bool d], .int .i64 (2), .int .i64 (3), v] u fun e w' => e = okOr (areB [y0, y1, y2] (fun k => [9, 13].contains k) 2 3) ∧ Below u.heap.size u w' := by
    intro u v hu hv; exact are_any (x := .mk 13 tt nn aa [y0, y1, y2]) (fr := 2) (to := 3) (KidsV.below hu _hk) hv (by first | exact Nat.le_refl _ | (show _ ≤ [y0, y1, y2].length; simp) | (show _ ≤ [y0, y1, y2].length; omega)) hlen (by omega)
  generalize (tt.data.toList == [] && nn == 0) = b1 at *
  generalize (areB [y0, y1, y2] saidK 0 1) = b3 at *
  generalize (areB [y0, y1, y2] (fun k => [9].contains k) 1 2) = b4 at *
  generalize (areB [y0, y1, y2] (fun k => [9, 13].contains k) 2 3) = b5 at *
  have N1 := Lib.hid M1; clear M1
  have N2 := Lib.hid M2; clear M2
  have N3 := Lib.hid M3; clear M3
  have N4 := Lib.hid M4; clear M4
  have N5 := Lib.hid M5; clear M5
  have HB0 : Hid (Below w.heap.size w (w.alloc (.cells #[.int .u8 13, .string tt, .int .i64 nn, .int .i64 aa, .slice p 3 c, .bool d] 42))) := Lib.hid ((Below.refl w.heap.size w).alloc (Nat.le_refl _) _)
  have BX0 : Hid (BoxAt (w.alloc (.cells #[.int .u8 13, .string tt, .int .i64 nn, .int .i64 aa, .slice p 3 c, .bool d] 42)) w.heap.size (.int .u8 13) (.string tt) (.int .i64 nn) (.int .i64 aa) (.slice p 3 c) (.bool d)) := Lib.hid BoxAt.new
  have NB : Hid (Calls Try.prog 41 #[.slice (some ⟨w.heap.size + 1, 0, none⟩) 1 1] ((w.alloc (.cells #[.int .u8 13, .string tt, .int .i64 nn, .int .i64 aa, .slice p 3 c, .bool d] 42)).alloc (.cells #[.int .u8 9] 22)) fun e w' => ∃ v, e = .returned v ∧ IsP w' v (fun k => [9].contains k) ∧ Below (w.alloc (.cells #[.int .u8 13, .string tt, .int .i64 nn, .int .i64 aa, .slice p 3 c, .bool d] 42)).heap.size (w.alloc (.cells #[.int .u8 13, .string tt, .int .i64 nn, .int .i64 aa, .slice p 3 c, .bool d] 42)) w') := Lib.hid (by rw [show w.heap.size + 1 = (w.alloc (.cells #[.int .u8 13, .string tt, .int .i64 nn, .int .i64 aa, .slice p 3 c, .bool d] 42)).heap.size by simp]; exact ofA1 9 _)
  clear _hk _ht hlen
  go_enter Try.func33, Try.ntmps33
  go_wp2_with (first | (go_at_call 41; go_must (with_reducible refine NB.out.mono ?_; rintro e w100 ⟨vb, rfl, hvb, hb⟩; have HV0 := Lib.hid hvb; have HB00 := Lib.hid (HB0.out.trans (hb.mono HB0.out.size)); have BX00 := Lib.hid (BX0.out.below hb); clear hb hvb HB0 BX0; have HB0 := HB00; have BX0 := BX00; clear HB00 BX00; obtain ⟨k0, k1, k2, k3, k4, k5⟩ := BX0.out)) | (go_at_call 42; go_must (with_reducible refine (N1.out _ HB0.out).mono ?_; rintro e w1 ⟨rfl, hb⟩; have HB1 := Lib.hid (HB0.out.trans (hb.mono HB0.out.size)); have BX1 := Lib.hid (BX0.out.below hb); have HV1 := Lib.hid (HV0.out.below hb); clear hb; cases b1; (· simp only [okOr_false]; exact panic_post rfl ⟨rfl, HB1.out⟩); simp only [okOr_true]; obtain ⟨k0, k1, k2, k3, k4, k5⟩ := BX1.out)) | (go_at_call 22; go_must (with_reducible refine (N2.out _ HB1.out).mono ?_; rintro e w2 ⟨rfl, hb⟩; have HB2 := Lib.hid (HB1.out.trans (hb.mono HB1.out.size)); have BX2 := Lib.hid (BX1.out.below hb); have HV2 := Lib.hid (HV1.out.below hb); clear hb; simp only [okOr_true]; obtain ⟨k0, k1, k2, k3, k4, k5⟩ := BX2.out)) | (go_at_call 40; first | (with_reducible refine (N3.out _ HB2.out).mono ?_; rintro e w3 ⟨rfl, hb⟩; have HB3 := Lib.hid (HB2.out.trans (hb.mono HB2.out.size)); have BX3 := Lib.hid (BX2.out.below hb); have HV3 := Lib.hid (HV2.out.below hb); clear hb; cases b3; (· simp only [okOr_false]; exact panic_post rfl ⟨rfl, HB3.out⟩); simp only [okOr_true]; obtain ⟨k0, k1, k2, k3, k4, k5⟩ := BX3.out) | (with_reducible refine (N4.out _ _ HB3.out HV3.out).mono ?_; rintro e w4 ⟨rfl, hb⟩; have HB4 := Lib.hid (HB3.out.trans (hb.mono HB3.out.size)); have BX4 := Lib.hid (BX3.out.below hb); have HV4 := Lib.hid (HV3.out.below hb); clear hb; cases b4; (· simp only [okOr_false]; exact panic_post rfl ⟨rfl, HB4.out⟩); simp only [okOr_true]; obtain ⟨k0, k1, k2, k3, k4, k5⟩ := BX4.out)))
  clear k0 k1 k2 k3 k4 k5
  refine wp_region_mixI (l1 := [_, _, _, _]) (l2 := [_]) [(0, true), (1, true), (2, false), (3, false)] (fun u => Below w4.heap.size w4 u) (by kernel_rfl) (by kernel_rfl) (by repeat (first | refine loose_then ?_ | refine loose_block ?_ | exact loose_body (P := Try.prog) (fn := Try.f33))) ((Below.refl _ w4).drew) ?_
  refine mixI_take (.agg #[.int .u8 13, .string tt, .int .i64 nn, .int .i64 aa, .slice p 3 c, .bool d]) rfl rfl (fun u hu => by obtain ⟨k0, k1, k2, k3, k4, k5⟩ := BX4.out.below hu; go_simp) ?_
  refine mixI_take (.int .i64 3) rfl rfl (fun u hu => by go_simp) ?_
  refine mixI_go rfl rfl fun K hK => wp_val (v := .slice (some ⟨w4.heap.size, 0, none⟩) 2 2) (w' := w4.drew.alloc (.cells #[.int .u8 9, .int .u8 13] 22)) (by go_simp) ?_
  refine hK.out _ _ (((Below.refl _ w4).drew).alloc (Nat.le_refl _) _) ?_
  clear hK
  refine mixI_go rfl rfl fun K hK => wp_go (f := 41) (args := #[.slice (some ⟨w4.heap.size, 0, none⟩) 2 2]) (by go_simp) ((of_any (l := [9, 13]) (by decide) (kinds2 _)).mono ?_)
  rintro e wR ⟨vR, rfl, hvR, hb⟩
  have hbR : Below w4.heap.size w4 wR := (((Below.refl _ w4).drew).alloc (Nat.le_refl _) (.cells #[.int .u8 9, .int .u8 13] 22)).trans (hb.mono (by simp))
  refine hK.out _ _ hbR ?_
  clear hK
  show wpList _ _ _ _ _ _
  have HBR := Lib.hid (HB4.out.trans (hbR.mono HB4.out.size))
  have N5R := Lib.hid (N5.out _ _ HBR.out hvR)
  have BXR := Lib.hid (BX4.out.below hbR)
  have HVR := Lib.hid (HV4.out.below hbR)
  clear hb hvR hbR
  go_wp2_with (go_at_call 40; go_must (with_reducible refine (N5R.out).mono ?_; rintro e w5 ⟨rfl, hb⟩; have HB5 := Lib.hid (HBR.out.trans (hb.mono HBR.out.size)); have BX5 := Lib.hid (BXR.out.below hb); have HV5 := Lib.hid (HVR.out.below hb); clear hb; cases b5; (· simp only [okOr_false]; exact panic_post rfl ⟨rfl, HB5.out⟩); simp only [okOr_true]; obtain ⟨k0, k1, k2, k3, k4, k5⟩ := BX5.out))
  go_ret
  exact ⟨rfl, HB5.out⟩
set_option maxRecDepth 100000 in
set_option maxHeartbeats 4000000 in
theorem statement_13n {tt : ByteArray} {nn aa : Int} {l : List Nd} {p : Option Addr} {c : Nat} {d : Bool} {w : World} (_hk : KidsV w p l) (hlen : l.length ≤ 1000000) (_ht : tt.size ≤ 1000000000) (h1 : l.length ≠ 2) (h2 : l.length ≠ 3) :
    Calls Try.prog 33 #[.agg (lookC (.mk 13 tt nn aa l) p c d)] w fun e w' => e = okB (shapeB d (.mk 13 tt nn aa l)) ∧ Below w.heap.size w w' := by
  rw [shape_13n h1 h2]
  show Calls Try.prog 33 #[.agg #[.int .u8 13, .string tt, .int .i64 nn, .int .i64 aa, .slice p l.length c, .bool d]] w fun e w' => e = okB ((tt.data.toList == [] && nn == 0) && false) ∧ Below w.heap.size w w'
  generalize hnk2 : l.length = nk at *
  have e2 : ((nk : Int) == 2) = false := by simp; omega
  have e3 : ((nk : Int) == 3) = false := by simp; omega
  have M1 : ∀ u, Below w.heap.size w u → Calls Try.prog 42 #[.agg #[.int .u8 13, .string tt, .int .i64 nn, .int .i64 aa, .slice p nk c, .bool d]] u fun e w' => e = okOr ((tt.data.toList == [] && nn == 0)) ∧ Below u.heap.size u w' := by
    intro u hu; subst hnk2; exact bare_any (x := .mk 13 tt nn aa l) u
  have M2 : ∀ u, Below w.heap.size w u → Calls Try.prog 22 #[.slice (some ⟨u.heap.size, 0, none⟩) 1 1] (u.alloc (.cells #[.bool false] 4)) fun e w' => e = okOr (false) ∧ Below u.heap.size u w' := fun u _ => mustA1 false u
  generalize (tt.data.toList == [] && nn == 0) = b1 at *
  have N1 := Lib.hid M1; clear M1
  have N2 := Lib.hid M2; clear M2
  have HB0 : Hid (Below w.heap.size w (w.alloc (.cells #[.int .u8 13, .string tt, .int .i64 nn, .int .i64 aa, .slice p nk c, .bool d] 42))) := Lib.hid ((Below.refl w.heap.size w).alloc (Nat.le_refl _) _)
  have BX0 : Hid (BoxAt (w.alloc (.cells #[.int .u8 13, .string tt, .int .i64 nn, .int .i64 aa, .slice p nk c, .bool d] 42)) w.heap.size (.int .u8 13) (.string tt) (.int .i64 nn) (.int .i64 aa) (.slice p nk c) (.bool d)) := Lib.hid BoxAt.new
  have NB : Hid (Calls Try.prog 41 #[.slice (some ⟨w.heap.size + 1, 0, none⟩) 1 1] ((w.alloc (.cells #[.int .u8 13, .string tt, .int .i64 nn, .int .i64 aa, .slice p nk c, .bool d] 42)).alloc (.cells #[.int .u8 9] 22)) fun e w' => ∃ v, e = .returned v ∧ IsP w' v (fun k => [9].contains k) ∧ Below (w.alloc (.cells #[.int .u8 13, .string tt, .int .i64 nn, .int .i64 aa, .slice p nk c, .bool d] 42)).heap.size (w.alloc (.cells #[.int .u8 13, .string tt, .int .i64 nn, .int .i64 aa, .slice p nk c, .bool d] 42)) w') := Lib.hid (by rw [show w.heap.size + 1 = (w.alloc (.cells #[.int .u8 13, .string tt, .int .i64 nn, .int .i64 aa, .slice p nk c, .bool d] 42)).heap.size by simp]; exact ofA1 9 _)
  have HNK := Lib.hid hnk2; clear hnk2 _hk _ht hlen
  go_enter Try.func33, Try.ntmps33
  go_wp2_with (first | (go_at_call 41; go_must (with_reducible refine NB.out.mono ?_; rintro e w100 ⟨vb, rfl, hvb, hb⟩; have HV0 := Lib.hid hvb; have HB00 := Lib.hid (HB0.out.trans (hb.mono HB0.out.size)); have BX00 := Lib.hid (BX0.out.below hb); clear hb hvb HB0 BX0; have HB0 := HB00; have BX0 := BX00; clear HB00 BX00; obtain ⟨k0, k1, k2, k3, k4, k5⟩ := BX0.out)) | (go_at_call 42; go_must (with_reducible refine (N1.out _ HB0.out).mono ?_; rintro e w1 ⟨rfl, hb⟩; have HB1 := Lib.hid (HB0.out.trans (hb.mono HB0.out.size)); have BX1 := Lib.hid (BX0.out.below hb); have HV1 := Lib.hid (HV0.out.below hb); clear hb; cases b1; (· simp only [okOr_false]; exact panic_post rfl ⟨rfl, HB1.out⟩); simp only [okOr_true]; obtain ⟨k0, k1, k2, k3, k4, k5⟩ := BX1.out)) | (go_at_call 22; go_must (with_reducible refine (N2.out _ HB1.out).mono ?_; rintro e w2 ⟨rfl, hb⟩; have HB2 := Lib.hid (HB1.out.trans (hb.mono HB1.out.size)); clear hb; simp only [okOr_false]; exact panic_post rfl ⟨rfl, HB2.out⟩)))
end Go.Proofs.Ytkjpdhnibfhaaaa.NodeO
