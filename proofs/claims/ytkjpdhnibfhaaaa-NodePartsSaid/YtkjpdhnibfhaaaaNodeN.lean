/- node's looks: sides. -/
import Derived.Test.YtkjpdhnibfhaaaaNodeM
namespace Go.Proofs.Ytkjpdhnibfhaaaa.NodeN
open Go.RowKit Go.Proofs.Ytkjpdhnibfhaaaa.Nodey Go.Proofs.Ytkjpdhnibfhaaaa.NodeA Go.Proofs.Ytkjpdhnibfhaaaa.NodeB Go.Proofs.Ytkjpdhnibfhaaaa.NodeC Go.Proofs.Ytkjpdhnibfhaaaa.NodeD Go.Proofs.Ytkjpdhnibfhaaaa.NodeE Go.Proofs.Ytkjpdhnibfhaaaa.NodeF Go.Proofs.Ytkjpdhnibfhaaaa.NodeG Go.Proofs.Ytkjpdhnibfhaaaa.NodeH Go.Proofs.Ytkjpdhnibfhaaaa.NodeI Go.Proofs.Ytkjpdhnibfhaaaa.NodeJ Go.Proofs.Ytkjpdhnibfhaaaa.NodeK Go.Proofs.Ytkjpdhnibfhaaaa.NodeL Go.Proofs.Ytkjpdhnibfhaaaa.NodeM Go.Proofs.Ytkjpdhnibfhaaaa.Cut

theorem sides_eq_11i {tt : ByteArray} {m : Nat} {aa : Int} {l : List Nd} (ht0 : (tt.data.toList == []) = true) (_h1 : 1 ≤ m) (_h2 : m < l.length) (c1 : (l.length : Int) - (m : Int) = 1) (c2 : 1 < m) : sidesB (.mk 11 tt (m : Int) aa l) = (areB l (fun k => [25].contains k) 0 m && areB l (fun k => [28].contains k) m l.length) := by
  have q1 : (1 : Int) ≤ (m : Int) := by omega
  have q2 : (m : Int) < (l.length : Int) := by omega
  show (tt.data.toList == [] && decide (1 ≤ (m : Int)) && decide ((m : Int) < (l.length : Int)) && (if (11 : Nat) = 11 then areB l (fun k => [25].contains k) 0 (m : Int).toNat else (l.take (m : Int).toNat).all placeN) && (if (l.length : Int) - (m : Int) = 1 ∧ 1 < (m : Int) then areB l (fun k => [28].contains k) (m : Int).toNat l.length else if (l.length : Int) - (m : Int) = 1 ∨ (l.length : Int) - (m : Int) = (m : Int) ∧ (11 : Nat) = 12 then areB l saidK (m : Int).toNat l.length else false)) = _
  rw [if_pos (rfl : (11 : Nat) = 11), if_pos (show (l.length : Int) - (m : Int) = 1 ∧ 1 < (m : Int) from ⟨c1, by omega⟩), ht0, decide_eq_true q1, decide_eq_true q2]
  rfl
theorem sides_eq_11j {tt : ByteArray} {m : Nat} {aa : Int} {l : List Nd} (ht0 : (tt.data.toList == []) = true) (_h1 : 1 ≤ m) (_h2 : m < l.length) (c1 : (l.length : Int) - (m : Int) = 1) (c2 : ¬ 1 < m) : sidesB (.mk 11 tt (m : Int) aa l) = (areB l (fun k => [25].contains k) 0 m && areB l saidK m l.length) := by
  have q1 : (1 : Int) ≤ (m : Int) := by omega
  have q2 : (m : Int) < (l.length : Int) := by omega
  show (tt.data.toList == [] && decide (1 ≤ (m : Int)) && decide ((m : Int) < (l.length : Int)) && (if (11 : Nat) = 11 then areB l (fun k => [25].contains k) 0 (m : Int).toNat else (l.take (m : Int).toNat).all placeN) && (if (l.length : Int) - (m : Int) = 1 ∧ 1 < (m : Int) then areB l (fun k => [28].contains k) (m : Int).toNat l.length else if (l.length : Int) - (m : Int) = 1 ∨ (l.length : Int) - (m : Int) = (m : Int) ∧ (11 : Nat) = 12 then areB l saidK (m : Int).toNat l.length else false)) = _
  rw [if_pos (rfl : (11 : Nat) = 11), if_neg (show ¬ ((l.length : Int) - (m : Int) = 1 ∧ 1 < (m : Int)) from fun h => c2 (by omega)), if_pos (show _ ∨ _ from Or.inl c1), ht0, decide_eq_true q1, decide_eq_true q2]
  rfl
theorem sides_eq_11n {tt : ByteArray} {m : Nat} {aa : Int} {l : List Nd} (ht0 : (tt.data.toList == []) = true) (_h1 : 1 ≤ m) (_h2 : m < l.length) (c1 : (l.length : Int) - (m : Int) ≠ 1) (c3 : (l.length : Int) - (m : Int) ≠ (m : Int)) : sidesB (.mk 11 tt (m : Int) aa l) = (areB l (fun k => [25].contains k) 0 m && false) := by
  have q1 : (1 : Int) ≤ (m : Int) := by omega
  have q2 : (m : Int) < (l.length : Int) := by omega
  show (tt.data.toList == [] && decide (1 ≤ (m : Int)) && decide ((m : Int) < (l.length : Int)) && (if (11 : Nat) = 11 then areB l (fun k => [25].contains k) 0 (m : Int).toNat else (l.take (m : Int).toNat).all placeN) && (if (l.length : Int) - (m : Int) = 1 ∧ 1 < (m : Int) then areB l (fun k => [28].contains k) (m : Int).toNat l.length else if (l.length : Int) - (m : Int) = 1 ∨ (l.length : Int) - (m : Int) = (m : Int) ∧ (11 : Nat) = 12 then areB l saidK (m : Int).toNat l.length else false)) = _
  rw [if_pos (rfl : (11 : Nat) = 11), if_neg (show ¬ ((l.length : Int) - (m : Int) = 1 ∧ 1 < (m : Int)) from fun h => c1 h.1), if_neg (show ¬ ((l.length : Int) - (m : Int) = 1 ∨ (l.length : Int) - (m : Int) = (m : Int) ∧ (11 : Nat) = 12) from fun h => h.elim c1 (fun h => c3 h.1)), ht0, decide_eq_true q1, decide_eq_true q2]
  rfl
theorem sides_eq_11m {tt : ByteArray} {m : Nat} {aa : Int} {l : List Nd} (ht0 : (tt.data.toList == []) = true) (_h1 : 1 ≤ m) (_h2 : m < l.length) (c1 : (l.length : Int) - (m : Int) ≠ 1) (c3 : (l.length : Int) - (m : Int) = (m : Int)) : sidesB (.mk 11 tt (m : Int) aa l) = (areB l (fun k => [25].contains k) 0 m && false) := by
  have q1 : (1 : Int) ≤ (m : Int) := by omega
  have q2 : (m : Int) < (l.length : Int) := by omega
  show (tt.data.toList == [] && decide (1 ≤ (m : Int)) && decide ((m : Int) < (l.length : Int)) && (if (11 : Nat) = 11 then areB l (fun k => [25].contains k) 0 (m : Int).toNat else (l.take (m : Int).toNat).all placeN) && (if (l.length : Int) - (m : Int) = 1 ∧ 1 < (m : Int) then areB l (fun k => [28].contains k) (m : Int).toNat l.length else if (l.length : Int) - (m : Int) = 1 ∨ (l.length : Int) - (m : Int) = (m : Int) ∧ (11 : Nat) = 12 then areB l saidK (m : Int).toNat l.length else false)) = _
  rw [if_pos (rfl : (11 : Nat) = 11), if_neg (show ¬ ((l.length : Int) - (m : Int) = 1 ∧ 1 < (m : Int)) from fun h => c1 h.1), if_neg (show ¬ ((l.length : Int) - (m : Int) = 1 ∨ (l.length : Int) - (m : Int) = (m : Int) ∧ (11 : Nat) = 12) from fun h => h.elim c1 (fun h => absurd h.2 (by decide))), ht0, decide_eq_true q1, decide_eq_true q2]
  rfl
theorem sides_eq_12i {tt : ByteArray} {m : Nat} {aa : Int} {l : List Nd} (ht0 : (tt.data.toList == []) = true) (_h1 : 1 ≤ m) (_h2 : m < l.length) (c1 : (l.length : Int) - (m : Int) = 1) (c2 : 1 < m) : sidesB (.mk 12 tt (m : Int) aa l) = ((l.take m).all placeN && areB l (fun k => [28].contains k) m l.length) := by
  have q1 : (1 : Int) ≤ (m : Int) := by omega
  have q2 : (m : Int) < (l.length : Int) := by omega
  show (tt.data.toList == [] && decide (1 ≤ (m : Int)) && decide ((m : Int) < (l.length : Int)) && (if (12 : Nat) = 11 then areB l (fun k => [25].contains k) 0 (m : Int).toNat else (l.take (m : Int).toNat).all placeN) && (if (l.length : Int) - (m : Int) = 1 ∧ 1 < (m : Int) then areB l (fun k => [28].contains k) (m : Int).toNat l.length else if (l.length : Int) - (m : Int) = 1 ∨ (l.length : Int) - (m : Int) = (m : Int) ∧ (12 : Nat) = 12 then areB l saidK (m : Int).toNat l.length else false)) = _
  rw [if_neg (by decide : ¬ (12 : Nat) = 11), if_pos (show (l.length : Int) - (m : Int) = 1 ∧ 1 < (m : Int) from ⟨c1, by omega⟩), ht0, decide_eq_true q1, decide_eq_true q2]
  rfl
theorem sides_eq_12j {tt : ByteArray} {m : Nat} {aa : Int} {l : List Nd} (ht0 : (tt.data.toList == []) = true) (_h1 : 1 ≤ m) (_h2 : m < l.length) (c1 : (l.length : Int) - (m : Int) = 1) (c2 : ¬ 1 < m) : sidesB (.mk 12 tt (m : Int) aa l) = ((l.take m).all placeN && areB l saidK m l.length) := by
  have q1 : (1 : Int) ≤ (m : Int) := by omega
  have q2 : (m : Int) < (l.length : Int) := by omega
  show (tt.data.toList == [] && decide (1 ≤ (m : Int)) && decide ((m : Int) < (l.length : Int)) && (if (12 : Nat) = 11 then areB l (fun k => [25].contains k) 0 (m : Int).toNat else (l.take (m : Int).toNat).all placeN) && (if (l.length : Int) - (m : Int) = 1 ∧ 1 < (m : Int) then areB l (fun k => [28].contains k) (m : Int).toNat l.length else if (l.length : Int) - (m : Int) = 1 ∨ (l.length : Int) - (m : Int) = (m : Int) ∧ (12 : Nat) = 12 then areB l saidK (m : Int).toNat l.length else false)) = _
  rw [if_neg (by decide : ¬ (12 : Nat) = 11), if_neg (show ¬ ((l.length : Int) - (m : Int) = 1 ∧ 1 < (m : Int)) from fun h => c2 (by omega)), if_pos (show _ ∨ _ from Or.inl c1), ht0, decide_eq_true q1, decide_eq_true q2]
  rfl
theorem sides_eq_12n {tt : ByteArray} {m : Nat} {aa : Int} {l : List Nd} (ht0 : (tt.data.toList == []) = true) (_h1 : 1 ≤ m) (_h2 : m < l.length) (c1 : (l.length : Int) - (m : Int) ≠ 1) (c3 : (l.length : Int) - (m : Int) ≠ (m : Int)) : sidesB (.mk 12 tt (m : Int) aa l) = ((l.take m).all placeN && false) := by
  have q1 : (1 : Int) ≤ (m : Int) := by omega
  have q2 : (m : Int) < (l.length : Int) := by omega
  show (tt.data.toList == [] && decide (1 ≤ (m : Int)) && decide ((m : Int) < (l.length : Int)) && (if (12 : Nat) = 11 then areB l (fun k => [25].contains k) 0 (m : Int).toNat else (l.take (m : Int).toNat).all placeN) && (if (l.length : Int) - (m : Int) = 1 ∧ 1 < (m : Int) then areB l (fun k => [28].contains k) (m : Int).toNat l.length else if (l.length : Int) - (m : Int) = 1 ∨ (l.length : Int) - (m : Int) = (m : Int) ∧ (12 : Nat) = 12 then areB l saidK (m : Int).toNat l.length else false)) = _
  rw [if_neg (by decide : ¬ (12 : Nat) = 11), if_neg (show ¬ ((l.length : Int) - (m : Int) = 1 ∧ 1 < (m : Int)) from fun h => c1 h.1), if_neg (show ¬ ((l.length : Int) - (m : Int) = 1 ∨ (l.length : Int) - (m : Int) = (m : Int) ∧ (12 : Nat) = 12) from fun h => h.elim c1 (fun h => c3 h.1)), ht0, decide_eq_true q1, decide_eq_true q2]
  rfl
theorem sides_eq_12m {tt : ByteArray} {m : Nat} {aa : Int} {l : List Nd} (ht0 : (tt.data.toList == []) = true) (_h1 : 1 ≤ m) (_h2 : m < l.length) (c1 : (l.length : Int) - (m : Int) ≠ 1) (c3 : (l.length : Int) - (m : Int) = (m : Int)) : sidesB (.mk 12 tt (m : Int) aa l) = ((l.take m).all placeN && areB l saidK m l.length) := by
  have q1 : (1 : Int) ≤ (m : Int) := by omega
  have q2 : (m : Int) < (l.length : Int) := by omega
  show (tt.data.toList == [] && decide (1 ≤ (m : Int)) && decide ((m : Int) < (l.length : Int)) && (if (12 : Nat) = 11 then areB l (fun k => [25].contains k) 0 (m : Int).toNat else (l.take (m : Int).toNat).all placeN) && (if (l.length : Int) - (m : Int) = 1 ∧ 1 < (m : Int) then areB l (fun k => [28].contains k) (m : Int).toNat l.length else if (l.length : Int) - (m : Int) = 1 ∨ (l.length : Int) - (m : Int) = (m : Int) ∧ (12 : Nat) = 12 then areB l saidK (m : Int).toNat l.length else false)) = _
  rw [if_neg (by decide : ¬ (12 : Nat) = 11), if_neg (show ¬ ((l.length : Int) - (m : Int) = 1 ∧ 1 < (m : Int)) from fun h => c1 h.1), if_pos (show _ ∨ _ from Or.inr ⟨c3, rfl⟩), ht0, decide_eq_true q1, decide_eq_true q2]
  rfl
set_option maxRecDepth 100000 in
set_option maxHeartbeats 4000000 in
theorem sides_11i {tt : ByteArray} {m : Nat} {aa : Int} {l : List Nd} {p : Option Addr} {c : Nat} {d : Bool} {w : World} (_hk : KidsV w p l) (hlen : l.length ≤ 1000000) (_ht : tt.size ≤ 1000000000) (ht0 : (tt.data.toList == []) = true) (h1 : 1 ≤ m) (h2 : m < l.length) (c1 : (l.length : Int) - (m : Int) = 1) (c2 : 1 < m) :
    Calls Try.prog 47 #[.agg (lookC (.mk 11 tt (m : Int) aa l) p c d)] w fun e w' => e = okOr (sidesB (.mk 11 tt (m : Int) aa l)) ∧ Below w.heap.size w w' := by
  rw [sides_eq_11i ht0 h1 h2 c1 c2]
  show Calls Try.prog 47 #[.agg #[.int .u8 11, .string tt, .int .i64 (m : Int), .int .i64 aa, .slice p l.length c, .bool d]] w fun e w' => e = okOr (areB l (fun k => [25].contains k) 0 m && areB l (fun k => [28].contains k) m l.length) ∧ Below w.heap.size w w'
  generalize hnk2 : l.length = nk at *
  have q0 : tt.toList.isEmpty = true := by rw [ByteArray.toList_eq]; cases h : tt.data.toList <;> simp_all
  have q1 : (1 : Int) ≤ (m : Int) := by omega
  have q2 : (m : Int) < (nk : Int) := by omega
  have q3 : (0 : Int) ≤ (m : Int) := by omega
  have e1 : ((nk : Int) - (m : Int) == 1) = true := by simp; omega
  have e2 : decide ((1 : Int) < (m : Int)) = true := by simp; omega
  have e2' : (1 : Int) < (m : Int) := by omega
  have M1 : ∀ u, Below w.heap.size w u → Calls Try.prog 22 #[.slice (some ⟨u.heap.size, 0, none⟩) 3 3] (u.alloc (.cells #[.bool true, .bool true, .bool true] 4)) fun e w' => e = okOr (true && true && true) ∧ Below u.heap.size u w' := fun u _ => mustA3 true true true u
  have M2 : ∀ (u : World) (v : Value), Below w.heap.size w u → IsP u v (fun k => [25].contains k) → Calls Try.prog 40 #[.agg #[.int .u8 11, .string tt, .int .i64 (m : Int), .int .i64 aa, .slice p nk c, .bool d], .int .i64 (0), .int .i64 ((m : Int)), v] u fun e w' => e = okOr (areB l (fun k => [25].contains k) 0 m) ∧ Below u.heap.size u w' := by
    intro u v hu hv; subst hnk2; exact are_any (x := .mk 11 tt (m : Int) aa l) (fr := 0) (to := m) (KidsV.below hu _hk) hv (by first | exact Nat.le_refl _ | (show _ ≤ l.length; simp) | (show _ ≤ l.length; omega)) hlen (by omega)
  have M3 : ∀ (u : World) (v : Value), Below w.heap.size w u → IsP u v (fun k => [28].contains k) → Calls Try.prog 40 #[.agg #[.int .u8 11, .string tt, .int .i64 (m : Int), .int .i64 aa, .slice p nk c, .bool d], .int .i64 ((m : Int)), .int .i64 ((nk : Int)), v] u fun e w' => e = okOr (areB l (fun k => [28].contains k) m nk) ∧ Below u.heap.size u w' := by
    intro u v hu hv; subst hnk2; exact are_any (x := .mk 11 tt (m : Int) aa l) (fr := m) (to := l.length) (KidsV.below hu _hk) hv (by first | exact Nat.le_refl _ | (show _ ≤ l.length; simp) | (show _ ≤ l.length; omega)) hlen (by omega)
  generalize (areB l (fun k => [25].contains k) 0 m) = b2 at *
  generalize (areB l (fun k => [28].contains k) m nk) = b3 at *
  have N1 := Lib.hid M1; clear M1
  have N2 := Lib.hid M2; clear M2
  have N3 := Lib.hid M3; clear M3
  have HB0 : Hid (Below w.heap.size w (w.alloc (.cells #[.int .u8 11, .string tt, .int .i64 (m : Int), .int .i64 aa, .slice p nk c, .bool d] 42))) := Lib.hid ((Below.refl w.heap.size w).alloc (Nat.le_refl _) _)
  have BX0 : Hid (BoxAt (w.alloc (.cells #[.int .u8 11, .string tt, .int .i64 (m : Int), .int .i64 aa, .slice p nk c, .bool d] 42)) w.heap.size (.int .u8 11) (.string tt) (.int .i64 (m : Int)) (.int .i64 aa) (.slice p nk c) (.bool d)) := Lib.hid BoxAt.new
  have HNK := Lib.hid hnk2; clear hnk2 _hk _ht
  go_enter Try.func47, Try.ntmps47
  go_wp2_with fail
  go_region
  have hb0 := HB0.out.drew; have bx0 := BX0.out.below ((Below.refl _ _).drew)
  generalize (w.alloc (.cells #[.int .u8 11, .string tt, .int .i64 (m : Int), .int .i64 aa, .slice p nk c, .bool d] 42)).drew = w0 at *
  clear HB0 BX0
  have HB0 := Lib.hid hb0; have BX0 := Lib.hid bx0; clear hb0
  obtain ⟨k0, k1, k2, k3, k4, k5⟩ := bx0
  go_wp2_with (go_at_call 22; go_must (with_reducible refine (N1.out _ HB0.out).mono ?_; rintro e w1 ⟨rfl, hb⟩; have HB1 := Lib.hid (HB0.out.trans (hb.mono HB0.out.size)); have BX1 := Lib.hid (BX0.out.below hb); clear hb; simp only [okOr_true, Bool.and_self]; obtain ⟨k0, k1, k2, k3, k4, k5⟩ := BX1.out))
  clear k0 k1 k2 k3 k4 k5
  refine wp_region_mixI (l1 := [_, _, _, _]) (l2 := [_]) [(0, true), (1, true), (2, false), (3, false)] (fun u => Below w1.heap.size w1 u) (by kernel_rfl) (by kernel_rfl) (by repeat (first | refine loose_then ?_ | refine loose_block ?_ | exact loose_body (P := Try.prog) (fn := Try.f47))) ((Below.refl _ w1).drew) ?_
  refine mixI_take (.agg #[.int .u8 11, .string tt, .int .i64 (m : Int), .int .i64 aa, .slice p nk c, .bool d]) rfl rfl (fun u hu => by obtain ⟨k0, k1, k2, k3, k4, k5⟩ := BX1.out.below hu; go_simp) ?_
  refine mixI_take (.int .i64 (m : Int)) rfl rfl (fun u hu => by go_simp) ?_
  refine mixI_go rfl rfl fun K hK => wp_val (v := .slice (some ⟨w1.heap.size, 0, none⟩) 1 1) (w' := w1.drew.alloc (.cells #[.int .u8 25] 22)) (by go_simp) ?_
  refine hK.out _ _ (((Below.refl _ w1).drew).alloc (Nat.le_refl _) _) ?_
  clear hK
  refine mixI_go rfl rfl fun K hK => wp_go (f := 41) (args := #[.slice (some ⟨w1.heap.size, 0, none⟩) 1 1]) (by go_simp) ((of_any (l := [25]) (by decide) (kinds1 _)).mono ?_)
  rintro e wR ⟨vR, rfl, hvR, hb⟩
  have hbR : Below w1.heap.size w1 wR := (((Below.refl _ w1).drew).alloc (Nat.le_refl _) (.cells #[.int .u8 25] 22)).trans (hb.mono (by simp))
  refine hK.out _ _ hbR ?_
  clear hK
  show wpList _ _ _ _ _ _
  have HBR := Lib.hid (HB1.out.trans (hbR.mono HB1.out.size))
  have N2R := Lib.hid (N2.out _ _ HBR.out hvR)
  have BXR := Lib.hid (BX1.out.below hbR)
  clear hb hvR hbR
  go_wp2_with (go_at_call 40; go_must (with_reducible refine (N2R.out).mono ?_; rintro e w2 ⟨rfl, hb⟩; have HB2 := Lib.hid (HBR.out.trans (hb.mono HBR.out.size)); have BX2 := Lib.hid (BXR.out.below hb); clear hb; cases b2; (· simp only [okOr_false]; exact panic_post rfl ⟨rfl, HB2.out⟩); simp only [okOr_true]; obtain ⟨k0, k1, k2, k3, k4, k5⟩ := BX2.out))
  clear k0 k1 k2 k3 k4 k5
  refine wp_region_mixI (l1 := [_, _, _, _, _]) (l2 := [_]) [(0, true), (1, true), (2, true), (3, false), (4, false)] (fun u => Below w2.heap.size w2 u) (by kernel_rfl) (by kernel_rfl) (by repeat (first | refine loose_then ?_ | refine loose_block ?_ | exact loose_body (P := Try.prog) (fn := Try.f47))) ((Below.refl _ w2).drew) ?_
  refine mixI_take (.agg #[.int .u8 11, .string tt, .int .i64 (m : Int), .int .i64 aa, .slice p nk c, .bool d]) rfl rfl (fun u hu => by obtain ⟨k0, k1, k2, k3, k4, k5⟩ := BX2.out.below hu; go_simp) ?_
  refine mixI_take (.int .i64 (m : Int)) rfl rfl (fun u hu => by go_simp) ?_
  refine mixI_take (.int .i64 (nk : Int)) rfl rfl (fun u hu => by go_simp) ?_
  refine mixI_go rfl rfl fun K hK => wp_val (v := .slice (some ⟨w2.heap.size, 0, none⟩) 1 1) (w' := w2.drew.alloc (.cells #[.int .u8 28] 22)) (by go_simp) ?_
  refine hK.out _ _ (((Below.refl _ w2).drew).alloc (Nat.le_refl _) _) ?_
  clear hK
  refine mixI_go rfl rfl fun K hK => wp_go (f := 41) (args := #[.slice (some ⟨w2.heap.size, 0, none⟩) 1 1]) (by go_simp) ((of_any (l := [28]) (by decide) (kinds1 _)).mono ?_)
  rintro e wR ⟨vR, rfl, hvR, hb⟩
  have hbR : Below w2.heap.size w2 wR := (((Below.refl _ w2).drew).alloc (Nat.le_refl _) (.cells #[.int .u8 28] 22)).trans (hb.mono (by simp))
  refine hK.out _ _ hbR ?_
  clear hK
  show wpList _ _ _ _ _ _
  have HBR := Lib.hid (HB2.out.trans (hbR.mono HB2.out.size))
  have N3R := Lib.hid (N3.out _ _ HBR.out hvR)
  have BXR := Lib.hid (BX2.out.below hbR)
  clear hb hvR hbR
  go_wp2_with (go_at_call 40; go_must (with_reducible refine (N3R.out).mono ?_; rintro e w3 ⟨rfl, hb⟩; have HB3 := Lib.hid (HBR.out.trans (hb.mono HBR.out.size)); have BX3 := Lib.hid (BXR.out.below hb); clear hb; cases b3; (· simp only [okOr_false]; exact panic_post rfl ⟨rfl, HB3.out⟩); simp only [okOr_true]; obtain ⟨k0, k1, k2, k3, k4, k5⟩ := BX3.out))
  go_end0
  exact ⟨rfl, HB3.out⟩
set_option maxRecDepth 100000 in
set_option maxHeartbeats 4000000 in
theorem sides_11j {tt : ByteArray} {m : Nat} {aa : Int} {l : List Nd} {p : Option Addr} {c : Nat} {d : Bool} {w : World} (_hk : KidsV w p l) (hlen : l.length ≤ 1000000) (_ht : tt.size ≤ 1000000000) (ht0 : (tt.data.toList == []) = true) (h1 : 1 ≤ m) (h2 : m < l.length) (c1 : (l.length : Int) - (m : Int) = 1) (c2 : ¬ 1 < m) :
    Calls Try.prog 47 #[.agg (lookC (.mk 11 tt (m : Int) aa l) p c d)] w fun e w' => e = okOr (sidesB (.mk 11 tt (m : Int) aa l)) ∧ Below w.heap.size w w' := by
  rw [sides_eq_11j ht0 h1 h2 c1 c2]
  show Calls Try.prog 47 #[.agg #[.int .u8 11, .string tt, .int .i64 (m : Int), .int .i64 aa, .slice p l.length c, .bool d]] w fun e w' => e = okOr (areB l (fun k => [25].contains k) 0 m && areB l saidK m l.length) ∧ Below w.heap.size w w'
  generalize hnk2 : l.length = nk at *
  have q0 : tt.toList.isEmpty = true := by rw [ByteArray.toList_eq]; cases h : tt.data.toList <;> simp_all
  have q1 : (1 : Int) ≤ (m : Int) := by omega
  have q2 : (m : Int) < (nk : Int) := by omega
  have q3 : (0 : Int) ≤ (m : Int) := by omega
  have e1 : ((nk : Int) - (m : Int) == 1) = true := by simp; omega
  have e2 : decide ((1 : Int) < (m : Int)) = false := by simp; omega
  have e2' : ¬ (1 : Int) < (m : Int) := by omega
  have M1 : ∀ u, Below w.heap.size w u → Calls Try.prog 22 #[.slice (some ⟨u.heap.size, 0, none⟩) 3 3] (u.alloc (.cells #[.bool true, .bool true, .bool true] 4)) fun e w' => e = okOr (true && true && true) ∧ Below u.heap.size u w' := fun u _ => mustA3 true true true u
  have M2 : ∀ (u : World) (v : Value), Below w.heap.size w u → IsP u v (fun k => [25].contains k) → Calls Try.prog 40 #[.agg #[.int .u8 11, .string tt, .int .i64 (m : Int), .int .i64 aa, .slice p nk c, .bool d], .int .i64 (0), .int .i64 ((m : Int)), v] u fun e w' => e = okOr (areB l (fun k => [25].contains k) 0 m) ∧ Below u.heap.size u w' := by
    intro u v hu hv; subst hnk2; exact are_any (x := .mk 11 tt (m : Int) aa l) (fr := 0) (to := m) (KidsV.below hu _hk) hv (by first | exact Nat.le_refl _ | (show _ ≤ l.length; simp) | (show _ ≤ l.length; omega)) hlen (by omega)
  have M3 : ∀ (u : World), Below w.heap.size w u → Calls Try.prog 40 #[.agg #[.int .u8 11, .string tt, .int .i64 (m : Int), .int .i64 aa, .slice p nk c, .bool d], .int .i64 ((m : Int)), .int .i64 ((nk : Int)), (.func (.func 46) #[] #[])] u fun e w' => e = okOr (areB l saidK m nk) ∧ Below u.heap.size u w' := by
    intro u hu; subst hnk2; exact are_any (x := .mk 11 tt (m : Int) aa l) (fr := m) (to := l.length) (KidsV.below hu _hk) (isP_said u) (by first | exact Nat.le_refl _ | (show _ ≤ l.length; simp) | (show _ ≤ l.length; omega)) hlen (by omega)
  generalize (areB l (fun k => [25].contains k) 0 m) = b2 at *
  generalize (areB l saidK m nk) = b3 at *
  have N1 := Lib.hid M1; clear M1
  have N2 := Lib.hid M2; clear M2
  have N3 := Lib.hid M3; clear M3
  have HB0 : Hid (Below w.heap.size w (w.alloc (.cells #[.int .u8 11, .string tt, .int .i64 (m : Int), .int .i64 aa, .slice p nk c, .bool d] 42))) := Lib.hid ((Below.refl w.heap.size w).alloc (Nat.le_refl _) _)
  have BX0 : Hid (BoxAt (w.alloc (.cells #[.int .u8 11, .string tt, .int .i64 (m : Int), .int .i64 aa, .slice p nk c, .bool d] 42)) w.heap.size (.int .u8 11) (.string tt) (.int .i64 (m : Int)) (.int .i64 aa) (.slice p nk c) (.bool d)) := Lib.hid BoxAt.new
  have HNK := Lib.hid hnk2; clear hnk2 _hk _ht
  go_enter Try.func47, Try.ntmps47
  go_wp2_with fail
  go_region
  have hb0 := HB0.out.drew; have bx0 := BX0.out.below ((Below.refl _ _).drew)
  generalize (w.alloc (.cells #[.int .u8 11, .string tt, .int .i64 (m : Int), .int .i64 aa, .slice p nk c, .bool d] 42)).drew = w0 at *
  clear HB0 BX0
  have HB0 := Lib.hid hb0; have BX0 := Lib.hid bx0; clear hb0
  obtain ⟨k0, k1, k2, k3, k4, k5⟩ := bx0
  go_wp2_with (go_at_call 22; go_must (with_reducible refine (N1.out _ HB0.out).mono ?_; rintro e w1 ⟨rfl, hb⟩; have HB1 := Lib.hid (HB0.out.trans (hb.mono HB0.out.size)); have BX1 := Lib.hid (BX0.out.below hb); clear hb; simp only [okOr_true, Bool.and_self]; obtain ⟨k0, k1, k2, k3, k4, k5⟩ := BX1.out))
  clear k0 k1 k2 k3 k4 k5
  refine wp_region_mixI (l1 := [_, _, _, _]) (l2 := [_]) [(0, true), (1, true), (2, false), (3, false)] (fun u => Below w1.heap.size w1 u) (by kernel_rfl) (by kernel_rfl) (by repeat (first | refine loose_then ?_ | refine loose_block ?_ | exact loose_body (P := Try.prog) (fn := Try.f47))) ((Below.refl _ w1).drew) ?_
  refine mixI_take (.agg #[.int .u8 11, .string tt, .int .i64 (m : Int), .int .i64 aa, .slice p nk c, .bool d]) rfl rfl (fun u hu => by obtain ⟨k0, k1, k2, k3, k4, k5⟩ := BX1.out.below hu; go_simp) ?_
  refine mixI_take (.int .i64 (m : Int)) rfl rfl (fun u hu => by go_simp) ?_
  refine mixI_go rfl rfl fun K hK => wp_val (v := .slice (some ⟨w1.heap.size, 0, none⟩) 1 1) (w' := w1.drew.alloc (.cells #[.int .u8 25] 22)) (by go_simp) ?_
  refine hK.out _ _ (((Below.refl _ w1).drew).alloc (Nat.le_refl _) _) ?_
  clear hK
  refine mixI_go rfl rfl fun K hK => wp_go (f := 41) (args := #[.slice (some ⟨w1.heap.size, 0, none⟩) 1 1]) (by go_simp) ((of_any (l := [25]) (by decide) (kinds1 _)).mono ?_)
  rintro e wR ⟨vR, rfl, hvR, hb⟩
  have hbR : Below w1.heap.size w1 wR := (((Below.refl _ w1).drew).alloc (Nat.le_refl _) (.cells #[.int .u8 25] 22)).trans (hb.mono (by simp))
  refine hK.out _ _ hbR ?_
  clear hK
  show wpList _ _ _ _ _ _
  have HBR := Lib.hid (HB1.out.trans (hbR.mono HB1.out.size))
  have N2R := Lib.hid (N2.out _ _ HBR.out hvR)
  have BXR := Lib.hid (BX1.out.below hbR)
  clear hb hvR hbR
  go_wp2_with (go_at_call 40; first | (with_reducible refine (N2R.out).mono ?_; rintro e w2 ⟨rfl, hb⟩; have HB2 := Lib.hid (HBR.out.trans (hb.mono HBR.out.size)); have BX2 := Lib.hid (BXR.out.below hb); clear hb; cases b2; (· simp only [okOr_false]; exact panic_post rfl ⟨rfl, HB2.out⟩); simp only [okOr_true]; obtain ⟨k0, k1, k2, k3, k4, k5⟩ := BX2.out) | (with_reducible refine (N3.out _ HB2.out).mono ?_; rintro e w3 ⟨rfl, hb⟩; have HB3 := Lib.hid (HB2.out.trans (hb.mono HB2.out.size)); have BX3 := Lib.hid (BX2.out.below hb); clear hb; cases b3; (· simp only [okOr_false]; exact panic_post rfl ⟨rfl, HB3.out⟩); simp only [okOr_true]; obtain ⟨k0, k1, k2, k3, k4, k5⟩ := BX3.out))
  go_end0
  exact ⟨rfl, HB3.out⟩
set_option maxRecDepth 100000 in
set_option maxHeartbeats 4000000 in
theorem sides_11n {tt : ByteArray} {m : Nat} {aa : Int} {l : List Nd} {p : Option Addr} {c : Nat} {d : Bool} {w : World} (_hk : KidsV w p l) (hlen : l.length ≤ 1000000) (_ht : tt.size ≤ 1000000000) (ht0 : (tt.data.toList == []) = true) (h1 : 1 ≤ m) (h2 : m < l.length) (c1 : (l.length : Int) - (m : Int) ≠ 1) (c3 : (l.length : Int) - (m : Int) ≠ (m : Int)) :
    Calls Try.prog 47 #[.agg (lookC (.mk 11 tt (m : Int) aa l) p c d)] w fun e w' => e = okOr (sidesB (.mk 11 tt (m : Int) aa l)) ∧ Below w.heap.size w w' := by
  rw [sides_eq_11n ht0 h1 h2 c1 c3]
  show Calls Try.prog 47 #[.agg #[.int .u8 11, .string tt, .int .i64 (m : Int), .int .i64 aa, .slice p l.length c, .bool d]] w fun e w' => e = okOr (areB l (fun k => [25].contains k) 0 m && false) ∧ Below w.heap.size w w'
  generalize hnk2 : l.length = nk at *
  have q0 : tt.toList.isEmpty = true := by rw [ByteArray.toList_eq]; cases h : tt.data.toList <;> simp_all
  have q1 : (1 : Int) ≤ (m : Int) := by omega
  have q2 : (m : Int) < (nk : Int) := by omega
  have q3 : (0 : Int) ≤ (m : Int) := by omega
  have e1 : ((nk : Int) - (m : Int) == 1) = false := by simp; omega
  have e3 : ((nk : Int) - (m : Int) == (m : Int)) = false := by simp; omega
  have M1 : ∀ u, Below w.heap.size w u → Calls Try.prog 22 #[.slice (some ⟨u.heap.size, 0, none⟩) 3 3] (u.alloc (.cells #[.bool true, .bool true, .bool true] 4)) fun e w' => e = okOr (true && true && true) ∧ Below u.heap.size u w' := fun u _ => mustA3 true true true u
  have M2 : ∀ (u : World) (v : Value), Below w.heap.size w u → IsP u v (fun k => [25].contains k) → Calls Try.prog 40 #[.agg #[.int .u8 11, .string tt, .int .i64 (m : Int), .int .i64 aa, .slice p nk c, .bool d], .int .i64 (0), .int .i64 ((m : Int)), v] u fun e w' => e = okOr (areB l (fun k => [25].contains k) 0 m) ∧ Below u.heap.size u w' := by
    intro u v hu hv; subst hnk2; exact are_any (x := .mk 11 tt (m : Int) aa l) (fr := 0) (to := m) (KidsV.below hu _hk) hv (by first | exact Nat.le_refl _ | (show _ ≤ l.length; simp) | (show _ ≤ l.length; omega)) hlen (by omega)
  have M3 : ∀ u, Below w.heap.size w u → Calls Try.prog 22 #[.slice (some ⟨u.heap.size, 0, none⟩) 1 1] (u.alloc (.cells #[.bool false] 4)) fun e w' => e = okOr (false) ∧ Below u.heap.size u w' := fun u _ => mustA1 false u
  generalize (areB l (fun k => [25].contains k) 0 m) = b2 at *
  have N1 := Lib.hid M1; clear M1
  have N2 := Lib.hid M2; clear M2
  have N3 := Lib.hid M3; clear M3
  have HB0 : Hid (Below w.heap.size w (w.alloc (.cells #[.int .u8 11, .string tt, .int .i64 (m : Int), .int .i64 aa, .slice p nk c, .bool d] 42))) := Lib.hid ((Below.refl w.heap.size w).alloc (Nat.le_refl _) _)
  have BX0 : Hid (BoxAt (w.alloc (.cells #[.int .u8 11, .string tt, .int .i64 (m : Int), .int .i64 aa, .slice p nk c, .bool d] 42)) w.heap.size (.int .u8 11) (.string tt) (.int .i64 (m : Int)) (.int .i64 aa) (.slice p nk c) (.bool d)) := Lib.hid BoxAt.new
  have HNK := Lib.hid hnk2; clear hnk2 _hk _ht
  go_enter Try.func47, Try.ntmps47
  go_wp2_with fail
  go_region
  have hb0 := HB0.out.drew; have bx0 := BX0.out.below ((Below.refl _ _).drew)
  generalize (w.alloc (.cells #[.int .u8 11, .string tt, .int .i64 (m : Int), .int .i64 aa, .slice p nk c, .bool d] 42)).drew = w0 at *
  clear HB0 BX0
  have HB0 := Lib.hid hb0; have BX0 := Lib.hid bx0; clear hb0
  obtain ⟨k0, k1, k2, k3, k4, k5⟩ := bx0
  go_wp2_with (go_at_call 22; go_must (with_reducible refine (N1.out _ HB0.out).mono ?_; rintro e w1 ⟨rfl, hb⟩; have HB1 := Lib.hid (HB0.out.trans (hb.mono HB0.out.size)); have BX1 := Lib.hid (BX0.out.below hb); clear hb; simp only [okOr_true, Bool.and_self]; obtain ⟨k0, k1, k2, k3, k4, k5⟩ := BX1.out))
  clear k0 k1 k2 k3 k4 k5
  refine wp_region_mixI (l1 := [_, _, _, _]) (l2 := [_]) [(0, true), (1, true), (2, false), (3, false)] (fun u => Below w1.heap.size w1 u) (by kernel_rfl) (by kernel_rfl) (by repeat (first | refine loose_then ?_ | refine loose_block ?_ | exact loose_body (P := Try.prog) (fn := Try.f47))) ((Below.refl _ w1).drew) ?_
  refine mixI_take (.agg #[.int .u8 11, .string tt, .int .i64 (m : Int), .int .i64 aa, .slice p nk c, .bool d]) rfl rfl (fun u hu => by obtain ⟨k0, k1, k2, k3, k4, k5⟩ := BX1.out.below hu; go_simp) ?_
  refine mixI_take (.int .i64 (m : Int)) rfl rfl (fun u hu => by go_simp) ?_
  refine mixI_go rfl rfl fun K hK => wp_val (v := .slice (some ⟨w1.heap.size, 0, none⟩) 1 1) (w' := w1.drew.alloc (.cells #[.int .u8 25] 22)) (by go_simp) ?_
  refine hK.out _ _ (((Below.refl _ w1).drew).alloc (Nat.le_refl _) _) ?_
  clear hK
  refine mixI_go rfl rfl fun K hK => wp_go (f := 41) (args := #[.slice (some ⟨w1.heap.size, 0, none⟩) 1 1]) (by go_simp) ((of_any (l := [25]) (by decide) (kinds1 _)).mono ?_)
  rintro e wR ⟨vR, rfl, hvR, hb⟩
  have hbR : Below w1.heap.size w1 wR := (((Below.refl _ w1).drew).alloc (Nat.le_refl _) (.cells #[.int .u8 25] 22)).trans (hb.mono (by simp))
  refine hK.out _ _ hbR ?_
  clear hK
  show wpList _ _ _ _ _ _
  have HBR := Lib.hid (HB1.out.trans (hbR.mono HB1.out.size))
  have N2R := Lib.hid (N2.out _ _ HBR.out hvR)
  have BXR := Lib.hid (BX1.out.below hbR)
  clear hb hvR hbR
  go_wp2_with (first | (go_at_call 40; go_must (with_reducible refine (N2R.out).mono ?_; rintro e w2 ⟨rfl, hb⟩; have HB2 := Lib.hid (HBR.out.trans (hb.mono HBR.out.size)); have BX2 := Lib.hid (BXR.out.below hb); clear hb; cases b2; (· simp only [okOr_false]; exact panic_post rfl ⟨rfl, HB2.out⟩); simp only [okOr_true]; obtain ⟨k0, k1, k2, k3, k4, k5⟩ := BX2.out)) | (go_at_call 22; go_must (with_reducible refine (N3.out _ HB2.out).mono ?_; rintro e w3 ⟨rfl, hb⟩; have HB3 := Lib.hid (HB2.out.trans (hb.mono HB2.out.size)); clear hb; simp only [okOr_false]; exact panic_post rfl ⟨rfl, HB3.out⟩)))
set_option maxRecDepth 100000 in
set_option maxHeartbeats 4000000 in
theorem sides_12i {tt : ByteArray} {m : Nat} {aa : Int} {l : List Nd} {p : Option Addr} {c : Nat} {d : Bool} {w : World} (_hk : KidsV w p l) (hlen : l.length ≤ 1000000) (_ht : tt.size ≤ 1000000000) (hc : l.length ≤ c) (ht0 : (tt.data.toList == []) = true) (h1 : 1 ≤ m) (h2 : m < l.length) (c1 : (l.length : Int) - (m : Int) = 1) (c2 : 1 < m) :
    Calls Try.prog 47 #[.agg (lookC (.mk 12 tt (m : Int) aa l) p c d)] w fun e w' => e = okOr (sidesB (.mk 12 tt (m : Int) aa l)) ∧ Below w.heap.size w w' := by
  rw [sides_eq_12i ht0 h1 h2 c1 c2]
  show Calls Try.prog 47 #[.agg #[.int .u8 12, .string tt, .int .i64 (m : Int), .int .i64 aa, .slice p l.length c, .bool d]] w fun e w' => e = okOr ((l.take m).all placeN && areB l (fun k => [28].contains k) m l.length) ∧ Below w.heap.size w w'
  generalize hnk2 : l.length = nk at *
  have q0 : tt.toList.isEmpty = true := by rw [ByteArray.toList_eq]; cases h : tt.data.toList <;> simp_all
  have q1 : (1 : Int) ≤ (m : Int) := by omega
  have q2 : (m : Int) < (nk : Int) := by omega
  have q3 : (0 : Int) ≤ (m : Int) := by omega
  have q4 : m ≤ c := by omega
  have e1 : ((nk : Int) - (m : Int) == 1) = true := by simp; omega
  have e2 : decide ((1 : Int) < (m : Int)) = true := by simp; omega
  have e2' : (1 : Int) < (m : Int) := by omega
  have M1 : ∀ u, Below w.heap.size w u → Calls Try.prog 22 #[.slice (some ⟨u.heap.size, 0, none⟩) 3 3] (u.alloc (.cells #[.bool true, .bool true, .bool true] 4)) fun e w' => e = okOr (true && true && true) ∧ Below u.heap.size u w' := fun u _ => mustA3 true true true u
  generalize hE3 : (l.take m).all placeN = b3
  have M2 : ∀ u, Below w.heap.size w u → Calls Try.prog 57 #[.slice p m c, .func (.func 58) #[] #[]] u fun e w' => e = .returned (.bool !b3) ∧ Below u.heap.size u w' := by
    intro u hu; rw [← hE3]; subst hnk2; exact contains_place (KidsV.below hu _hk) (by omega) hlen
  have M3 : ∀ u, Below w.heap.size w u → Calls Try.prog 22 #[.slice (some ⟨u.heap.size, 0, none⟩) 1 1] (u.alloc (.cells #[.bool (b3)] 4)) fun e w' => e = okOr (b3) ∧ Below u.heap.size u w' := fun u _ => by rw [← hE3]; exact mustA1 ((l.take m).all placeN) u
  have HE3 := Lib.hid hE3; clear hE3
  have M4 : ∀ (u : World) (v : Value), Below w.heap.size w u → IsP u v (fun k => [28].contains k) → Calls Try.prog 40 #[.agg #[.int .u8 12, .string tt, .int .i64 (m : Int), .int .i64 aa, .slice p nk c, .bool d], .int .i64 ((m : Int)), .int .i64 ((nk : Int)), v] u fun e w' => e = okOr (areB l (fun k => [28].contains k) m nk) ∧ Below u.heap.size u w' := by
    intro u v hu hv; subst hnk2; exact are_any (x := .mk 12 tt (m : Int) aa l) (fr := m) (to := l.length) (KidsV.below hu _hk) hv (by first | exact Nat.le_refl _ | (show _ ≤ l.length; simp) | (show _ ≤ l.length; omega)) hlen (by omega)
  generalize (areB l (fun k => [28].contains k) m nk) = b4 at *
  have N1 := Lib.hid M1; clear M1
  have N2 := Lib.hid M2; clear M2
  have N3 := Lib.hid M3; clear M3
  have N4 := Lib.hid M4; clear M4
  have HB0 : Hid (Below w.heap.size w (w.alloc (.cells #[.int .u8 12, .string tt, .int .i64 (m : Int), .int .i64 aa, .slice p nk c, .bool d] 42))) := Lib.hid ((Below.refl w.heap.size w).alloc (Nat.le_refl _) _)
  have BX0 : Hid (BoxAt (w.alloc (.cells #[.int .u8 12, .string tt, .int .i64 (m : Int), .int .i64 aa, .slice p nk c, .bool d] 42)) w.heap.size (.int .u8 12) (.string tt) (.int .i64 (m : Int)) (.int .i64 aa) (.slice p nk c) (.bool d)) := Lib.hid BoxAt.new
  have HNK := Lib.hid hnk2; clear hnk2 _hk _ht
  go_enter Try.func47, Try.ntmps47
  go_wp2_with fail
  go_region
  have hb0 := HB0.out.drew; have bx0 := BX0.out.below ((Below.refl _ _).drew)
  generalize (w.alloc (.cells #[.int .u8 12, .string tt, .int .i64 (m : Int), .int .i64 aa, .slice p nk c, .bool d] 42)).drew = w0 at *
  clear HB0 BX0
  have HB0 := Lib.hid hb0; have BX0 := Lib.hid bx0; clear hb0
  obtain ⟨k0, k1, k2, k3, k4, k5⟩ := bx0
  go_wp2_with (first | (go_at_call 22; first | (with_reducible refine (N1.out _ HB0.out).mono ?_; rintro e w1 ⟨rfl, hb⟩; have HB1 := Lib.hid (HB0.out.trans (hb.mono HB0.out.size)); have BX1 := Lib.hid (BX0.out.below hb); clear hb; simp only [okOr_true, Bool.and_self]; obtain ⟨k0, k1, k2, k3, k4, k5⟩ := BX1.out) | (with_reducible refine (N3.out _ HB2.out).mono ?_; rintro e w3 ⟨rfl, hb⟩; have HB3 := Lib.hid (HB2.out.trans (hb.mono HB2.out.size)); have BX3 := Lib.hid (BX2.out.below hb); clear hb; cases b3; (· simp only [okOr_false]; exact panic_post rfl ⟨rfl, HB3.out⟩); simp only [okOr_true]; obtain ⟨k0, k1, k2, k3, k4, k5⟩ := BX3.out)) | (go_at_call 57; go_must (with_reducible refine (N2.out _ HB1.out).mono ?_; rintro e w2 ⟨rfl, hb⟩; have HB2 := Lib.hid (HB1.out.trans (hb.mono HB1.out.size)); have BX2 := Lib.hid (BX1.out.below hb); clear hb; obtain ⟨k0, k1, k2, k3, k4, k5⟩ := BX2.out)))
  clear k0 k1 k2 k3 k4 k5
  refine wp_region_mixI (l1 := [_, _, _, _, _]) (l2 := [_]) [(0, true), (1, true), (2, true), (3, false), (4, false)] (fun u => Below w3.heap.size w3 u) (by kernel_rfl) (by kernel_rfl) (by repeat (first | refine loose_then ?_ | refine loose_block ?_ | exact loose_body (P := Try.prog) (fn := Try.f47))) ((Below.refl _ w3).drew) ?_
  refine mixI_take (.agg #[.int .u8 12, .string tt, .int .i64 (m : Int), .int .i64 aa, .slice p nk c, .bool d]) rfl rfl (fun u hu => by obtain ⟨k0, k1, k2, k3, k4, k5⟩ := BX3.out.below hu; go_simp) ?_
  refine mixI_take (.int .i64 (m : Int)) rfl rfl (fun u hu => by go_simp) ?_
  refine mixI_take (.int .i64 (nk : Int)) rfl rfl (fun u hu => by go_simp) ?_
  refine mixI_go rfl rfl fun K hK => wp_val (v := .slice (some ⟨w3.heap.size, 0, none⟩) 1 1) (w' := w3.drew.alloc (.cells #[.int .u8 28] 22)) (by go_simp) ?_
  refine hK.out _ _ (((Below.refl _ w3).drew).alloc (Nat.le_refl _) _) ?_
  clear hK
  refine mixI_go rfl rfl fun K hK => wp_go (f := 41) (args := #[.slice (some ⟨w3.heap.size, 0, none⟩) 1 1]) (by go_simp) ((of_any (l := [28]) (by decide) (kinds1 _)).mono ?_)
  rintro e wR ⟨vR, rfl, hvR, hb⟩
  have hbR : Below w3.heap.size w3 wR := (((Below.refl _ w3).drew).alloc (Nat.le_refl _) (.cells #[.int .u8 28] 22)).trans (hb.mono (by simp))
  refine hK.out _ _ hbR ?_
  clear hK
  show wpList _ _ _ _ _ _
  have HBR := Lib.hid (HB3.out.trans (hbR.mono HB3.out.size))
  have N4R := Lib.hid (N4.out _ _ HBR.out hvR)
  have BXR := Lib.hid (BX3.out.below hbR)
  clear hb hvR hbR
  go_wp2_with (go_at_call 40; go_must (with_reducible refine (N4R.out).mono ?_; rintro e w4 ⟨rfl, hb⟩; have HB4 := Lib.hid (HBR.out.trans (hb.mono HBR.out.size)); have BX4 := Lib.hid (BXR.out.below hb); clear hb; cases b4; (· simp only [okOr_false]; exact panic_post rfl ⟨rfl, HB4.out⟩); simp only [okOr_true]; obtain ⟨k0, k1, k2, k3, k4, k5⟩ := BX4.out))
  go_end0
  exact ⟨rfl, HB4.out⟩
set_option maxRecDepth 100000 in
set_option maxHeartbeats 4000000 in
theorem sides_12j {tt : ByteArray} {m : Nat} {aa : Int} {l : List Nd} {p : Option Addr} {c : Nat} {d : Bool} {w : World} (_hk : KidsV w p l) (hlen : l.length ≤ 1000000) (_ht : tt.size ≤ 1000000000) (hc : l.length ≤ c) (ht0 : (tt.data.toList == []) = true) (h1 : 1 ≤ m) (h2 : m < l.length) (c1 : (l.length : Int) - (m : Int) = 1) (c2 : ¬ 1 < m) :
    Calls Try.prog 47 #[.agg (lookC (.mk 12 tt (m : Int) aa l) p c d)] w fun e w' => e = okOr (sidesB (.mk 12 tt (m : Int) aa l)) ∧ Below w.heap.size w w' := by
  rw [sides_eq_12j ht0 h1 h2 c1 c2]
  show Calls Try.prog 47 #[.agg #[.int .u8 12, .string tt, .int .i64 (m : Int), .int .i64 aa, .slice p l.length c, .bool d]] w fun e w' => e = okOr ((l.take m).all placeN && areB l saidK m l.length) ∧ Below w.heap.size w w'
  generalize hnk2 : l.length = nk at *
  have q0 : tt.toList.isEmpty = true := by rw [ByteArray.toList_eq]; cases h : tt.data.toList <;> simp_all
  have q1 : (1 : Int) ≤ (m : Int) := by omega
  have q2 : (m : Int) < (nk : Int) := by omega
  have q3 : (0 : Int) ≤ (m : Int) := by omega
  have q4 : m ≤ c := by omega
  have e1 : ((nk : Int) - (m : Int) == 1) = true := by simp; omega
  have e2 : decide ((1 : Int) < (m : Int)) = false := by simp; omega
  have e2' : ¬ (1 : Int) < (m : Int) := by omega
  have M1 : ∀ u, Below w.heap.size w u → Calls Try.prog 22 #[.slice (some ⟨u.heap.size, 0, none⟩) 3 3] (u.alloc (.cells #[.bool true, .bool true, .bool true] 4)) fun e w' => e = okOr (true && true && true) ∧ Below u.heap.size u w' := fun u _ => mustA3 true true true u
  generalize hE3 : (l.take m).all placeN = b3
  have M2 : ∀ u, Below w.heap.size w u → Calls Try.prog 57 #[.slice p m c, .func (.func 58) #[] #[]] u fun e w' => e = .returned (.bool !b3) ∧ Below u.heap.size u w' := by
    intro u hu; rw [← hE3]; subst hnk2; exact contains_place (KidsV.below hu _hk) (by omega) hlen
  have M3 : ∀ u, Below w.heap.size w u → Calls Try.prog 22 #[.slice (some ⟨u.heap.size, 0, none⟩) 1 1] (u.alloc (.cells #[.bool (b3)] 4)) fun e w' => e = okOr (b3) ∧ Below u.heap.size u w' := fun u _ => by rw [← hE3]; exact mustA1 ((l.take m).all placeN) u
  have HE3 := Lib.hid hE3; clear hE3
  have M4 : ∀ (u : World), Below w.heap.size w u → Calls Try.prog 40 #[.agg #[.int .u8 12, .string tt, .int .i64 (m : Int), .int .i64 aa, .slice p nk c, .bool d], .int .i64 ((m : Int)), .int .i64 ((nk : Int)), (.func (.func 46) #[] #[])] u fun e w' => e = okOr (areB l saidK m nk) ∧ Below u.heap.size u w' := by
    intro u hu; subst hnk2; exact are_any (x := .mk 12 tt (m : Int) aa l) (fr := m) (to := l.length) (KidsV.below hu _hk) (isP_said u) (by first | exact Nat.le_refl _ | (show _ ≤ l.length; simp) | (show _ ≤ l.length; omega)) hlen (by omega)
  generalize (areB l saidK m nk) = b4 at *
  have N1 := Lib.hid M1; clear M1
  have N2 := Lib.hid M2; clear M2
  have N3 := Lib.hid M3; clear M3
  have N4 := Lib.hid M4; clear M4
  have HB0 : Hid (Below w.heap.size w (w.alloc (.cells #[.int .u8 12, .string tt, .int .i64 (m : Int), .int .i64 aa, .slice p nk c, .bool d] 42))) := Lib.hid ((Below.refl w.heap.size w).alloc (Nat.le_refl _) _)
  have BX0 : Hid (BoxAt (w.alloc (.cells #[.int .u8 12, .string tt, .int .i64 (m : Int), .int .i64 aa, .slice p nk c, .bool d] 42)) w.heap.size (.int .u8 12) (.string tt) (.int .i64 (m : Int)) (.int .i64 aa) (.slice p nk c) (.bool d)) := Lib.hid BoxAt.new
  have HNK := Lib.hid hnk2; clear hnk2 _hk _ht
  go_enter Try.func47, Try.ntmps47
  go_wp2_with fail
  go_region
  have hb0 := HB0.out.drew; have bx0 := BX0.out.below ((Below.refl _ _).drew)
  generalize (w.alloc (.cells #[.int .u8 12, .string tt, .int .i64 (m : Int), .int .i64 aa, .slice p nk c, .bool d] 42)).drew = w0 at *
  clear HB0 BX0
  have HB0 := Lib.hid hb0; have BX0 := Lib.hid bx0; clear hb0
  obtain ⟨k0, k1, k2, k3, k4, k5⟩ := bx0
  go_wp2_with (first | (go_at_call 22; first | (with_reducible refine (N1.out _ HB0.out).mono ?_; rintro e w1 ⟨rfl, hb⟩; have HB1 := Lib.hid (HB0.out.trans (hb.mono HB0.out.size)); have BX1 := Lib.hid (BX0.out.below hb); clear hb; simp only [okOr_true, Bool.and_self]; obtain ⟨k0, k1, k2, k3, k4, k5⟩ := BX1.out) | (with_reducible refine (N3.out _ HB2.out).mono ?_; rintro e w3 ⟨rfl, hb⟩; have HB3 := Lib.hid (HB2.out.trans (hb.mono HB2.out.size)); have BX3 := Lib.hid (BX2.out.below hb); clear hb; cases b3; (· simp only [okOr_false]; exact panic_post rfl ⟨rfl, HB3.out⟩); simp only [okOr_true]; obtain ⟨k0, k1, k2, k3, k4, k5⟩ := BX3.out)) | (go_at_call 57; go_must (with_reducible refine (N2.out _ HB1.out).mono ?_; rintro e w2 ⟨rfl, hb⟩; have HB2 := Lib.hid (HB1.out.trans (hb.mono HB1.out.size)); have BX2 := Lib.hid (BX1.out.below hb); clear hb; obtain ⟨k0, k1, k2, k3, k4, k5⟩ := BX2.out)) | (go_at_call 40; go_must (with_reducible refine (N4.out _ HB3.out).mono ?_; rintro e w4 ⟨rfl, hb⟩; have HB4 := Lib.hid (HB3.out.trans (hb.mono HB3.out.size)); have BX4 := Lib.hid (BX3.out.below hb); clear hb; cases b4; (· simp only [okOr_false]; exact panic_post rfl ⟨rfl, HB4.out⟩); simp only [okOr_true]; obtain ⟨k0, k1, k2, k3, k4, k5⟩ := BX4.out)))
  go_end0
  exact ⟨rfl, HB4.out⟩
set_option maxRecDepth 100000 in
set_option maxHeartbeats 4000000 in
theorem sides_12n {tt : ByteArray} {m : Nat} {aa : Int} {l : List Nd} {p : Option Addr} {c : Nat} {d : Bool} {w : World} (_hk : KidsV w p l) (hlen : l.length ≤ 1000000) (_ht : tt.size ≤ 1000000000) (hc : l.length ≤ c) (ht0 : (tt.data.toList == []) = true) (h1 : 1 ≤ m) (h2 : m < l.length) (c1 : (l.length : Int) - (m : Int) ≠ 1) (c3 : (l.length : Int) - (m : Int) ≠ (m : Int)) :
    Calls Try.prog 47 #[.agg (lookC (.mk 12 tt (m : Int) aa l) p c d)] w fun e w' => e = okOr (sidesB (.mk 12 tt (m : Int) aa l)) ∧ Below w.heap.size w w' := by
  rw [sides_eq_12n ht0 h1 h2 c1 c3]
  show Calls Try.prog 47 #[.agg #[.int .u8 12, .string tt, .int .i64 (m : Int), .int .i64 aa, .slice p l.length c, .bool d]] w fun e w' => e = okOr ((l.take m).all placeN && false) ∧ Below w.heap.size w w'
  generalize hnk2 : l.length = nk at *
  have q0 : tt.toList.isEmpty = true := by rw [ByteArray.toList_eq]; cases h : tt.data.toList <;> simp_all
  have q1 : (1 : Int) ≤ (m : Int) := by omega
  have q2 : (m : Int) < (nk : Int) := by omega
  have q3 : (0 : Int) ≤ (m : Int) := by omega
  have q4 : m ≤ c := by omega
  have e1 : ((nk : Int) - (m : Int) == 1) = false := by simp; omega
  have e3 : ((nk : Int) - (m : Int) == (m : Int)) = false := by simp; omega
  have M1 : ∀ u, Below w.heap.size w u → Calls Try.prog 22 #[.slice (some ⟨u.heap.size, 0, none⟩) 3 3] (u.alloc (.cells #[.bool true, .bool true, .bool true] 4)) fun e w' => e = okOr (true && true && true) ∧ Below u.heap.size u w' := fun u _ => mustA3 true true true u
  generalize hE3 : (l.take m).all placeN = b3
  have M2 : ∀ u, Below w.heap.size w u → Calls Try.prog 57 #[.slice p m c, .func (.func 58) #[] #[]] u fun e w' => e = .returned (.bool !b3) ∧ Below u.heap.size u w' := by
    intro u hu; rw [← hE3]; subst hnk2; exact contains_place (KidsV.below hu _hk) (by omega) hlen
  have M3 : ∀ u, Below w.heap.size w u → Calls Try.prog 22 #[.slice (some ⟨u.heap.size, 0, none⟩) 1 1] (u.alloc (.cells #[.bool (b3)] 4)) fun e w' => e = okOr (b3) ∧ Below u.heap.size u w' := fun u _ => by rw [← hE3]; exact mustA1 ((l.take m).all placeN) u
  have HE3 := Lib.hid hE3; clear hE3
  have M4 : ∀ u, Below w.heap.size w u → Calls Try.prog 22 #[.slice (some ⟨u.heap.size, 0, none⟩) 1 1] (u.alloc (.cells #[.bool false] 4)) fun e w' => e = okOr (false) ∧ Below u.heap.size u w' := fun u _ => mustA1 false u
  have N1 := Lib.hid M1; clear M1
  have N2 := Lib.hid M2; clear M2
  have N3 := Lib.hid M3; clear M3
  have N4 := Lib.hid M4; clear M4
  have HB0 : Hid (Below w.heap.size w (w.alloc (.cells #[.int .u8 12, .string tt, .int .i64 (m : Int), .int .i64 aa, .slice p nk c, .bool d] 42))) := Lib.hid ((Below.refl w.heap.size w).alloc (Nat.le_refl _) _)
  have BX0 : Hid (BoxAt (w.alloc (.cells #[.int .u8 12, .string tt, .int .i64 (m : Int), .int .i64 aa, .slice p nk c, .bool d] 42)) w.heap.size (.int .u8 12) (.string tt) (.int .i64 (m : Int)) (.int .i64 aa) (.slice p nk c) (.bool d)) := Lib.hid BoxAt.new
  have HNK := Lib.hid hnk2; clear hnk2 _hk _ht
  go_enter Try.func47, Try.ntmps47
  go_wp2_with fail
  go_region
  have hb0 := HB0.out.drew; have bx0 := BX0.out.below ((Below.refl _ _).drew)
  generalize (w.alloc (.cells #[.int .u8 12, .string tt, .int .i64 (m : Int), .int .i64 aa, .slice p nk c, .bool d] 42)).drew = w0 at *
  clear HB0 BX0
  have HB0 := Lib.hid hb0; have BX0 := Lib.hid bx0; clear hb0
  obtain ⟨k0, k1, k2, k3, k4, k5⟩ := bx0
  go_wp2_with (first | (go_at_call 22; first | (with_reducible refine (N1.out _ HB0.out).mono ?_; rintro e w1 ⟨rfl, hb⟩; have HB1 := Lib.hid (HB0.out.trans (hb.mono HB0.out.size)); have BX1 := Lib.hid (BX0.out.below hb); clear hb; simp only [okOr_true, Bool.and_self]; obtain ⟨k0, k1, k2, k3, k4, k5⟩ := BX1.out) | (with_reducible refine (N3.out _ HB2.out).mono ?_; rintro e w3 ⟨rfl, hb⟩; have HB3 := Lib.hid (HB2.out.trans (hb.mono HB2.out.size)); have BX3 := Lib.hid (BX2.out.below hb); clear hb; cases b3; (· simp only [okOr_false]; exact panic_post rfl ⟨rfl, HB3.out⟩); simp only [okOr_true]; obtain ⟨k0, k1, k2, k3, k4, k5⟩ := BX3.out) | (with_reducible refine (N4.out _ HB3.out).mono ?_; rintro e w4 ⟨rfl, hb⟩; have HB4 := Lib.hid (HB3.out.trans (hb.mono HB3.out.size)); clear hb; simp only [okOr_false]; exact panic_post rfl ⟨rfl, HB4.out⟩)) | (go_at_call 57; go_must (with_reducible refine (N2.out _ HB1.out).mono ?_; rintro e w2 ⟨rfl, hb⟩; have HB2 := Lib.hid (HB1.out.trans (hb.mono HB1.out.size)); have BX2 := Lib.hid (BX1.out.below hb); clear hb; obtain ⟨k0, k1, k2, k3, k4, k5⟩ := BX2.out)))
set_option maxRecDepth 100000 in
set_option maxHeartbeats 4000000 in
theorem sides_11m {tt : ByteArray} {m : Nat} {aa : Int} {l : List Nd} {p : Option Addr} {c : Nat} {d : Bool} {w : World} (_hk : KidsV w p l) (hlen : l.length ≤ 1000000) (_ht : tt.size ≤ 1000000000) (ht0 : (tt.data.toList == []) = true) (h1 : 1 ≤ m) (h2 : m < l.length) (c1 : (l.length : Int) - (m : Int) ≠ 1) (c3 : (l.length : Int) - (m : Int) = (m : Int)) :
    Calls Try.prog 47 #[.agg (lookC (.mk 11 tt (m : Int) aa l) p c d)] w fun e w' => e = okOr (sidesB (.mk 11 tt (m : Int) aa l)) ∧ Below w.heap.size w w' := by
  rw [sides_eq_11m ht0 h1 h2 c1 c3]
  show Calls Try.prog 47 #[.agg #[.int .u8 11, .string tt, .int .i64 (m : Int), .int .i64 aa, .slice p l.length c, .bool d]] w fun e w' => e = okOr (areB l (fun k => [25].contains k) 0 m && false) ∧ Below w.heap.size w w'
  generalize hnk2 : l.length = nk at *
  have q0 : tt.toList.isEmpty = true := by rw [ByteArray.toList_eq]; cases h : tt.data.toList <;> simp_all
  have q1 : (1 : Int) ≤ (m : Int) := by omega
  have q2 : (m : Int) < (nk : Int) := by omega
  have q3 : (0 : Int) ≤ (m : Int) := by omega
  have e1 : ((nk : Int) - (m : Int) == 1) = false := by simp; omega
  have e3 : ((nk : Int) - (m : Int) == (m : Int)) = true := by simp; omega
  have M1 : ∀ u, Below w.heap.size w u → Calls Try.prog 22 #[.slice (some ⟨u.heap.size, 0, none⟩) 3 3] (u.alloc (.cells #[.bool true, .bool true, .bool true] 4)) fun e w' => e = okOr (true && true && true) ∧ Below u.heap.size u w' := fun u _ => mustA3 true true true u
  have M2 : ∀ (u : World) (v : Value), Below w.heap.size w u → IsP u v (fun k => [25].contains k) → Calls Try.prog 40 #[.agg #[.int .u8 11, .string tt, .int .i64 (m : Int), .int .i64 aa, .slice p nk c, .bool d], .int .i64 (0), .int .i64 ((m : Int)), v] u fun e w' => e = okOr (areB l (fun k => [25].contains k) 0 m) ∧ Below u.heap.size u w' := by
    intro u v hu hv; subst hnk2; exact are_any (x := .mk 11 tt (m : Int) aa l) (fr := 0) (to := m) (KidsV.below hu _hk) hv (by first | exact Nat.le_refl _ | (show _ ≤ l.length; simp) | (show _ ≤ l.length; omega)) hlen (by omega)
  have M3 : ∀ u, Below w.heap.size w u → Calls Try.prog 22 #[.slice (some ⟨u.heap.size, 0, none⟩) 1 1] (u.alloc (.cells #[.bool false] 4)) fun e w' => e = okOr (false) ∧ Below u.heap.size u w' := fun u _ => mustA1 false u
  generalize (areB l (fun k => [25].contains k) 0 m) = b2 at *
  have N1 := Lib.hid M1; clear M1
  have N2 := Lib.hid M2; clear M2
  have N3 := Lib.hid M3; clear M3
  have HB0 : Hid (Below w.heap.size w (w.alloc (.cells #[.int .u8 11, .string tt, .int .i64 (m : Int), .int .i64 aa, .slice p nk c, .bool d] 42))) := Lib.hid ((Below.refl w.heap.size w).alloc (Nat.le_refl _) _)
  have BX0 : Hid (BoxAt (w.alloc (.cells #[.int .u8 11, .string tt, .int .i64 (m : Int), .int .i64 aa, .slice p nk c, .bool d] 42)) w.heap.size (.int .u8 11) (.string tt) (.int .i64 (m : Int)) (.int .i64 aa) (.slice p nk c) (.bool d)) := Lib.hid BoxAt.new
  have HNK := Lib.hid hnk2; clear hnk2 _hk _ht
  go_enter Try.func47, Try.ntmps47
  go_wp2_with fail
  go_region
  have hb0 := HB0.out.drew; have bx0 := BX0.out.below ((Below.refl _ _).drew)
  generalize (w.alloc (.cells #[.int .u8 11, .string tt, .int .i64 (m : Int), .int .i64 aa, .slice p nk c, .bool d] 42)).drew = w0 at *
  clear HB0 BX0
  have HB0 := Lib.hid hb0; have BX0 := Lib.hid bx0; clear hb0
  obtain ⟨k0, k1, k2, k3, k4, k5⟩ := bx0
  go_wp2_with (go_at_call 22; go_must (with_reducible refine (N1.out _ HB0.out).mono ?_; rintro e w1 ⟨rfl, hb⟩; have HB1 := Lib.hid (HB0.out.trans (hb.mono HB0.out.size)); have BX1 := Lib.hid (BX0.out.below hb); clear hb; simp only [okOr_true, Bool.and_self]; obtain ⟨k0, k1, k2, k3, k4, k5⟩ := BX1.out))
  clear k0 k1 k2 k3 k4 k5
  refine wp_region_mixI (l1 := [_, _, _, _]) (l2 := [_]) [(0, true), (1, true), (2, false), (3, false)] (fun u => Below w1.heap.size w1 u) (by kernel_rfl) (by kernel_rfl) (by repeat (first | refine loose_then ?_ | refine loose_block ?_ | exact loose_body (P := Try.prog) (fn := Try.f47))) ((Below.refl _ w1).drew) ?_
  refine mixI_take (.agg #[.int .u8 11, .string tt, .int .i64 (m : Int), .int .i64 aa, .slice p nk c, .bool d]) rfl rfl (fun u hu => by obtain ⟨k0, k1, k2, k3, k4, k5⟩ := BX1.out.below hu; go_simp) ?_
  refine mixI_take (.int .i64 (m : Int)) rfl rfl (fun u hu => by go_simp) ?_
  refine mixI_go rfl rfl fun K hK => wp_val (v := .slice (some ⟨w1.heap.size, 0, none⟩) 1 1) (w' := w1.drew.alloc (.cells #[.int .u8 25] 22)) (by go_simp) ?_
  refine hK.out _ _ (((Below.refl _ w1).drew).alloc (Nat.le_refl _) _) ?_
  clear hK
  refine mixI_go rfl rfl fun K hK => wp_go (f := 41) (args := #[.slice (some ⟨w1.heap.size, 0, none⟩) 1 1]) (by go_simp) ((of_any (l := [25]) (by decide) (kinds1 _)).mono ?_)
  rintro e wR ⟨vR, rfl, hvR, hb⟩
  have hbR : Below w1.heap.size w1 wR := (((Below.refl _ w1).drew).alloc (Nat.le_refl _) (.cells #[.int .u8 25] 22)).trans (hb.mono (by simp))
  refine hK.out _ _ hbR ?_
  clear hK
  show wpList _ _ _ _ _ _
  have HBR := Lib.hid (HB1.out.trans (hbR.mono HB1.out.size))
  have N2R := Lib.hid (N2.out _ _ HBR.out hvR)
  have BXR := Lib.hid (BX1.out.below hbR)
  clear hb hvR hbR
  go_wp2_with (first | (go_at_call 40; go_must (with_reducible refine (N2R.out).mono ?_; rintro e w2 ⟨rfl, hb⟩; have HB2 := Lib.hid (HBR.out.trans (hb.mono HBR.out.size)); have BX2 := Lib.hid (BXR.out.below hb); clear hb; cases b2; (· simp only [okOr_false]; exact panic_post rfl ⟨rfl, HB2.out⟩); simp only [okOr_true]; obtain ⟨k0, k1, k2, k3, k4, k5⟩ := BX2.out)) | (go_at_call 22; go_must (with_reducible refine (N3.out _ HB2.out).mono ?_; rintro e w3 ⟨rfl, hb⟩; have HB3 := Lib.hid (HB2.out.trans (hb.mono HB2.out.size)); clear hb; simp only [okOr_false]; exact panic_post rfl ⟨rfl, HB3.out⟩)))
set_option maxRecDepth 100000 in
set_option maxHeartbeats 4000000 in
theorem sides_12m {tt : ByteArray} {m : Nat} {aa : Int} {l : List Nd} {p : Option Addr} {c : Nat} {d : Bool} {w : World} (_hk : KidsV w p l) (hlen : l.length ≤ 1000000) (_ht : tt.size ≤ 1000000000) (hc : l.length ≤ c) (ht0 : (tt.data.toList == []) = true) (h1 : 1 ≤ m) (h2 : m < l.length) (c1 : (l.length : Int) - (m : Int) ≠ 1) (c3 : (l.length : Int) - (m : Int) = (m : Int)) :
    Calls Try.prog 47 #[.agg (lookC (.mk 12 tt (m : Int) aa l) p c d)] w fun e w' => e = okOr (sidesB (.mk 12 tt (m : Int) aa l)) ∧ Below w.heap.size w w' := by
  rw [sides_eq_12m ht0 h1 h2 c1 c3]
  show Calls Try.prog 47 #[.agg #[.int .u8 12, .string tt, .int .i64 (m : Int), .int .i64 aa, .slice p l.length c, .bool d]] w fun e w' => e = okOr ((l.take m).all placeN && areB l saidK m l.length) ∧ Below w.heap.size w w'
  generalize hnk2 : l.length = nk at *
  have q0 : tt.toList.isEmpty = true := by rw [ByteArray.toList_eq]; cases h : tt.data.toList <;> simp_all
  have q1 : (1 : Int) ≤ (m : Int) := by omega
  have q2 : (m : Int) < (nk : Int) := by omega
  have q3 : (0 : Int) ≤ (m : Int) := by omega
  have q4 : m ≤ c := by omega
  have e1 : ((nk : Int) - (m : Int) == 1) = false := by simp; omega
  have e3 : ((nk : Int) - (m : Int) == (m : Int)) = true := by simp; omega
  have M1 : ∀ u, Below w.heap.size w u → Calls Try.prog 22 #[.slice (some ⟨u.heap.size, 0, none⟩) 3 3] (u.alloc (.cells #[.bool true, .bool true, .bool true] 4)) fun e w' => e = okOr (true && true && true) ∧ Below u.heap.size u w' := fun u _ => mustA3 true true true u
  generalize hE3 : (l.take m).all placeN = b3
  have M2 : ∀ u, Below w.heap.size w u → Calls Try.prog 57 #[.slice p m c, .func (.func 58) #[] #[]] u fun e w' => e = .returned (.bool !b3) ∧ Below u.heap.size u w' := by
    intro u hu; rw [← hE3]; subst hnk2; exact contains_place (KidsV.below hu _hk) (by omega) hlen
  have M3 : ∀ u, Below w.heap.size w u → Calls Try.prog 22 #[.slice (some ⟨u.heap.size, 0, none⟩) 1 1] (u.alloc (.cells #[.bool (b3)] 4)) fun e w' => e = okOr (b3) ∧ Below u.heap.size u w' := fun u _ => by rw [← hE3]; exact mustA1 ((l.take m).all placeN) u
  have HE3 := Lib.hid hE3; clear hE3
  have M4 : ∀ (u : World), Below w.heap.size w u → Calls Try.prog 40 #[.agg #[.int .u8 12, .string tt, .int .i64 (m : Int), .int .i64 aa, .slice p nk c, .bool d], .int .i64 ((m : Int)), .int .i64 ((nk : Int)), (.func (.func 46) #[] #[])] u fun e w' => e = okOr (areB l saidK m nk) ∧ Below u.heap.size u w' := by
    intro u hu; subst hnk2; exact are_any (x := .mk 12 tt (m : Int) aa l) (fr := m) (to := l.length) (KidsV.below hu _hk) (isP_said u) (by first | exact Nat.le_refl _ | (show _ ≤ l.length; simp) | (show _ ≤ l.length; omega)) hlen (by omega)
  generalize (areB l saidK m nk) = b4 at *
  have N1 := Lib.hid M1; clear M1
  have N2 := Lib.hid M2; clear M2
  have N3 := Lib.hid M3; clear M3
  have N4 := Lib.hid M4; clear M4
  have HB0 : Hid (Below w.heap.size w (w.alloc (.cells #[.int .u8 12, .string tt, .int .i64 (m : Int), .int .i64 aa, .slice p nk c, .bool d] 42))) := Lib.hid ((Below.refl w.heap.size w).alloc (Nat.le_refl _) _)
  have BX0 : Hid (BoxAt (w.alloc (.cells #[.int .u8 12, .string tt, .int .i64 (m : Int), .int .i64 aa, .slice p nk c, .bool d] 42)) w.heap.size (.int .u8 12) (.string tt) (.int .i64 (m : Int)) (.int .i64 aa) (.slice p nk c) (.bool d)) := Lib.hid BoxAt.new
  have HNK := Lib.hid hnk2; clear hnk2 _hk _ht
  go_enter Try.func47, Try.ntmps47
  go_wp2_with fail
  go_region
  have hb0 := HB0.out.drew; have bx0 := BX0.out.below ((Below.refl _ _).drew)
  generalize (w.alloc (.cells #[.int .u8 12, .string tt, .int .i64 (m : Int), .int .i64 aa, .slice p nk c, .bool d] 42)).drew = w0 at *
  clear HB0 BX0
  have HB0 := Lib.hid hb0; have BX0 := Lib.hid bx0; clear hb0
  obtain ⟨k0, k1, k2, k3, k4, k5⟩ := bx0
  go_wp2_with (first | (go_at_call 22; first | (with_reducible refine (N1.out _ HB0.out).mono ?_; rintro e w1 ⟨rfl, hb⟩; have HB1 := Lib.hid (HB0.out.trans (hb.mono HB0.out.size)); have BX1 := Lib.hid (BX0.out.below hb); clear hb; simp only [okOr_true, Bool.and_self]; obtain ⟨k0, k1, k2, k3, k4, k5⟩ := BX1.out) | (with_reducible refine (N3.out _ HB2.out).mono ?_; rintro e w3 ⟨rfl, hb⟩; have HB3 := Lib.hid (HB2.out.trans (hb.mono HB2.out.size)); have BX3 := Lib.hid (BX2.out.below hb); clear hb; cases b3; (· simp only [okOr_false]; exact panic_post rfl ⟨rfl, HB3.out⟩); simp only [okOr_true]; obtain ⟨k0, k1, k2, k3, k4, k5⟩ := BX3.out)) | (go_at_call 57; go_must (with_reducible refine (N2.out _ HB1.out).mono ?_; rintro e w2 ⟨rfl, hb⟩; have HB2 := Lib.hid (HB1.out.trans (hb.mono HB1.out.size)); have BX2 := Lib.hid (BX1.out.below hb); clear hb; obtain ⟨k0, k1, k2, k3, k4, k5⟩ := BX2.out)) | (go_at_call 40; go_must (with_reducible refine (N4.out _ HB3.out).mono ?_; rintro e w4 ⟨rfl, hb⟩; have HB4 := Lib.hid (HB3.out.trans (hb.mono HB3.out.size)); have BX4 := Lib.hid (BX3.out.below hb); clear hb; cases b4; (· simp only [okOr_false]; exact panic_post rfl ⟨rfl, HB4.out⟩); simp only [okOr_true]; obtain ⟨k0, k1, k2, k3, k4, k5⟩ := BX4.out)))
  go_end0
  exact ⟨rfl, HB4.out⟩
set_option maxRecDepth 100000 in
set_option maxHeartbeats 4000000 in
theorem sides_bad {x : Nd} {p : Option Addr} {c : Nat} {d : Bool} {w : World} (hv : (x.text.data.toList == [] && decide (1 ≤ x.num) && decide (x.num < x.kids.length)) = false) :
    Calls Try.prog 47 #[.agg (lookC x p c d)] w fun e w' => e = okOr false ∧ Below w.heap.size w w' := by
  unfold lookC
  have h1 : (x.text.data.toList == []) = x.text.toList.isEmpty := by rw [ByteArray.toList_eq]; cases x.text.data.toList <;> rfl
  rw [h1] at hv; clear h1
  generalize hnk : x.kids.length = nk at *
  generalize x.kids = l at *
  generalize x.kind = kk at *
  generalize x.at_ = aa at *
  generalize x.num = nn at *
  generalize x.text = tt at *
  have hb := ((Below.refl w.heap.size w).alloc (Nat.le_refl _) (.cells #[.int .u8 (kk : Int), .string tt, .int .i64 nn, .int .i64 aa, .slice p nk c, .bool d] 42)).alloc (by simp) (.cells #[.bool tt.toList.isEmpty, .bool (decide (1 ≤ nn)), .bool (decide (nn < (nk : Int)))] 4)
  have HB := Lib.hid hb
  have HV := Lib.hid hv; clear hb hv hnk
  go_enter Try.func47, Try.ntmps47
  go_wp2_with fail
  go_region
  go_wp2_with (go_at_call 22; refine (must_three (a := tt.toList.isEmpty) (b := decide (1 ≤ nn)) (d := decide (nn < (nk : Int))) (by go_simp) (by go_simp) (by go_simp)).mono ?_; rintro e w1 ⟨rfl, rfl⟩; rw [HV.out]; unfold okOr; simp only [Bool.false_eq_true, if_false])
  exact ⟨rfl, rfl, HB.out.drew⟩
theorem sides_any {k : Nat} (hkd : k = 11 ∨ k = 12) {tt : ByteArray} {nn aa : Int} {l : List Nd} {p : Option Addr} {c : Nat} {d : Bool} {w : World} (hk : KidsV w p l) (hlen : l.length ≤ 1000000) (ht : tt.size ≤ 1000000000) (hc : l.length ≤ c) :
    Calls Try.prog 47 #[.agg (lookC (.mk k tt nn aa l) p c d)] w fun e w' => e = okOr (sidesB (.mk k tt nn aa l)) ∧ Below w.heap.size w w' := by
  cases hv : (tt.data.toList == [] && decide (1 ≤ nn) && decide (nn < (l.length : Int)))
  · have hs : sidesB (.mk k tt nn aa l) = false := by
      unfold sidesB
      show ((tt.data.toList == [] && decide (1 ≤ nn) && decide (nn < (l.length : Int))) && _ && _) = false
      rw [hv]; rfl
    rw [hs]
    exact sides_bad hv
  · simp only [Bool.and_eq_true, decide_eq_true_eq] at hv
    obtain ⟨⟨h0, h1⟩, h2⟩ := hv
    obtain ⟨m, rfl⟩ := Int.eq_ofNat_of_zero_le (show 0 ≤ nn by omega)
    have h1' : 1 ≤ m := by omega
    have h2' : m < l.length := by omega
    rcases hkd with rfl | rfl
    · by_cases c1 : (l.length : Int) - (m : Int) = 1
      · by_cases c2 : 1 < m
        · exact sides_11i hk hlen ht h0 h1' h2' c1 c2
        · exact sides_11j hk hlen ht h0 h1' h2' c1 c2
      · by_cases c3 : (l.length : Int) - (m : Int) = (m : Int)
        · exact sides_11m hk hlen ht h0 h1' h2' c1 c3
        · exact sides_11n hk hlen ht h0 h1' h2' c1 c3
    · by_cases c1 : (l.length : Int) - (m : Int) = 1
      · by_cases c2 : 1 < m
        · exact sides_12i hk hlen ht hc h0 h1' h2' c1 c2
        · exact sides_12j hk hlen ht hc h0 h1' h2' c1 c2
      · by_cases c3 : (l.length : Int) - (m : Int) = (m : Int)
        · exact sides_12m hk hlen ht hc h0 h1' h2' c1 c3
        · exact sides_12n hk hlen ht hc h0 h1' h2' c1 c3
end Go.Proofs.Ytkjpdhnibfhaaaa.NodeN
