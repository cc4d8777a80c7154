/- gristmillkit.KeptNode at what LentNode told: true. -/
import Derived.Test.YtkjpdhnibfhaaaaKitD
namespace Go.Proofs.Ytkjpdhnibfhaaaa.KitE
open Go Go.RowKit Go.Proofs.Ytkjpdhnibfhaaaa.Nodey Go.Proofs.Ytkjpdhnibfhaaaa.NodeA Go.Proofs.Ytkjpdhnibfhaaaa.NodeB Go.Proofs.Ytkjpdhnibfhaaaa.NodeF Go.Proofs.Ytkjpdhnibfhaaaa.NodeI Go.Proofs.Ytkjpdhnibfhaaaa.NodeK Go.Proofs.Ytkjpdhnibfhaaaa.NodeS Go.Proofs.Ytkjpdhnibfhaaaa.NodeT Go.Proofs.Ytkjpdhnibfhaaaa.NodeU Go.Proofs.Ytkjpdhnibfhaaaa.Cut Go.Proofs.Ytkjpdhnibfhaaaa.KitB Go.Proofs.Ytkjpdhnibfhaaaa.KitC Go.Proofs.Ytkjpdhnibfhaaaa.KitD
set_option maxRecDepth 100000 in
set_option maxHeartbeats 4000000 in
theorem kept_step {k : Nat} {t : ByteArray} {n a : Int} {l : List Nd} (ih : ∀ y ∈ l, KeptOK y) : KeptOK (.mk k t n a l) := by
  intro B g p c w hr hv
  have HS := Lib.hid (fun u (hu : Below w.heap.size w u) => show Calls Try.prog 20 #[.agg #[.int .u8 (k : Int), .string t, .int .i64 n, .int .i64 a, .slice (some ⟨g, 0, none⟩) l.length (l.length + 12)], .agg #[.int .u8 (k : Int), .string t, .int .i64 n, .int .i64 a, .slice p l.length c]] u fun e w' => e = .returned (.bool true) ∧ Below u.heap.size u w' from by have := all_any (.mk k t n a l) (.mk k t n a l) (some ⟨g, 0, none⟩) (l.length + 12) p c u ((LentV.ready (x := .mk k t n a l) hv hr.len hr.text).below hu) (hr.below hu); rw [allN_refl] at this; exact this)
  have HK := Lib.hid (fun u (hu : Below w.heap.size w u) => kepts_any (c2 := c) ih (show LentV u B g l from LentV.below hv hu) (KidsV.below hu hr.kids) (show l.length ≤ 1000000 from hr.len))
  show Calls Try.prog 15 #[.agg #[.int .u8 (k : Int), .string t, .int .i64 n, .int .i64 a, .slice (some ⟨g, 0, none⟩) l.length (l.length + 12)], .agg #[.int .u8 (k : Int), .string t, .int .i64 n, .int .i64 a, .slice p l.length c]] w fun e w' => e = .returned (.bool true) ∧ Below w.heap.size w w'
  clear hr hv ih
  generalize l.length = nk at *
  generalize (k : Int) = k0 at *
  have HB := Lib.hid (((Below.refl w.heap.size w).alloc (Nat.le_refl _) (.cells #[.int .u8 k0, .string t, .int .i64 n, .int .i64 a, .slice (some ⟨g, 0, none⟩) nk (nk + 12)] 25)).alloc (by simp) (.cells #[.int .u8 k0, .string t, .int .i64 n, .int .i64 a, .slice p nk c] 25))
  have HA := Lib.hid ((Box5.new (w := w) (v0 := .int .u8 k0) (v1 := .string t) (v2 := .int .i64 n) (v3 := .int .i64 a) (v4 := .slice (some ⟨g, 0, none⟩) nk (nk + 12)) (T := 25)).below ((Below.refl _ _).alloc (Nat.le_refl _) (.cells #[.int .u8 k0, .string t, .int .i64 n, .int .i64 a, .slice p nk c] 25)))
  have HA2 := Lib.hid (Box5.new (w := w.alloc (.cells #[.int .u8 k0, .string t, .int .i64 n, .int .i64 a, .slice (some ⟨g, 0, none⟩) nk (nk + 12)] 25)) (v0 := .int .u8 k0) (v1 := .string t) (v2 := .int .i64 n) (v3 := .int .i64 a) (v4 := .slice p nk c) (T := 25))
  rw [show (w.alloc (.cells #[.int .u8 k0, .string t, .int .i64 n, .int .i64 a, .slice (some ⟨g, 0, none⟩) nk (nk + 12)] 25)).heap.size = w.heap.size + 1 by simp] at HA2
  go_enter Try.func15, Try.ntmps15
  go_upto_region 1 with fail
  generalize ((w.alloc (.cells #[.int .u8 k0, .string t, .int .i64 n, .int .i64 a, .slice (some ⟨g, 0, none⟩) nk (nk + 12)] 25)).alloc (.cells #[.int .u8 k0, .string t, .int .i64 n, .int .i64 a, .slice p nk c] 25)) = W at *
  obtain ⟨a0, a1, a2, a3, a4⟩ := HA.out
  obtain ⟨b0, b1, b2, b3, b4⟩ := HA2.out
  go_wp2_with (first
    | (go_at_call 20; go_must (refine (HS.out _ HB.out).mono ?_; rintro e w2 ⟨rfl, hb⟩; clear a0 a1 a2 a3 a4 b0 b1 b2 b3 b4; obtain ⟨a0, a1, a2, a3, a4⟩ := HA.out.below hb; obtain ⟨b0, b1, b2, b3, b4⟩ := HA2.out.below hb; have HB2 := Lib.hid (HB.out.trans (hb.mono HB.out.size)); clear hb))
    | (go_at_call 28; go_must (refine (HK.out _ HB2.out).mono ?_; rintro e w3 ⟨rfl, hb⟩; have HB3 := Lib.hid (HB2.out.trans (hb.mono HB2.out.size)); clear hb)))
  go_ret
  exact ⟨rfl, HB3.out⟩
theorem kept_any : ∀ x : Nd, KeptOK x
  | .mk k t n a l => kept_step fun y _hy => kept_any y
  termination_by x => SizeOf.sizeOf x
  decreasing_by have := List.sizeOf_lt_of_mem _hy; simp; omega
end Go.Proofs.Ytkjpdhnibfhaaaa.KitE
