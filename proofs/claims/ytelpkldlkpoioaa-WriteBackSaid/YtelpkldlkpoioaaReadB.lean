/- The reader of grammars' texts: tokens that must be there; names, walked. (Printed by read_a.py.) -/
import Derived.Test.YtelpkldlkpoioaaReadA
namespace Go.Proofs.Ytelpkldlkpoioaa.ReadB
open Go.RowKit Go.Proofs.Ytelpkldlkpoioaa.Lexy Go.Proofs.Ytelpkldlkpoioaa.LexA Go.Proofs.Ytelpkldlkpoioaa.LexB Go.Proofs.Ytelpkldlkpoioaa.LexC Go.Proofs.Ytelpkldlkpoioaa.LexD Go.Proofs.Ytelpkldlkpoioaa.LexE Go.Proofs.Ytelpkldlkpoioaa.LexF Go.Proofs.Ytelpkldlkpoioaa.LexG Go.Proofs.Ytelpkldlkpoioaa.Heap Go.Proofs.Ytelpkldlkpoioaa.Dat Go.Proofs.Ytelpkldlkpoioaa.Ready Go.Proofs.Ytelpkldlkpoioaa.ReadA

set_option maxRecDepth 100000 in
set_option maxHeartbeats 2000000 in
theorem must_kind_f {w : World} {b g c : Nat} {T : List Tok} {k kind : Nat} (h : Rr w b g c T k) (hk : k < T.length) (hT : T.length ≤ 1000000) (hv : isK T k kind = false) {kz : Int} (hz : kz = (kind : Int)) :
    Calls Try.prog 37 #[.pointer (some ⟨b, 0, none⟩), .int .u8 kz, .slice none 0 0] w fun e w' => e = .panicked (thrownF 102 ((tok T k).at_ : Int)) ∧ Below w.heap.size w w' := by
  subst hz
  obtain ⟨kd, hkd⟩ : ∃ x, (tok T k).kind = x := ⟨_, rfl⟩
  obtain ⟨tx, htx⟩ : ∃ x, bs (tok T k).text = x := ⟨_, rfl⟩
  obtain ⟨pa, hpa⟩ : ∃ x, (tok T k).at_ = x := ⟨_, rfl⟩
  have hn := Lib.hid (next_is h hk hT hkd htx hpa)
  have HPA := Lib.hid hpa
  have HR := Lib.hid h; have HV := Lib.hid hv
  clear h hkd htx hpa hv
  go_enter Try.func37, Try.ntmps37
  go_wp2_with (first | (go_at_call 59; go_must ((with_reducible refine (hn.out).mono ?_)); rintro e w1 ⟨rfl, hb1⟩; have hbx := hb1.alloc hb1.size (.cells #[.int .u8 (kd : Int), .string tx, .int .i64 (pa : Int)] 31); have hR1 := Lib.hid (HR.out.new hbx); have hcell := heap_alloc_new w1 (.cells #[.int .u8 (kd : Int), .string tx, .int .i64 (pa : Int)] 31); have hbz := HR.out.bl; have hsz := hb1.size) | (go_at_call 62; go_must ((with_reducible refine (take_kind_f hR1.out hk hT HV.out rfl).mono ?_)); rintro e w2 ⟨rfl, hb2⟩; have hR2 := Lib.hid (hR1.out.new hb2); have hb3 := hbx.trans (hb2.mono hbx.size)) | (go_at_call 63; go_must (refine (throw_any hR2.out hk hT).mono ?_); rintro e w3 ⟨rfl, hb4⟩))
  exact ⟨rfl, rfl, hb3.trans (hb4.mono hb3.size)⟩
set_option maxRecDepth 100000 in
set_option maxHeartbeats 2000000 in
theorem must_one_t {w : World} {b g c gt cp : Nat} {T : List Tok} {k kind : Nat} {t : List UInt8} (h : Rr w b g c T k) (hk : k < T.length) (hT : T.length ≤ 1000000) (hc : w.cell? ⟨gt, 0, none⟩ = some (.string (bs t))) (hv : isT T k kind t = true) {kz : Int} (hz : kz = (kind : Int)) :
    Calls Try.prog 37 #[.pointer (some ⟨b, 0, none⟩), .int .u8 kz, .slice (some ⟨gt, 0, none⟩) 1 cp] w fun e w' => e = .returned (.string (bs (tok T k).text)) ∧ w.grownBy w' (some b) ∧ Rr w' b g c T (k + 1) := by
  subst hz
  obtain ⟨kd, hkd⟩ : ∃ x, (tok T k).kind = x := ⟨_, rfl⟩
  obtain ⟨tx, htx⟩ : ∃ x, bs (tok T k).text = x := ⟨_, rfl⟩
  obtain ⟨pa, hpa⟩ : ∃ x, (tok T k).at_ = x := ⟨_, rfl⟩
  have hn := Lib.hid (next_is h hk hT hkd htx hpa)
  rw [htx]
  have HR := Lib.hid h; have HV := Lib.hid hv; have hgt := World.block_lt_of_cell? _ _ hc; have HC := Lib.hid hc
  clear h hkd htx hpa hv hc
  go_enter Try.func37, Try.ntmps37
  go_wp2_with (first | (go_at_call 59; go_must ((with_reducible refine (hn.out).mono ?_)); rintro e w1 ⟨rfl, hb1⟩; have hbx := hb1.alloc hb1.size (.cells #[.int .u8 (kd : Int), .string tx, .int .i64 (pa : Int)] 31); have hR1 := Lib.hid (HR.out.new hbx); have hcell := heap_alloc_new w1 (.cells #[.int .u8 (kd : Int), .string tx, .int .i64 (pa : Int)] 31); have hbz := HR.out.bl; have hsz := hb1.size; have hcc := ((hbx.cell (p := ⟨gt, 0, none⟩) hgt).trans HC.out)) | (go_at_call 62; go_must ((with_reducible refine (take_one_t (cp := cp) hR1.out hk hT hcc HV.out rfl).mono ?_)); rintro e w2 ⟨rfl, hg2, hR2⟩; have hcell2 := (hg2.block _ (by simp) (by simp; omega)).trans hcell; have d1 := cell_of_row w2 _ 1 _ _ _ hcell2))
  go_ret
  exact ⟨rfl, kept_b hbx hg2, hR2⟩
set_option maxRecDepth 100000 in
set_option maxHeartbeats 2000000 in
theorem must_one_f {w : World} {b g c gt cp : Nat} {T : List Tok} {k kind : Nat} {t : List UInt8} (h : Rr w b g c T k) (hk : k < T.length) (hT : T.length ≤ 1000000) (hc : w.cell? ⟨gt, 0, none⟩ = some (.string (bs t))) (hv : isT T k kind t = false) {kz : Int} (hz : kz = (kind : Int)) :
    Calls Try.prog 37 #[.pointer (some ⟨b, 0, none⟩), .int .u8 kz, .slice (some ⟨gt, 0, none⟩) 1 cp] w fun e w' => e = .panicked (thrownF 102 ((tok T k).at_ : Int)) ∧ Below w.heap.size w w' := by
  subst hz
  obtain ⟨kd, hkd⟩ : ∃ x, (tok T k).kind = x := ⟨_, rfl⟩
  obtain ⟨tx, htx⟩ : ∃ x, bs (tok T k).text = x := ⟨_, rfl⟩
  obtain ⟨pa, hpa⟩ : ∃ x, (tok T k).at_ = x := ⟨_, rfl⟩
  have hn := Lib.hid (next_is h hk hT hkd htx hpa)
  have HPA := Lib.hid hpa
  have HR := Lib.hid h; have HV := Lib.hid hv; have hgt := World.block_lt_of_cell? _ _ hc; have HC := Lib.hid hc
  clear h hkd htx hpa hv hc
  go_enter Try.func37, Try.ntmps37
  go_wp2_with (first | (go_at_call 59; go_must ((with_reducible refine (hn.out).mono ?_)); rintro e w1 ⟨rfl, hb1⟩; have hbx := hb1.alloc hb1.size (.cells #[.int .u8 (kd : Int), .string tx, .int .i64 (pa : Int)] 31); have hR1 := Lib.hid (HR.out.new hbx); have hcell := heap_alloc_new w1 (.cells #[.int .u8 (kd : Int), .string tx, .int .i64 (pa : Int)] 31); have hbz := HR.out.bl; have hsz := hb1.size; have hcc := ((hbx.cell (p := ⟨gt, 0, none⟩) hgt).trans HC.out)) | (go_at_call 62; go_must ((with_reducible refine (take_one_f (cp := cp) hR1.out hk hT hcc HV.out rfl).mono ?_)); rintro e w2 ⟨rfl, hb2⟩; have hR2 := Lib.hid (hR1.out.new hb2); have hb3 := hbx.trans (hb2.mono hbx.size)) | (go_at_call 63; go_must (refine (throw_any hR2.out hk hT).mono ?_); rintro e w3 ⟨rfl, hb4⟩))
  exact ⟨rfl, rfl, hb3.trans (hb4.mono hb3.size)⟩
/-! names -/
theorem name_t {w : World} {b g c : Nat} {T : List Tok} {k : Nat} (h : Rr w b g c T k) (hk : k < T.length) (hT : T.length ≤ 1000000) (hv : isK T k 2 = true) :
    Calls Try.prog 61 #[.pointer (some ⟨b, 0, none⟩)] w fun e w' => e = .returned (.string (bs (tok T k).text)) ∧ w.grownBy w' (some b) ∧ Rr w' b g c T (k + 1) := by
  obtain ⟨tx, htx⟩ : ∃ x, bs (tok T k).text = x := ⟨_, rfl⟩
  have hm := must_kind_t (kz := 2) h hk hT hv rfl
  rw [htx] at hm ⊢
  have HM := Lib.hid hm
  clear htx hm hv h
  go_enter Try.func61, Try.ntmps61
  go_wp2_with (go_at_call 37; go_must ((with_reducible refine (HM.out).mono ?_)); rintro e w1 ⟨rfl, hg1, hR1⟩)
  go_ret
  exact ⟨rfl, hg1, hR1⟩
theorem name_f {w : World} {b g c : Nat} {T : List Tok} {k : Nat} (h : Rr w b g c T k) (hk : k < T.length) (hT : T.length ≤ 1000000) (hv : isK T k 2 = false) :
    Calls Try.prog 61 #[.pointer (some ⟨b, 0, none⟩)] w fun e w' => e = .panicked (thrownF 102 ((tok T k).at_ : Int)) ∧ Below w.heap.size w w' := by
  have HM := Lib.hid (must_kind_f (kz := 2) h hk hT hv rfl)
  clear hv h
  go_enter Try.func61, Try.ntmps61
  go_wp2_with (go_at_call 37; go_must ((with_reducible refine (HM.out).mono ?_)); rintro e w1 ⟨rfl, hb1⟩)
  exact ⟨rfl, rfl, hb1⟩
end Go.Proofs.Ytelpkldlkpoioaa.ReadB
