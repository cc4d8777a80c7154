/- The chapter's examples, walked. -/
import Derived.Test.YtkgginkdhggpgaaGreatDoorNumH
namespace Go.Proofs.YtkgginkdhggpgaaGreatDoor.NumI
open Go.RowKit Go.Proofs.YtkgginkdhggpgaaGreatDoor.Flo Go.Proofs.YtkgginkdhggpgaaGreatDoor.NumA Go.Proofs.YtkgginkdhggpgaaGreatDoor.NumB Go.Proofs.YtkgginkdhggpgaaGreatDoor.NumC Go.Proofs.YtkgginkdhggpgaaGreatDoor.NumD Go.Proofs.YtkgginkdhggpgaaGreatDoor.NumE Go.Proofs.YtkgginkdhggpgaaGreatDoor.NumF Go.Proofs.YtkgginkdhggpgaaGreatDoor.NumG Go.Proofs.YtkgginkdhggpgaaGreatDoor.NumH

theorem two_false (w : World) : Calls Tryz.prog 87 #[.bool false] w fun e w' => e = .returned (.int .u64 0) ∧ w' = w := by
  go_enter Tryz.func87, Tryz.ntmps87
  go_wp2
  go_ret
  exact ⟨rfl, rfl⟩
set_option maxRecDepth 100000 in
set_option maxHeartbeats 2000000 in
theorem atof_ex {w : World} (hg : Gn w) : Calls Tryz.prog 69 #[.string { data := #[48, 46, 49] }] w fun e w' => e = .returned (.tuple #[.float .f64 4591870180066957722, .int .i64 3, .nilIface]) ∧ w' = w := by
  have HG := Lib.hid hg
  have h2 := hg.opt
  clear hg
  go_enter Tryz.func69, Tryz.ntmps69
  go_wp2_with (first | (go_at_call 78; refine (special_ex _).mono ?_; rintro e w1 ⟨rfl, rfl⟩) | (go_at_call 79; refine (read_ex _).mono ?_; rintro e w1 ⟨rfl, rfl⟩) | (go_at_call 87; refine (two_false _).mono ?_; rintro e w1 ⟨rfl, rfl⟩) | (go_at_call 89; refine (exact_ex HG.out).mono ?_; rintro e w1 ⟨rfl, rfl⟩))
  refine bodyPost_ret (by simp [results, Tryz.results69, go_sem]; rfl) rfl ?_
  exact ⟨rfl, rfl⟩
theorem prefix_ex {w : World} (hg : Gn w) : Calls Tryz.prog 55 #[.string { data := #[48, 46, 49] }, .int .i64 64] w fun e w' => e = .returned (.tuple #[.float .f64 4591870180066957722, .int .i64 3, .nilIface]) ∧ w' = w := by
  have HG := Lib.hid hg
  clear hg
  go_enter Tryz.func55, Tryz.ntmps55
  go_wp2_with (go_at_call 69; refine (atof_ex HG.out).mono ?_; rintro e w1 ⟨rfl, rfl⟩)
  refine bodyPost_ret (by simp [results, Tryz.results55, go_sem]; rfl) rfl ?_
  exact ⟨rfl, rfl⟩
theorem parse1_ex {w : World} (hg : Gn w) : Calls Tryz.prog 45 #[.string { data := #[48, 46, 49] }, .int .i64 64] w fun e w' => e = .returned (.tuple #[.float .f64 4591870180066957722, .nilIface]) ∧ w' = w := by
  have HG := Lib.hid hg
  clear hg
  go_enter Tryz.func45, Tryz.ntmps45
  go_wp2_with (go_at_call 55; refine (prefix_ex HG.out).mono ?_; rintro e w1 ⟨rfl, rfl⟩)
  refine bodyPost_ret (by simp [results, Tryz.results45, go_sem]; rfl) rfl ?_
  exact ⟨rfl, rfl⟩
theorem parse_ex {w : World} (hg : Gn w) : Calls Tryz.prog 41 #[.string { data := #[48, 46, 49] }, .int .i64 64] w fun e w' => e = .returned (.tuple #[.float .f64 4591870180066957722, .nilIface]) ∧ w' = w := by
  have HG := Lib.hid hg
  clear hg
  go_enter Tryz.func41, Tryz.ntmps41
  go_wp2_with (go_at_call 45; refine (parse1_ex HG.out).mono ?_; rintro e w1 ⟨rfl, rfl⟩)
  refine bodyPost_ret (by simp [results, Tryz.results41, go_sem]; rfl) rfl ?_
  exact ⟨rfl, rfl⟩
theorem cut_ex {w : World} (hg : Gn w) : Calls Tryz.prog 38 #[.string { data := #[48, 46, 49] }, .string { data := #[46] }] w fun e w' => e = .returned (.tuple #[.string { data := #[48] }, .string { data := #[49] }, .bool true]) ∧ ∃ n, w' = w.drewN n := by
  obtain ⟨m, hm⟩ := hg.m
  exact Tryz.strings_Cut { data := #[48, 46, 49] } { data := #[46] } m w (by decide) hm
set_option maxRecDepth 100000 in
set_option maxHeartbeats 2000000 in
theorem readf_ex {w : World} (hg : Gn w) : Calls Tryz.prog 19 #[.string { data := #[48, 46, 49] }] w fun e w' => e = .returned (.tuple #[.int .u64 4591870180066957722, .bool true]) ∧ Below w.heap.size w w' := by
  have HG := Lib.hid hg
  have HC := Lib.hid (cut_ex hg)
  clear hg
  have htb : ∀ w, (callFunc 24 #[.float .f64 4591870180066957722]).run Tryz.prog w = .ok (.value (.int .u64 4591870180066957722)) w := to_bits 4591870180066957722
  have HF := Lib.hid (fun w => first_one (x := 48) (by kernel_rfl) w)
  have HR := Lib.hid (fun w => row_one (x := 49) (by kernel_rfl) w)
  go_enter Tryz.func19, Tryz.ntmps19
  go_wp2_with (first | (go_at_call 38; refine HC.out.mono ?_; rintro e w1 ⟨rfl, n, rfl⟩) | (go_at_call 39; refine (HF.out _).mono ?_; rintro e w2 ⟨rfl, hb2⟩) | (go_at_call 40; refine (HR.out _).mono ?_; rintro e w3 ⟨rfl, hb3⟩; have hb4 := (((Below.refl w.heap.size w).drewN n).trans hb2).trans (hb3.mono hb2.size); have HG3 := Lib.hid (HG.out.below hb4)) | (go_at_call 41; refine (parse_ex HG3.out).mono ?_; rintro e w1 ⟨rfl, rfl⟩))
  refine bodyPost_ret (by simp [results, Tryz.results19, go_sem]; rfl) rfl ?_
  exact ⟨rfl, hb4⟩
theorem int_at {op : ByteArray} {a b x y : Int} (h : intR op.toList a b = (x, y)) (w : World) : Calls Tryz.prog 15 #[.string op, .int .i64 a, .int .i64 b] w fun e w' => e = .returned (.tuple #[.int .i64 x, .int .i64 y]) ∧ Below w.heap.size w w' := by
  have := int_any op a b w
  rw [h] at this
  exact this
theorem float_at {op : ByteArray} {a b x : Nat} {y : Int} (h : floatR op.toList a b = (x, y)) (w : World) : Calls Tryz.prog 8 #[.string op, .int .u64 (a : Int), .int .u64 (b : Int)] w fun e w' => e = .returned (.tuple #[.int .u64 (x : Int), .int .i64 y]) ∧ Below w.heap.size w w' := by
  have := float_any op a b w
  rw [h] at this
  exact this
theorem float_is_at {op : ByteArray} {a b : Nat} {x : Bool} {y : Int} (h : fisR op.toList a b = (x, y)) (w : World) : Calls Tryz.prog 10 #[.string op, .int .u64 (a : Int), .int .u64 (b : Int)] w fun e w' => e = .returned (.tuple #[.bool x, .int .i64 y]) ∧ w' = w := by
  have := float_is op a b w
  rw [h] at this
  exact this
theorem list47 : ({ data := #[47] } : ByteArray).toList = [47] := by rw [ByteArray.toList_eq]
theorem list37 : ({ data := #[37] } : ByteArray).toList = [37] := by rw [ByteArray.toList_eq]
theorem list61 : ({ data := #[61, 61] } : ByteArray).toList = [61, 61] := by rw [ByteArray.toList_eq]
set_option maxRecDepth 100000 in
set_option maxHeartbeats 2000000 in
/-- THE EXAMPLES -/
theorem awake_any {w : World} (hg : Gn w) : Calls Tryz.prog 7 #[] w fun e w' => e = .returned (.bool true) ∧ Below w.heap.size w w' := by
  have HG := Lib.hid hg
  clear hg
  have HA := Lib.hid (fun w => int_at (op := { data := #[47] }) (a := -7) (b := 2) (x := -3) (y := 0) (by rw [list47]; unfold intR wrap64; decide) w)
  have HB := Lib.hid (fun w => int_at (op := { data := #[37] }) (a := 1) (b := 0) (x := 0) (y := 201) (by rw [list37]; rfl) w)
  have HC := Lib.hid (fun w => float_at (op := { data := #[47] }) (a := 4607182418800017408) (b := 9223372036854775808) (x := 18442240474082181120) (y := 0) (by rw [list47]; decide +kernel) w)
  have HD := Lib.hid (fun w => float_is_at (op := { data := #[61, 61] }) (a := 0) (b := 9223372036854775808) (x := true) (y := 0) (by rw [list61]; decide +kernel) w)
  go_enter Tryz.func7, Tryz.ntmps7
  go_wp2_with (first | (go_at_call 15; first | (with_reducible refine (HA.out _).mono ?_; rintro e w1 ⟨rfl, hb1⟩) | (with_reducible refine (HB.out _).mono ?_; rintro e w2 ⟨rfl, hb2⟩)) | (go_at_call 8; refine (HC.out _).mono ?_; rintro e w3 ⟨rfl, hb3⟩; have hb4 := (hb1.trans (hb2.mono hb1.size)).trans (hb3.mono (Nat.le_trans hb1.size hb2.size)); have HG3 := Lib.hid (HG.out.below hb4)) | (go_at_call 19; refine (readf_ex HG3.out).mono ?_; rintro e w4 ⟨rfl, hb5⟩; have hb6 := hb4.trans (hb5.mono hb4.size)) | (go_at_call 10; refine (HD.out _).mono ?_; rintro e w5 ⟨rfl, rfl⟩))
  go_ret
  exact ⟨rfl, hb6⟩
end Go.Proofs.YtkgginkdhggpgaaGreatDoor.NumI
