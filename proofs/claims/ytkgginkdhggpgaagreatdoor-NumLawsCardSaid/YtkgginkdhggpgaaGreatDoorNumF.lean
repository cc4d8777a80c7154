/- Floats' operators, walked: the document's and the program's. (Printed by num_f.py.) -/
import Derived.Test.YtkgginkdhggpgaaGreatDoorNumE
import Derived.Laws.NewFold
namespace Go.Proofs.YtkgginkdhggpgaaGreatDoor.NumF
open Go.RowKit Go.Proofs.YtkgginkdhggpgaaGreatDoor.Flo Go.Proofs.YtkgginkdhggpgaaGreatDoor.NumA Go.Proofs.YtkgginkdhggpgaaGreatDoor.NumB Go.Proofs.YtkgginkdhggpgaaGreatDoor.NumC Go.Proofs.YtkgginkdhggpgaaGreatDoor.NumD Go.Proofs.YtkgginkdhggpgaaGreatDoor.NumE

/-- what an operation tells, all NaNs one -/
def resR : Option Nat → Nat
  | none => oneNaN
  | some r => plainR r
def floatR (op : List UInt8) (x y : Nat) : Nat × Int :=
  if op = [43] then (resR (D.add x y), 0) else if op = [45] then (resR (D.sub x y), 0) else if op = [42] then (resR (D.mul x y), 0) else if op = [47] then (resR (D.div x y), 0) else (0, 2)
theorem isN_cut (x y t : Nat) : isN (Question.cut (.nanBits .f64 x y) t) = true ∧ Question.cut (.nanBits .f64 x y) t < 18446744073709551616 := by
  show isN ((t % 2) * 2 ^ 63 + 0x7ff0000000000000 + 1 + (t / 2) % (2 ^ 52 - 1)) = true ∧ (t % 2) * 2 ^ 63 + 0x7ff0000000000000 + 1 + (t / 2) % (2 ^ 52 - 1) < 18446744073709551616
  have h1 : t % 2 = 0 ∨ t % 2 = 1 := by omega
  have h2 : t / 2 % (2 ^ 52 - 1) < 4503599627370495 := Nat.mod_lt _ (by decide)
  generalize t / 2 % (2 ^ 52 - 1) = q at *
  unfold isN rg
  rcases h1 with h1 | h1 <;> rw [h1] <;> simp <;> omega
def ansS (o : Option Nat) (x y : Nat) : Sem Value := match o with
  | some r => pure (.float .f64 r)
  | none => do pure (.float .f64 (← choose (.nanBits .f64 x y)))
/-- an answer, or some NaN -/
def Ans (o : Option Nat) (P : Program) (w : World) (s : Sem Value) : Prop := ∃ r n, s.run P w = .ok (.float .f64 r) (w.drewN n) ∧ plainR r = resR o ∧ r < 18446744073709551616
theorem ans_of {o : Option Nat} {x y : Nat} {P : Program} {w : World} (hlt : ∀ r, o = some r → r < 18446744073709551616) :
    Ans o P w (ansS o x y) := by
  cases o with
  | some r => exact ⟨r, 0, rfl, rfl, hlt r rfl⟩
  | none =>
    have h := isN_cut x y (w.tape w.drawn (.nanBits .f64 x y))
    refine ⟨_, 1, ?_, ?_, h.2⟩
    · unfold ansS
      simp only [Sem.run_bind, run_choose_drew]
      rw [if_neg (by show ¬ Question.forced (.nanBits .f64 x y) = true; simp [Question.forced])]
      rfl
    · unfold plainR; rw [if_pos h.1]; rfl
theorem run_add (t : TypeId) (x y : Nat) (P : Program) (w : World) : Ans (D.add x y) P w (binOp .add t (.float .f64 x) (.float .f64 y)) := by
  have e : binOp .add t (.float .f64 x) (.float .f64 y) = ansS (D.add x y) x y := by
    unfold ansS
    simp only [binOp, Op.floatArith, ne_eq, not_true_eq_false, if_false, pure_bind]
    rfl
  rw [e]
  exact ans_of (fun r hr => res_lt (o := (D.read x).sum (D.read y)) hr)
theorem run_sub (t : TypeId) (x y : Nat) (P : Program) (w : World) : Ans (D.sub x y) P w (binOp .sub t (.float .f64 x) (.float .f64 y)) := by
  have e : binOp .sub t (.float .f64 x) (.float .f64 y) = ansS (D.sub x y) x y := by
    unfold ansS
    simp only [binOp, Op.floatArith, ne_eq, not_true_eq_false, if_false, pure_bind]
    rfl
  rw [e]
  exact ans_of (fun r hr => res_lt (o := (D.read x).sum (D.read y).opposite) hr)
theorem run_mul (t : TypeId) (x y : Nat) (P : Program) (w : World) : Ans (D.mul x y) P w (binOp .mul t (.float .f64 x) (.float .f64 y)) := by
  have e : binOp .mul t (.float .f64 x) (.float .f64 y) = ansS (D.mul x y) x y := by
    unfold ansS
    simp only [binOp, Op.floatArith, ne_eq, not_true_eq_false, if_false, pure_bind]
    rfl
  rw [e]
  exact ans_of (fun r hr => res_lt (o := (D.read x).product (D.read y)) hr)
theorem run_div (t : TypeId) (x y : Nat) (P : Program) (w : World) : Ans (D.div x y) P w (binOp .quo t (.float .f64 x) (.float .f64 y)) := by
  have e : binOp .quo t (.float .f64 x) (.float .f64 y) = ansS (D.div x y) x y := by
    unfold ansS
    simp only [binOp, Op.floatArith, ne_eq, not_true_eq_false, if_false, pure_bind]
    rfl
  rw [e]
  exact ans_of (fun r hr => res_lt (o := (D.read x).quotient (D.fractionBits + 2) (D.read y)) hr)
def DoesF (f : FuncId) (o : Option Nat) (x y : Nat) : Prop := ∀ w, Calls Tryz.prog f #[.float .f64 x, .float .f64 y] w fun e w' => ∃ r n, e = .returned (.float .f64 r) ∧ w' = w.drewN n ∧ plainR r = resR o ∧ r < 18446744073709551616
theorem dof_add (x y : Nat) : DoesF 20 (D.add x y) x y := by
  intro w
  obtain ⟨r, n, h1, h2, h3⟩ := run_add 42 x y Tryz.prog w
  go_enter Tryz.func20, Tryz.ntmps20
  go_wp2
  go_ret
  exact ⟨r, n, rfl, rfl, h2, h3⟩
theorem dof_sub (x y : Nat) : DoesF 21 (D.sub x y) x y := by
  intro w
  obtain ⟨r, n, h1, h2, h3⟩ := run_sub 42 x y Tryz.prog w
  go_enter Tryz.func21, Tryz.ntmps21
  go_wp2
  go_ret
  exact ⟨r, n, rfl, rfl, h2, h3⟩
theorem dof_mul (x y : Nat) : DoesF 22 (D.mul x y) x y := by
  intro w
  obtain ⟨r, n, h1, h2, h3⟩ := run_mul 42 x y Tryz.prog w
  go_enter Tryz.func22, Tryz.ntmps22
  go_wp2
  go_ret
  exact ⟨r, n, rfl, rfl, h2, h3⟩
theorem dof_div (x y : Nat) : DoesF 23 (D.div x y) x y := by
  intro w
  obtain ⟨r, n, h1, h2, h3⟩ := run_div 42 x y Tryz.prog w
  go_enter Tryz.func23, Tryz.ntmps23
  go_wp2
  go_ret
  exact ⟨r, n, rfl, rfl, h2, h3⟩
def entsF : Array MapEntry := #[{ key := .string { data := #[43] }, val := .func (.func 20) #[] #[], born := 0 }, { key := .string { data := #[45] }, val := .func (.func 21) #[] #[], born := 1 }, { key := .string { data := #[42] }, val := .func (.func 22) #[] #[], born := 2 }, { key := .string { data := #[47] }, val := .func (.func 23) #[] #[], born := 3 }]
set_option maxRecDepth 100000 in
set_option maxHeartbeats 2000000 in
theorem float_hit {op : ByteArray} {f : FuncId} {o : Option Nat} {x y : Nat} {w : World} {i : Nat} (hf : Instr.findNow .string (.string op) entsF.toList 0 = some (some (i, .func (.func f) #[] #[]))) (hd : DoesF f o x y) (hcf : ∀ (args : Array Value) (w : World), (callFunc f args).run Tryz.prog w = .ok (.enter f args) w) :
    Calls Tryz.prog 8 #[.string op, .int .u64 (x : Int), .int .u64 (y : Int)] w fun e w' => e = .returned (.tuple #[.int .u64 (resR o : Nat), .int .i64 0]) ∧ Below w.heap.size w w' := by
  have HF := Lib.hid hf; clear hf
  have hmm := @run_makeMap Tryz.prog
  have hfb := from_bits; have htb := to_bits
  have hM : (w.alloc (.map #[] 0)).heap[w.heap.size]? = some (.map #[] 0) := heap_alloc_new w _
  have hb0 : Below w.heap.size w (w.alloc (.map #[] 0)) := (Below.refl w.heap.size w).alloc (Nat.le_refl _) _
  have HM := Lib.hid hM; have HB0 := Lib.hid hb0; clear hM hb0
  go_enter Tryz.func8, Tryz.ntmps8
  go_wp2_with fail
  generalize w.alloc (.map #[] 0) = W0 at *
  obtain ⟨w1, e1, M1, B1⟩ := map_put (w := W0) Tryz.underlying43 Tryz.underlying9 HM.out { data := #[43] } (.func (.func 20) #[] #[]) (by rfl)
  rw [e1]
  go_wp2_with fail
  obtain ⟨w2, e2, M2, B2⟩ := map_put (w := w1) Tryz.underlying43 Tryz.underlying9 M1 { data := #[45] } (.func (.func 21) #[] #[]) (by rfl)
  rw [e2]
  go_wp2_with fail
  obtain ⟨w3, e3, M3, B3⟩ := map_put (w := w2) Tryz.underlying43 Tryz.underlying9 M2 { data := #[42] } (.func (.func 22) #[] #[]) (by rfl)
  rw [e3]
  go_wp2_with fail
  obtain ⟨w4, e4, M4, B4⟩ := map_put (w := w3) Tryz.underlying43 Tryz.underlying9 M3 { data := #[47] } (.func (.func 23) #[] #[]) (by rfl)
  rw [e4]
  go_wp2_with fail
  have M := Lib.hid M4
  have hbw : Below w.heap.size w w4 := HB0.out.trans (((B1.trans B2).trans B3).trans B4)
  clear e1 e2 e3 e4 M1 M2 M3 M4 B1 B2 B3 B4 HM HB0
  rw [map_hit (w := w4) Tryz.underlying43 Tryz.underlying9 M.out op HF.out]
  go_wp2_with fail
  refine (hd _).mono ?_
  rintro e w5 ⟨r, n, rfl, rfl, h1, h2⟩
  go_wp2_with (go_at_call 12; refine (plain_any r _).mono ?_; rintro e w6 ⟨rfl, rfl⟩)
  refine bodyPost_ret (by simp [results, Tryz.results8, go_sem]; rfl) rfl ?_
  exact ⟨by first | rfl | rw [h1], hbw.drewN n⟩
set_option maxRecDepth 100000 in
set_option maxHeartbeats 2000000 in
theorem float_miss {op : ByteArray} {x y : Nat} {w : World} (hf : Instr.findNow .string (.string op) entsF.toList 0 = some none) :
    Calls Tryz.prog 8 #[.string op, .int .u64 (x : Int), .int .u64 (y : Int)] w fun e w' => e = .returned (.tuple #[.int .u64 0, .int .i64 2]) ∧ Below w.heap.size w w' := by
  have HF := Lib.hid hf; clear hf
  have hmm := @run_makeMap Tryz.prog
  have hfb := from_bits; have htb := to_bits
  have hM : (w.alloc (.map #[] 0)).heap[w.heap.size]? = some (.map #[] 0) := heap_alloc_new w _
  have hb0 : Below w.heap.size w (w.alloc (.map #[] 0)) := (Below.refl w.heap.size w).alloc (Nat.le_refl _) _
  have HM := Lib.hid hM; have HB0 := Lib.hid hb0; clear hM hb0
  go_enter Tryz.func8, Tryz.ntmps8
  go_wp2_with fail
  generalize w.alloc (.map #[] 0) = W0 at *
  obtain ⟨w1, e1, M1, B1⟩ := map_put (w := W0) Tryz.underlying43 Tryz.underlying9 HM.out { data := #[43] } (.func (.func 20) #[] #[]) (by rfl)
  rw [e1]
  go_wp2_with fail
  obtain ⟨w2, e2, M2, B2⟩ := map_put (w := w1) Tryz.underlying43 Tryz.underlying9 M1 { data := #[45] } (.func (.func 21) #[] #[]) (by rfl)
  rw [e2]
  go_wp2_with fail
  obtain ⟨w3, e3, M3, B3⟩ := map_put (w := w2) Tryz.underlying43 Tryz.underlying9 M2 { data := #[42] } (.func (.func 22) #[] #[]) (by rfl)
  rw [e3]
  go_wp2_with fail
  obtain ⟨w4, e4, M4, B4⟩ := map_put (w := w3) Tryz.underlying43 Tryz.underlying9 M3 { data := #[47] } (.func (.func 23) #[] #[]) (by rfl)
  rw [e4]
  go_wp2_with fail
  have M := Lib.hid M4
  have hbw : Below w.heap.size w w4 := HB0.out.trans (((B1.trans B2).trans B3).trans B4)
  clear e1 e2 e3 e4 M1 M2 M3 M4 B1 B2 B3 B4 HM HB0
  have hz : ∀ w, (zeroValue 40).run Tryz.prog w = .ok .nilFunc w := fun w => by kernel_rfl
  rw [map_miss (w := w4) Tryz.underlying43 Tryz.underlying9 hz M.out op HF.out]
  go_wp2_with fail
  refine bodyPost_ret (by simp [results, Tryz.results8, go_sem]; rfl) rfl ?_
  exact ⟨rfl, hbw⟩
/-- AN OPERATOR OF FLOATS -/
theorem float_any (op : ByteArray) (x y : Nat) (w : World) :
    Calls Tryz.prog 8 #[.string op, .int .u64 (x : Int), .int .u64 (y : Int)] w fun e w' => e = .returned (.tuple #[.int .u64 ((floatR op.toList x y).1 : Nat), .int .i64 (floatR op.toList x y).2]) ∧ Below w.heap.size w w' := by
  by_cases h0 : op.toList = [43]
  · obtain rfl := op_eq h0
    rw [h0]
    exact float_hit (f := 20) rfl (dof_add x y) fun _ _ => by kernel_rfl
  have g0 := bytes_ne h0
  by_cases h1 : op.toList = [45]
  · obtain rfl := op_eq h1
    rw [h1]
    exact float_hit (f := 21) rfl (dof_sub x y) fun _ _ => by kernel_rfl
  have g1 := bytes_ne h1
  by_cases h2 : op.toList = [42]
  · obtain rfl := op_eq h2
    rw [h2]
    exact float_hit (f := 22) rfl (dof_mul x y) fun _ _ => by kernel_rfl
  have g2 := bytes_ne h2
  by_cases h3 : op.toList = [47]
  · obtain rfl := op_eq h3
    rw [h3]
    exact float_hit (f := 23) rfl (dof_div x y) fun _ _ => by kernel_rfl
  have g3 := bytes_ne h3
  have hr : floatR op.toList x y = (0, 2) := by unfold floatR; rw [if_neg h0, if_neg h1, if_neg h2, if_neg h3]
  rw [hr]
  exact float_miss (by simp [entsF, Instr.findNow, Instr.sameNow, g0, g1, g2, g3])
theorem ref_plain {x : Nat} (hx : x < 18446744073709551616) (w : World) : Calls Tryz.prog 13 #[.int .u64 (x : Int)] w fun e w' => e = .returned (.int .u64 (plainR x : Nat)) ∧ w' = w := by
  have HN := Lib.hid (fun w => ref_nan hx w)
  cases hn : isN x with
  | true =>
    rw [hn] at HN
    go_enter Tryz.func13, Tryz.ntmps13
    go_wp2_with (go_at_call 29; refine (HN.out _).mono ?_; rintro e w1 ⟨rfl, rfl⟩)
    go_ret
    exact ⟨by unfold plainR; rw [hn]; rfl, rfl⟩
  | false =>
    rw [hn] at HN
    go_enter Tryz.func13, Tryz.ntmps13
    go_wp2_with (go_at_call 29; refine (HN.out _).mono ?_; rintro e w1 ⟨rfl, rfl⟩)
    go_ret
    exact ⟨by unfold plainR; rw [hn]; rfl, rfl⟩
set_option maxRecDepth 100000 in
set_option maxHeartbeats 2000000 in
theorem ref_float (op : ByteArray) (x y : Nat) (w : World) :
    Calls Tryz.prog 9 #[.string op, .int .u64 (x : Int), .int .u64 (y : Int)] w fun e w' => e = .returned (.tuple #[.int .u64 ((floatR op.toList x y).1 : Nat), .int .i64 (floatR op.toList x y).2]) ∧ Below w.heap.size w w' := by
  have hfb := from_bits; have htb := to_bits
  by_cases h0 : op.toList = [43]
  · obtain rfl := op_eq h0
    rw [h0]
    skip
    obtain ⟨r, n, r1, r2, r3⟩ := run_add 42 x y Tryz.prog w
    have HP := Lib.hid (fun w => ref_plain r3 w)
    rw [r2] at HP
    go_enter Tryz.func9, Tryz.ntmps9
    go_wp2_with (go_at_call 13; refine (HP.out _).mono ?_; rintro e w1 ⟨rfl, rfl⟩)
    refine bodyPost_ret (by simp [results, Tryz.results9, go_sem]; rfl) rfl ?_
    exact ⟨rfl, (Below.refl _ w).drewN n⟩
  have g0 := op_ne h0
  by_cases h1 : op.toList = [45]
  · obtain rfl := op_eq h1
    rw [h1]
    clear g0
    obtain ⟨r, n, r1, r2, r3⟩ := run_sub 42 x y Tryz.prog w
    have HP := Lib.hid (fun w => ref_plain r3 w)
    rw [r2] at HP
    go_enter Tryz.func9, Tryz.ntmps9
    go_wp2_with (go_at_call 13; refine (HP.out _).mono ?_; rintro e w1 ⟨rfl, rfl⟩)
    refine bodyPost_ret (by simp [results, Tryz.results9, go_sem]; rfl) rfl ?_
    exact ⟨rfl, (Below.refl _ w).drewN n⟩
  have g1 := op_ne h1
  by_cases h2 : op.toList = [42]
  · obtain rfl := op_eq h2
    rw [h2]
    clear g0 g1
    obtain ⟨r, n, r1, r2, r3⟩ := run_mul 42 x y Tryz.prog w
    have HP := Lib.hid (fun w => ref_plain r3 w)
    rw [r2] at HP
    go_enter Tryz.func9, Tryz.ntmps9
    go_wp2_with (go_at_call 13; refine (HP.out _).mono ?_; rintro e w1 ⟨rfl, rfl⟩)
    refine bodyPost_ret (by simp [results, Tryz.results9, go_sem]; rfl) rfl ?_
    exact ⟨rfl, (Below.refl _ w).drewN n⟩
  have g2 := op_ne h2
  by_cases h3 : op.toList = [47]
  · obtain rfl := op_eq h3
    rw [h3]
    clear g0 g1 g2
    obtain ⟨r, n, r1, r2, r3⟩ := run_div 42 x y Tryz.prog w
    have HP := Lib.hid (fun w => ref_plain r3 w)
    rw [r2] at HP
    go_enter Tryz.func9, Tryz.ntmps9
    go_wp2_with (go_at_call 13; refine (HP.out _).mono ?_; rintro e w1 ⟨rfl, rfl⟩)
    refine bodyPost_ret (by simp [results, Tryz.results9, go_sem]; rfl) rfl ?_
    exact ⟨rfl, (Below.refl _ w).drewN n⟩
  have g3 := op_ne h3
  have hr : floatR op.toList x y = (0, 2) := by unfold floatR; rw [if_neg h0, if_neg h1, if_neg h2, if_neg h3]
  rw [hr]
  go_enter Tryz.func9, Tryz.ntmps9
  go_wp2
  refine bodyPost_ret (by simp [results, Tryz.results9, go_sem]; rfl) rfl ?_
  exact ⟨rfl, Below.refl _ w⟩
end Go.Proofs.YtkgginkdhggpgaaGreatDoor.NumF
