/- A float read, walked: the chapter's example, 0.1. -/
import Derived.Test.YtkgginkdhggpgaaGreatDoorNumG
import Derived.WalkMore
namespace Go.Proofs.YtkgginkdhggpgaaGreatDoor.NumH
open Go.RowKit Go.Proofs.YtkgginkdhggpgaaGreatDoor.Flo Go.Proofs.YtkgginkdhggpgaaGreatDoor.NumA Go.Proofs.YtkgginkdhggpgaaGreatDoor.NumB Go.Proofs.YtkgginkdhggpgaaGreatDoor.NumC Go.Proofs.YtkgginkdhggpgaaGreatDoor.NumD Go.Proofs.YtkgginkdhggpgaaGreatDoor.NumF Go.Proofs.YtkgginkdhggpgaaGreatDoor.NumG

def ex : ByteArray := { data := #[48, 46, 49] }
theorem special_ex (w : World) : Calls Tryz.prog 78 #[.string { data := #[48, 46, 49] }] w fun e w' => e = .returned (.tuple #[.float .f64 0, .int .i64 0, .bool false]) ∧ w' = w := by
  go_enter Tryz.func78, Tryz.ntmps78
  go_wp2
  refine bodyPost_ret (by simp [results, Tryz.results78, go_sem]; rfl) rfl ?_
  exact ⟨rfl, rfl⟩
theorem lower_dot (w : World) : Calls Tryz.prog 97 #[.int .u8 46] w fun e w' => e = .returned (.int .u8 46) ∧ w' = w := by
  have hb : bits BinOp.or IntKind.u8 46 32 = 46 := by decide
  go_enter Tryz.func97, Tryz.ntmps97
  go_wp2
  go_ret
  exact ⟨rfl, rfl⟩
set_option maxRecDepth 100000 in
set_option maxHeartbeats 4000000 in
theorem read_ex (w : World) : Calls Tryz.prog 79 #[.string { data := #[48, 46, 49] }] w fun e w' => e = .returned (.tuple #[.int .u64 1, .int .i64 (-1), .bool false, .bool false, .bool false, .int .i64 3, .bool true]) ∧ w' = w := by
  go_enter Tryz.func79, Tryz.ntmps79
  go_wp2_with fail
  go_step3
  go_wp2_with (go_at_call 97; refine (lower_dot _).mono ?_; rintro e w1 ⟨rfl, rfl⟩)
  go_step3
  go_wp2_with fail
  go_loopg [2, 5, 7, 9, 13, 14, 15, 16, 17] 3 (fun gk t2 t5 t7 t9 t13 t14 t15 t16 t17 wr => wr = w1 ∧ t5 = .bool false ∧ t9 = .bool false ∧
    (gk = 3 ∧ t2 = .int .u64 0 ∧ t7 = .int .i64 0 ∧ t13 = .bool false ∧ t14 = .bool false ∧ t15 = .int .i64 0 ∧ t16 = .int .i64 0 ∧ t17 = .int .i64 0 ∨
     gk = 2 ∧ t2 = .int .u64 0 ∧ t7 = .int .i64 1 ∧ t13 = .bool false ∧ t14 = .bool true ∧ t15 = .int .i64 0 ∧ t16 = .int .i64 0 ∧ t17 = .int .i64 (-1) ∨
     gk = 1 ∧ t2 = .int .u64 0 ∧ t7 = .int .i64 2 ∧ t13 = .bool true ∧ t14 = .bool true ∧ t15 = .int .i64 0 ∧ t16 = .int .i64 0 ∧ t17 = .int .i64 0 ∨
     gk = 0 ∧ t2 = .int .u64 1 ∧ t7 = .int .i64 3 ∧ t13 = .bool true ∧ t14 = .bool true ∧ t15 = .int .i64 1 ∧ t16 = .int .i64 1 ∧ t17 = .int .i64 0))
  case atStart => exact ⟨rfl, rfl, rfl, .inl ⟨rfl, rfl, rfl, rfl, rfl, rfl, rfl, rfl⟩⟩
  case round =>
    obtain ⟨rfl, rfl, rfl, h⟩ := hrel
    rcases h with ⟨rfl, rfl, rfl, rfl, rfl, rfl, rfl, rfl⟩ | ⟨rfl, rfl, rfl, rfl, rfl, rfl, rfl, rfl⟩ | ⟨rfl, rfl, rfl, rfl, rfl, rfl, rfl, rfl⟩ | ⟨rfl, rfl, rfl, rfl, rfl, rfl, rfl, rfl⟩
    · go_wp2
      go_roundg 2
      case measure => omega
      case rel => exact ⟨rfl, rfl, rfl, .inr (.inl ⟨rfl, rfl, rfl, rfl, rfl, rfl, rfl, rfl⟩)⟩
    · go_wp2
      go_roundg 1
      case measure => omega
      case rel => exact ⟨rfl, rfl, rfl, .inr (.inr (.inl ⟨rfl, rfl, rfl, rfl, rfl, rfl, rfl, rfl⟩))⟩
    · go_wp2
      go_roundg 0
      case measure => omega
      case rel => exact ⟨rfl, rfl, rfl, .inr (.inr (.inr ⟨rfl, rfl, rfl, rfl, rfl, rfl, rfl, rfl⟩))⟩
    · go_wp2
      rw [Exit.noGoto_ret]
      refine bodyPost_ret (by simp [results, Tryz.results79, go_sem]; rfl) rfl ?_
      exact ⟨rfl, rfl⟩
/-- what the variables hold that a float's reader reads -/
structure Gn (w : World) : Prop where
  m : ∃ m, w.cell? ⟨1, 0, none⟩ = some (.int .i64 m)
  opt : w.cell? ⟨5, 0, none⟩ = some (.bool true)
  mant : w.cell? ⟨6, 0, none⟩ = some (.int .u64 52)
  tab : ∃ b o c, w.cell? ⟨11, 0, none⟩ = some (.slice (some ⟨b, o, none⟩) 23 c) ∧ w.cell? ⟨b, o + 1, none⟩ = some (.float .f64 4621819117588971520)
theorem Gn.below {w w' : World} (h : Gn w) (hb : Below w.heap.size w w') : Gn w' := by
  obtain ⟨⟨m, h1⟩, h2, h3, b, o, c, h4, h5⟩ := h
  exact ⟨⟨m, (hb.cell (World.block_lt_of_cell? _ _ h1)).trans h1⟩, (hb.cell (World.block_lt_of_cell? _ _ h2)).trans h2, (hb.cell (World.block_lt_of_cell? _ _ h3)).trans h3, b, o, c, (hb.cell (World.block_lt_of_cell? _ _ h4)).trans h4, (hb.cell (World.block_lt_of_cell? _ _ h5)).trans h5⟩
theorem tenth (t : TypeId) (P : Program) (w : World) : (binOp .quo t (.float .f64 4607182418800017408) (.float .f64 4621819117588971520)).run P w = .ok (.float .f64 4591870180066957722) w := by
  have e : binOp .quo t (.float .f64 4607182418800017408) (.float .f64 4621819117588971520) = ansS (D.div 4607182418800017408 4621819117588971520) 4607182418800017408 4621819117588971520 := by
    unfold ansS
    simp only [binOp, Op.floatArith, ne_eq, not_true_eq_false, if_false, pure_bind]
    rfl
  have hd : D.div 4607182418800017408 4621819117588971520 = some 4591870180066957722 := by decide +kernel
  rw [e, hd]
  rfl
theorem one_float : floatOfInt .f64 1 = 4607182418800017408 := by decide +kernel
set_option maxRecDepth 100000 in
theorem exact_ex {w : World} (hg : Gn w) : Calls Tryz.prog 89 #[.int .u64 1, .int .i64 (-1), .bool false] w fun e w' => e = .returned (.tuple #[.float .f64 4591870180066957722, .bool true]) ∧ w' = w := by
  obtain ⟨⟨m, h1⟩, h2, h3, b, o, c, h4, h5⟩ := hg
  have ht := tenth 42 Tryz.prog
  have h1f := one_float
  go_enter Tryz.func89, Tryz.ntmps89
  go_wp2
  refine bodyPost_ret (by simp [results, Tryz.results89, go_sem]; rfl) rfl ?_
  exact ⟨rfl, rfl⟩
end Go.Proofs.YtkgginkdhggpgaaGreatDoor.NumH
