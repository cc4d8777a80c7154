/- Digits, walked: of the chapter's example, 0.1. -/
import Derived.Test.YtkgginkdhggpgaaGreatDoorNumF
import Derived.Test.YtkgginkdhggpgaaGreatDoorShelf
import Derived.Deep.WholeRow
namespace Go.Proofs.YtkgginkdhggpgaaGreatDoor.NumG
open Go.RowKit Go.Proofs.YtkgginkdhggpgaaGreatDoor.Flo Go.Proofs.YtkgginkdhggpgaaGreatDoor.NumA Go.Proofs.YtkgginkdhggpgaaGreatDoor.NumB Go.Proofs.YtkgginkdhggpgaaGreatDoor.NumC Go.Proofs.YtkgginkdhggpgaaGreatDoor.NumD

theorem zset (w : World) : (zeroValue 70).run Tryz.prog w = .ok (.agg (Array.replicate 256 (.bool false))) w := by kernel_rfl
set_option maxRecDepth 100000 in
theorem right_one {x : UInt8} {b : Nat} {w : World} (hb : w.cell? ⟨b, x.toNat, none⟩ = some (.bool true)) :
    Calls Tryz.prog 52 #[.string { data := #[x] }, .pointer (some ⟨b, 0, none⟩)] w fun e w' => e = .returned (.string { data := #[] }) ∧ w' = w := by
  have HB := Lib.hid (fun w h => Tryz.asciiSet_contains b x true w h)
  go_enter Tryz.func52, Tryz.ntmps52
  go_wp2_with fail
  go_loopg [0] 1 (fun gk t wr => wr = w ∧ (gk = 1 ∧ t = .string { data := #[x] } ∨ gk = 0 ∧ t = .string { data := #[] }))
  case atStart => exact ⟨rfl, .inl ⟨rfl, rfl⟩⟩
  case round =>
    obtain ⟨rfl, h⟩ := hrel
    rcases h with ⟨rfl, rfl⟩ | ⟨rfl, rfl⟩
    · go_wp2_with (go_at_call 64; refine (HB.out _ hb).mono ?_; rintro e w1 ⟨rfl, rfl⟩)
      go_roundg 0
      case measure => omega
      case rel => exact ⟨rfl, .inr ⟨rfl, rfl⟩⟩
    · go_wp2
      go_ret
      exact ⟨rfl, rfl⟩
theorem left_none {b : Nat} {w : World} : Calls Tryz.prog 51 #[.string { data := #[] }, .pointer (some ⟨b, 0, none⟩)] w fun e w' => e = .returned (.string { data := #[] }) ∧ w' = w := by
  go_enter Tryz.func51, Tryz.ntmps51
  go_wp2_with fail
  go_loopg [0] 0 (fun gk t wr => wr = w ∧ t = .string { data := #[] })
  case atStart => exact ⟨rfl, rfl⟩
  case round =>
    obtain ⟨rfl, rfl⟩ := hrel
    go_wp2
    go_ret
    exact ⟨rfl, rfl⟩
def digs : ByteArray := { data := #[48, 49, 50, 51, 52, 53, 54, 55, 56, 57] }
theorem digs_ascii : ∀ (j : Nat) b, digs.data.toList[j]? = some b → b.toNat < 128 := by
  intro j b h
  have hm := List.mem_of_getElem? h
  simp [digs] at hm
  rcases hm with rfl | rfl | rfl | rfl | rfl | rfl | rfl | rfl | rfl | rfl <;> decide
set_option maxRecDepth 100000 in
set_option maxHeartbeats 1000000 in
theorem trim_one {x : UInt8} (hx : (Lib.setCells digs.data.toList)[x.toNat]? = some (.bool true)) (w : World) :
    Calls Tryz.prog 44 #[.string { data := #[x] }, .string digs] w fun e w' => e = .returned (.string { data := #[] }) ∧ Below w.heap.size w w' := by
  have HM := Lib.hid (fun w => Tryz.strings_makeASCIISet zset digs w (by decide) digs_ascii)
  have hq : digs.toList.isEmpty = false := by rw [ByteArray.toList_eq]; rfl
  have hcz := Lib.setCells_size digs.data.toList
  have hds : digs.size = 10 := by decide
  have hst : (storeCells ⟨w.heap.size + 1, 0, none⟩ (Lib.setCells digs.data.toList).toList).run Tryz.prog ((w.alloc (.cells (Lib.setCells digs.data.toList) 70)).alloc (.cells Tryz.zeroCells70 70)) = .ok () ((w.alloc (.cells (Lib.setCells digs.data.toList) 70)).alloc (.cells (Lib.setCells digs.data.toList) 70)) := by
    have := run_storeCells_new (P := Tryz.prog) (w.alloc (.cells (Lib.setCells digs.data.toList) 70)) 70 Tryz.zeroCells70 (Lib.setCells digs.data.toList) (by rw [Lib.setCells_size]; kernel_rfl) (by rw [Lib.setCells_size]; kernel_rfl) (by kernel_rfl)
    simpa using this
  have HX := Lib.hid hx
  clear hx
  generalize hd : Lib.setCells digs.data.toList = cs at *
  clear hd
  have hb : Below w.heap.size w ((w.alloc (.cells cs 70)).alloc (.cells cs 70)) := ((Below.refl w.heap.size w).alloc (Nat.le_refl _) _).alloc (by simp) _
  have hc : ((w.alloc (.cells cs 70)).alloc (.cells cs 70)).cell? ⟨w.heap.size + 1, x.toNat, none⟩ = some (.bool true) := by
    have h := heap_alloc_new (w.alloc (.cells cs 70)) (.cells cs 70)
    have h' : ((w.alloc (.cells cs 70)).alloc (.cells cs 70)).heap[w.heap.size + 1]? = some (.cells cs 70 (0, 0)) := by simpa using h
    rw [cell_of_row _ _ _ _ _ _ h']; exact HX.out
  have HB := Lib.hid hb; have HC := Lib.hid hc; clear hb hc
  go_enter Tryz.func44, Tryz.ntmps44
  go_wp2_with (first | (go_at_call 50; refine (HM.out _).mono ?_; rintro e w1 ⟨rfl, rfl⟩) | (go_at_call 52; refine (right_one HC.out).mono ?_; rintro e w1 ⟨rfl, rfl⟩) | (go_at_call 51; refine left_none.mono ?_; rintro e w1 ⟨rfl, rfl⟩))
  go_ret
  exact ⟨rfl, HB.out⟩
theorem row_one {x : UInt8} (hx : (Lib.setCells digs.data.toList)[x.toNat]? = some (.bool true)) (w : World) :
    Calls Tryz.prog 40 #[.string { data := #[x] }] w fun e w' => e = .returned (.bool true) ∧ Below w.heap.size w w' := by
  have HT := Lib.hid (fun w => trim_one hx w)
  unfold digs at HT
  clear hx
  go_enter Tryz.func40, Tryz.ntmps40
  go_wp2_with (go_at_call 44; refine (HT.out _).mono ?_; rintro e w1 ⟨rfl, hb⟩)
  go_ret
  exact ⟨rfl, hb⟩
theorem first_one {x : UInt8} (hx : (Lib.setCells digs.data.toList)[x.toNat]? = some (.bool true)) (w : World) :
    Calls Tryz.prog 39 #[.string { data := #[x] }] w fun e w' => e = .returned (.bool true) ∧ Below w.heap.size w w' := by
  have HT := Lib.hid (fun w => row_one hx w)
  clear hx
  go_enter Tryz.func39, Tryz.ntmps39
  go_wp2_with (go_at_call 40; refine (HT.out _).mono ?_; rintro e w1 ⟨rfl, hb⟩)
  go_ret
  exact ⟨rfl, hb⟩
end Go.Proofs.YtkgginkdhggpgaaGreatDoor.NumG
