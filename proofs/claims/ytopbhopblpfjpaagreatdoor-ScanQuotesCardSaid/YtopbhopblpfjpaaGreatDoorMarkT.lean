/- Marks of texts: gristmillkit.markText, walked. -/
import Derived.Test.YtopbhopblpfjpaaGreatDoorMarks
namespace Go.Proofs.YtopbhopblpfjpaaGreatDoor.Marks
open Go.RowKit Go.Proofs.YtopbhopblpfjpaaGreatDoor.Heap

/-- a place's mark, as a text: its bytes -/
def txtN (k i : Int) : List Int := [35, k % 256, k / 256 % 256, k / 65536, 47, i % 256, i / 256 % 256, i / 65536]
def mkT (k i : Int) : ByteArray := strOfNums (txtN k i)
set_option maxRecDepth 100000 in
set_option maxHeartbeats 1000000 in
theorem markText_any (k i : Int) (w : World) (hk : 0 ≤ k) (hk' : k ≤ 10000000) (hi : 0 ≤ i) (hi' : i ≤ 10000000) :
    Calls Tryz.prog 90 #[.int .i64 k, .int .i64 i] w fun e w' => e = .returned (.string (mkT k i)) ∧ Below w.heap.size w w' := by
  have hconv : (convert 89 9 (.slice (some ⟨w.heap.size, 0, none⟩) 8 8)).run Tryz.prog (w.alloc (.cells #[.int .u8 35, .int .u8 (k % 256), .int .u8 (k / 256 % 256), .int .u8 (k / 65536), .int .u8 47, .int .u8 (i % 256), .int .u8 (i / 256 % 256), .int .u8 (i / 65536)] 5)) = .ok (.string (mkT k i)) (w.alloc (.cells #[.int .u8 35, .int .u8 (k % 256), .int .u8 (k / 256 % 256), .int .u8 (k / 65536), .int .u8 47, .int .u8 (i % 256), .int .u8 (i / 256 % 256), .int .u8 (i / 65536)] 5)) :=
    run_convert_bytes_arg (P := Tryz.prog) _ 89 5 Tryz.underlying89 Tryz.underlying5 w.heap.size 0 8 8 (txtN k i) rfl (fun j hj => by
      rw [Nat.zero_add, cell_of_row _ w.heap.size j _ _ (0, 0) (heap_alloc_new w _)]
      rcases (show j = 0 ∨ j = 1 ∨ j = 2 ∨ j = 3 ∨ j = 4 ∨ j = 5 ∨ j = 6 ∨ j = 7 by omega) with rfl | rfl | rfl | rfl | rfl | rfl | rfl | rfl <;> rfl) 9 Tryz.underlying9
  go_enter Tryz.func90, Tryz.ntmps90
  go_wp2
  go_ret
  exact ⟨rfl, (Below.refl _ _).alloc (Nat.le_refl _) _⟩
end Go.Proofs.YtopbhopblpfjpaaGreatDoor.Marks
