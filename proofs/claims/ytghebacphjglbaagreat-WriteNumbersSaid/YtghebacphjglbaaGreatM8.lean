/- Marks of numbers and texts: gristmillkit.mark, markText, walked. -/
import Derived.Test.YtghebacphjglbaaGreatM1
import Derived.Test.YtghebacphjglbaaGreatChecked
import Derived.WalkKit
import Derived.WalkLawsBesides
import Derived.WalkSpells
import Derived.Lib.Hide
import Derived.Lib.UnsafeStr
import Derived.Lib.SlBytesConst
namespace Go.Proofs.YtghebacphjglbaaGreat.Marks
open Go.RowKit Go.Proofs.YtghebacphjglbaaGreat.Heap

theorem ret_int {k : IntKind} {a b : Int} (h : a = b) : Ending.returned (.int k a) = .returned (.int k b) := by rw [h]
theorem mark_any (k i : Int) (w : World) (hk : 0 ≤ k) (hk' : k ≤ 10000000) (hi : 0 ≤ i) (hi' : i ≤ 10000000) :
    Calls Tryz.prog 67 #[.int .i64 k, .int .i64 i] w fun e w' => e = .returned (.int .i64 (mkI k i)) ∧ w = w' := by
  go_enter Tryz.func67, Tryz.ntmps67
  go_wp2
  go_ret
  exact ⟨ret_int (by unfold mkI; omega), rfl⟩
end Go.Proofs.YtghebacphjglbaaGreat.Marks
/- Marks of texts: gristmillkit.markText, walked. -/
namespace Go.Proofs.YtghebacphjglbaaGreat.Marks
open Go.RowKit Go.Proofs.YtghebacphjglbaaGreat.Heap

/-- a place's mark, as a text: its bytes -/
def txtN (k i : Int) : List Int := [35, k % 256, k / 256 % 256, k / 65536, 47, i % 256, i / 256 % 256, i / 65536]
def mkT (k i : Int) : ByteArray := strOfNums (txtN k i)
set_option maxRecDepth 100000 in
set_option maxHeartbeats 1000000 in
theorem markText_any (k i : Int) (w : World) (hk : 0 ≤ k) (hk' : k ≤ 10000000) (hi : 0 ≤ i) (hi' : i ≤ 10000000) :
    Calls Tryz.prog 81 #[.int .i64 k, .int .i64 i] w fun e w' => e = .returned (.string (mkT k i)) ∧ Below w.heap.size w w' := by
  have hconv : (convert 45 9 (.slice (some ⟨w.heap.size, 0, none⟩) 8 8)).run Tryz.prog (w.alloc (.cells #[.int .u8 35, .int .u8 (k % 256), .int .u8 (k / 256 % 256), .int .u8 (k / 65536), .int .u8 47, .int .u8 (i % 256), .int .u8 (i / 256 % 256), .int .u8 (i / 65536)] 5)) = .ok (.string (mkT k i)) (w.alloc (.cells #[.int .u8 35, .int .u8 (k % 256), .int .u8 (k / 256 % 256), .int .u8 (k / 65536), .int .u8 47, .int .u8 (i % 256), .int .u8 (i / 256 % 256), .int .u8 (i / 65536)] 5)) :=
    run_convert_bytes_arg (P := Tryz.prog) _ 45 5 Tryz.underlying45 Tryz.underlying5 w.heap.size 0 8 8 (txtN k i) rfl (fun j hj => by
      rw [Nat.zero_add, cell_of_row _ w.heap.size j _ _ (0, 0) (heap_alloc_new w _)]
      rcases (show j = 0 ∨ j = 1 ∨ j = 2 ∨ j = 3 ∨ j = 4 ∨ j = 5 ∨ j = 6 ∨ j = 7 by omega) with rfl | rfl | rfl | rfl | rfl | rfl | rfl | rfl <;> rfl) 9 Tryz.underlying9
  go_enter Tryz.func81, Tryz.ntmps81
  go_wp2
  go_ret
  exact ⟨rfl, (Below.refl _ _).alloc (Nat.le_refl _) _⟩
end Go.Proofs.YtghebacphjglbaaGreat.Marks
