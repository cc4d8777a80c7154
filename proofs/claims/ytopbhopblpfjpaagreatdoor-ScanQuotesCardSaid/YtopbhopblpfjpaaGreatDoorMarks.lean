/- Marks of numbers and texts: gristmillkit.mark, markText, walked. -/
import Derived.Test.YtopbhopblpfjpaaGreatDoorHeap
import Derived.Test.YtopbhopblpfjpaaGreatDoorExt
import Derived.Test.YtopbhopblpfjpaaGreatDoorChecked
import Derived.WalkKit
import Derived.WalkLawsBesides
import Derived.WalkSpells
import Derived.Lib.Hide
import Derived.Lib.UnsafeStr
import Derived.Lib.SlBytesConst
namespace Go.Proofs.YtopbhopblpfjpaaGreatDoor.Marks
open Go.RowKit Go.Proofs.YtopbhopblpfjpaaGreatDoor.Heap

theorem ret_int {k : IntKind} {a b : Int} (h : a = b) : Ending.returned (.int k a) = .returned (.int k b) := by rw [h]
theorem mark_any (k i : Int) (w : World) (hk : 0 ≤ k) (hk' : k ≤ 10000000) (hi : 0 ≤ i) (hi' : i ≤ 10000000) :
    Calls Tryz.prog 89 #[.int .i64 k, .int .i64 i] w fun e w' => e = .returned (.int .i64 (mkI k i)) ∧ w = w' := by
  go_enter Tryz.func89, Tryz.ntmps89
  go_wp2
  go_ret
  exact ⟨ret_int (by unfold mkI; omega), rfl⟩
end Go.Proofs.YtopbhopblpfjpaaGreatDoor.Marks
