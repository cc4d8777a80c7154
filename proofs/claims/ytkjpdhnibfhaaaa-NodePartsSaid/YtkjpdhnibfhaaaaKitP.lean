/- Trees: a tree is the same as itself, and as it is without places. Plain. -/
import Derived.Test.YtkjpdhnibfhaaaaNodePlain
namespace Go.Proofs.Ytkjpdhnibfhaaaa.KitP
open Go.Proofs.Ytkjpdhnibfhaaaa.Nodey
mutual
theorem same_self : ∀ x : Nd, sameN x x = true
  | .mk k t n a l => by rw [sameN, sames_self l]; simp
theorem sames_self : ∀ l : List Nd, sameL l l = true
  | [] => by rw [sameL]
  | x :: l => by rw [sameL, same_self x, sames_self l]; rfl
end
mutual
theorem same_bare : ∀ x : Nd, sameN x (bareN x) = true
  | .mk k t n a l => by rw [bareN, sameN, sames_bare l]; simp
theorem sames_bare : ∀ l : List Nd, sameL l (bareL l) = true
  | [] => by rw [bareL, sameL]
  | x :: l => by rw [bareL, sameL, same_bare x, sames_bare l]; rfl
end
end Go.Proofs.Ytkjpdhnibfhaaaa.KitP
