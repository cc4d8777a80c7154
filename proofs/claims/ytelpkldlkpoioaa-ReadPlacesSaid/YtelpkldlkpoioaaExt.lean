/- A region that draws its order, whose operations read and whose callees keep what is known of the world (they may make memory): walked once, in the order of the text. -/
import Derived.Deep.QuietTactic
import Derived.BigQuiet
import Derived.Below
namespace Go.Proofs.Ytelpkldlkpoioaa.Heap
open Go.RowKit

/-- a world of which I is known -/
def Ext (I : World → Prop) : Type := { u : World // I u }
def Ext.w {I : World → Prop} (x : Ext I) : World := x.1
theorem Ext.i {I : World → Prop} (x : Ext I) : I x.w := x.2
instance (B : Nat) (W : World) : Nonempty (Ext (Below B W)) := ⟨⟨W, Below.refl _ _⟩⟩
theorem wp_region_ext {P : Program} (I : World → Prop) {id : Nat} {Q : Exit → Act → World → Prop} {a : Act} {w : World} {l : List Oper} (hI : I { w with drawn := w.drawn + 1 }) (hm : P.follows .mixedOrders = true) (hB : Region.lexB .any l.toArray = true)
    (h : wpQuiet P l.toArray (fun w' => ∃ x : Ext I, w' = x.w) (fun a' => ∀ w', (∃ x : Ext I, w' = x.w) → Q .normal a' w') l a) : (Code.region id l.toArray true).wp P Q a w :=
  wp_region_quiet (C := fun w' => ∃ x : Ext I, w' = x.w) hm hB ⟨⟨_, hI⟩, rfl⟩ (by simpa using h)
theorem ext_call {P : Program} {f : FuncId} {args : Array Value} {I : World → Prop} {x : Ext I} {v : Value} {R : World → Prop} (h : Calls P f args x.w fun e w' => e = .returned v ∧ R w') (hR : ∀ w', R w' → I w') :
    Calls P f args x.w fun e w'' => e = .returned v ∧ ∃ y : Ext I, w'' = y.w :=
  h.mono fun _ w' ⟨he, hr⟩ => ⟨he, ⟨w', hR w' hr⟩, rfl⟩
/-- .. where all that is old is as it was -/
theorem ext_new {P : Program} {f : FuncId} {args : Array Value} {B : Nat} {W : World} (hB : B ≤ W.heap.size) {x : Ext (Below B W)} {v : Value} (h : Calls P f args x.w fun e w' => e = .returned v ∧ Below x.w.heap.size x.w w') :
    Calls P f args x.w fun e w'' => e = .returned v ∧ ∃ y : Ext (Below B W), w'' = y.w :=
  ext_call h fun _ hr => x.i.trans (hr.mono (Nat.le_trans hB x.i.size))
theorem ext_same {P : Program} {f : FuncId} {args : Array Value} {I : World → Prop} {x : Ext I} {v : Value} (h : Calls P f args x.w fun e w' => e = .returned v ∧ x.w = w') :
    Calls P f args x.w fun e w'' => e = .returned v ∧ ∃ y : Ext I, w'' = y.w :=
  ext_call h fun _ hr => hr ▸ x.i
theorem ext_cell {W : World} {p : Addr} {v : Value} (h : W.cell? p = some v) (x : Ext (Below W.heap.size W)) : x.w.cell? p = some v := (x.i.cell (World.block_lt_of_cell? _ _ h)).trans h
end Go.Proofs.Ytelpkldlkpoioaa.Heap
