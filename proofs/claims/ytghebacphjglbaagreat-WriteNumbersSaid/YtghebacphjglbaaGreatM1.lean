/- Rows of the call's own in memory: an append that says whether the row was shared; parts of rows; rows that lie apart. -/
import Derived.Deep.AppendLies
import Derived.Laws.OwnMore
import Derived.Below
import Derived.WalkKit
import Derived.Deep.QuietTactic
import Derived.BigQuiet
import Derived.Lib.Hide
namespace Go.Proofs.YtghebacphjglbaaGreat.Heap
open Go.RowKit

/-- one value is the other's row, grown: the same block, the same room; or it lies in a new block, and nothing else is written -/
def Grew (w w' : World) (v v' : Value) (n' : Nat) : Prop :=
  (∃ g n cap, v = .slice (some ⟨g, 0, none⟩) n cap ∧ v' = .slice (some ⟨g, 0, none⟩) n' cap) ∨ (∃ g cap, v' = .slice (some ⟨g, 0, none⟩) n' cap ∧ w.heap.size ≤ g ∧ w.grownBy w' none)

section
variable {P : Program} (w : World)
end

section
variable {w : World} {base : Nat} {e : TypeId} {size : Nat} {v v' : Value} {n n' : Nat} {xs ys : List Value}
theorem own_base {base' : Nat} (h : w.ownsRow base e size v n xs) (hb : base' ≤ base) : w.ownsRow base' e size v n xs :=
  ⟨h.1, h.2.imp id fun ⟨g, cap, cur, hv, hg, r⟩ => ⟨g, cap, cur, hv, Nat.le_trans hb hg, r⟩⟩
theorem own_below {w' : World} {B : Nat} (h : w.ownsRow base e size v n xs) (hb : Below B w w') (hlt : ∀ k, v.ownBlock = some k → k < B) : w'.ownsRow base e size v n xs := by
  refine ⟨h.1, h.2.imp id fun ⟨g, cap, cur, hv, hg, hh, r⟩ => ⟨g, cap, cur, hv, hg, ?_, r⟩⟩
  rw [hb.block g (hlt g (by rw [hv]; rfl))]; exact hh
theorem own_new {w' : World} (h : w.ownsRow base e size v n xs) (hb : Below w.heap.size w w') : w'.ownsRow base e size v n xs :=
  own_below h hb fun k hk => (h.lt k hk).2
end

theorem grown_trans {w w1 w2 : World} {r : Option Nat} (h : w.grownBy w1 r) (k : w1.grownBy w2 r) : w.grownBy w2 r :=
  ⟨k.os.trans h.os, k.tape.trans h.tape, k.output.trans h.output, Nat.le_trans h.size k.size, fun i hi hr => (k.block i (Nat.lt_of_lt_of_le hi h.size) hr).trans (h.block i hi hr)⟩
theorem grown_below {w w' : World} (h : Below w.heap.size w w') (r : Option Nat) : w.grownBy w' r := ⟨h.os, h.tape, h.output, h.size, fun i hi _ => h.block i hi⟩
/-- a list's block -/
def bl (A : Option Addr) : Option Nat := A.map (·.block)
theorem bl_own (a : Option Addr) (n c : Nat) : (Value.slice a n c).ownBlock = bl a := by cases a <;> rfl
/-- LISTS THAT LIE APART: row L names K lists, each the call's own; none is L, no two are one -/
structure LS (E S : Nat) (w : World) (B L K : Nat) (A : Nat → Option Addr) (n C : Nat → Nat) (X : Nat → List Value) : Prop where
  row : ∀ k, k < K → w.cell? ⟨L, k, none⟩ = some (.slice (A k) (n k) (C k))
  own : ∀ k, k < K → w.ownsRow B E S (.slice (A k) (n k) (C k)) (n k) (X k)
  neL : ∀ k, k < K → bl (A k) ≠ some L
  ap : ∀ j k, j < K → k < K → j ≠ k → bl (A j) = none ∨ bl (A j) ≠ bl (A k)
  lt : L < w.heap.size
  le : B ≤ L

section
variable {E S : Nat} {w w' : World} {B L K : Nat} {A : Nat → Option Addr} {n C : Nat → Nat} {X : Nat → List Value}
/-- list k was written, and nothing else -/
theorem LS.step (h : LS E S w B L K A n C X) {k : Nat} (hk : k < K) (hg : w.grownBy w' (bl (A k))) {Y : List Value} (ho : w'.ownsRow B E S (.slice (A k) (n k) (C k)) (n k) Y) :
    LS E S w' B L K A n C (fun j => if j = k then Y else X j) where
  row j hj := (World.cell?_of_block (a := ⟨L, j, none⟩) (hg.block L h.lt (Ne.symm (h.neL k hk)))).trans (h.row j hj)
  own j hj := by
    by_cases e : j = k
    · subst e; simpa using ho
    · rw [if_neg e]
      exact (h.own j hj).kept hg (by rw [bl_own]; exact h.ap j k hj hk e)
  neL := h.neL
  ap := h.ap
  lt := Nat.lt_of_lt_of_le h.lt hg.size
  le := h.le
theorem LS.far (h : LS E S w B L K A n C X) {r : Option Nat} (hg : w.grownBy w' r) (hL : some L ≠ r) (hr : ∀ k, k < K → bl (A k) = none ∨ bl (A k) ≠ r) : LS E S w' B L K A n C X where
  row j hj := (World.cell?_of_block (a := ⟨L, j, none⟩) (hg.block L h.lt hL)).trans (h.row j hj)
  own j hj := (h.own j hj).kept hg (by rw [bl_own]; exact hr j hj)
  neL := h.neL
  ap := h.ap
  lt := Nat.lt_of_lt_of_le h.lt hg.size
  le := h.le
theorem LS.none (h : LS E S w B L K A n C X) (hg : w.grownBy w' none) : LS E S w' B L K A n C X :=
  h.far hg (by simp) fun k _ => by cases bl (A k) <;> simp
theorem LS.congr (h : LS E S w B L K A n C X) {Y : Nat → List Value} (hXY : ∀ k, k < K → X k = Y k) : LS E S w B L K A n C Y :=
  { h with own := fun k hk => hXY k hk ▸ h.own k hk }

/-- THE LISTS GROWN: row G names for each j below m a list that has grown out of list j, or is new -/
structure GS (E S T : Nat) (w : World) (B K : Nat) (A : Nat → Option Addr) (G m : Nat) (N : Nat → Nat) (Y : Nat → List Value) : Prop where
  blk : ∃ gc, w.heap[G]? = some (.cells gc T (0, 0)) ∧ gc.size = K
  own : ∀ j, j < m → ∃ a c, w.cell? ⟨G, j, .none⟩ = some (.slice (some ⟨a, 0, .none⟩) (N j) c) ∧ w.ownsRow B E S (.slice (some ⟨a, 0, .none⟩) (N j) c) (N j) (Y j) ∧ a ≠ G ∧ ∀ k, k < K → k ≠ j → bl (A k) ≠ some a
  le : B ≤ G
theorem GS.lt {T G m : Nat} {N : Nat → Nat} {Y : Nat → List Value} (h : GS E S T w B K A G m N Y) : G < w.heap.size := by
  obtain ⟨gc, hg, _⟩ := h.blk
  exact (Array.getElem?_eq_some_iff.1 hg).1
theorem GS.far {T G m : Nat} {N : Nat → Nat} {Y : Nat → List Value} (h : GS E S T w B K A G m N Y) {r : Option Nat} (hg : w.grownBy w' r) (hG : some G ≠ r) (hr : ∀ a j, j < m → (∀ k, k < K → k ≠ j → bl (A k) ≠ some a) → r ≠ some a) : GS E S T w' B K A G m N Y where
  blk := by obtain ⟨gc, h1, h2⟩ := h.blk; exact ⟨gc, (hg.block G h.lt hG).trans h1, h2⟩
  own j hj := by
    obtain ⟨a, c, h1, h2, h3, h4⟩ := h.own j hj
    exact ⟨a, c, (World.cell?_of_block (a := ⟨G, j, .none⟩) (hg.block G h.lt hG)).trans h1, h2.kept hg (.inr (by simpa [Value.ownBlock] using (hr a j hj h4).symm)), h3, h4⟩
  le := h.le
theorem GS.none {T G m : Nat} {N : Nat → Nat} {Y : Nat → List Value} (h : GS E S T w B K A G m N Y) (hg : w.grownBy w' .none) : GS E S T w' B K A G m N Y :=
  h.far hg (by simp) fun _ _ _ _ => by simp
/-- one more is stored -/
theorem GS.put {T G m : Nat} {N : Nat → Nat} {Y : Nat → List Value} (h : GS E S T w B K A G m N Y) {g c : Nat} (ho : w.ownsRow B E S (.slice (some ⟨g, 0, .none⟩) (N m) c) (N m) (Y m)) (hm : m < K) (hgG : g ≠ G) (ha : ∀ k, k < K → k ≠ m → bl (A k) ≠ some g) :
    GS E S T (w.setCell ⟨G, m, .none⟩ (.slice (some ⟨g, 0, .none⟩) (N m) c)) B K A G (m + 1) N Y := by
  obtain ⟨gc, h1, h2⟩ := h.blk
  have hb := heap_setCell_same w G m _ _ (.slice (some ⟨g, 0, .none⟩) (N m) c) h1
  have hgr : w.grownBy (w.setCell ⟨G, m, .none⟩ (.slice (some ⟨g, 0, .none⟩) (N m) c)) (some G) := ⟨rfl, rfl, rfl, by simp [World.setCell], fun k _ hr => Below.heap_setCell _ _ _ _ (fun e => hr (by rw [e]))⟩
  refine ⟨⟨_, hb, by simpa using h2⟩, fun j hj => ?_, h.le⟩
  by_cases e : j = m
  · subst e
    refine ⟨g, c, ?_, ho.kept hgr (.inr (by simpa [Value.ownBlock] using hgG)), hgG, ha⟩
    rw [cell_of_row _ G j _ _ _ hb, Array.getElem?_setIfInBounds_self_of_lt (by omega)]
  · obtain ⟨a, c', q1, q2, q3, q4⟩ := h.own j (by omega)
    refine ⟨a, c', ?_, q2.kept hgr (.inr (by simpa [Value.ownBlock] using q3)), q3, q4⟩
    rw [cell_of_row _ G j _ _ _ hb]
    rw [cell_of_row _ G j _ _ _ h1] at q1
    rw [Array.getElem?_setIfInBounds_ne (by omega)]; exact q1
end

/-- of what was there only these lists were written -/
structure Only (K : Nat) (A : Nat → Option Addr) (w w' : World) : Prop where
  os : w'.os = w.os
  tape : w'.tape = w.tape
  output : w'.output = w.output
  size : w.heap.size ≤ w'.heap.size
  block : ∀ b, b < w.heap.size → (∀ k, k < K → bl (A k) ≠ some b) → w'.heap[b]? = w.heap[b]?
theorem Only.refl (K : Nat) (A : Nat → Option Addr) (w : World) : Only K A w w := ⟨rfl, rfl, rfl, Nat.le_refl _, fun _ _ _ => rfl⟩
theorem Only.grown {K : Nat} {A : Nat → Option Addr} {w w1 w2 : World} {r : Option Nat} (h : Only K A w w1) (g : w1.grownBy w2 r) (hr : ∀ b, r = some b → w.heap.size ≤ b ∨ ∃ k, k < K ∧ bl (A k) = some b) : Only K A w w2 :=
  ⟨g.os.trans h.os, g.tape.trans h.tape, g.output.trans h.output, Nat.le_trans h.size g.size, fun b hb hne => (g.block b (Nat.lt_of_lt_of_le hb h.size) (fun e => (hr b e.symm).elim (fun h => by omega) (fun ⟨k, hk, e⟩ => hne k hk e))).trans (h.block b hb hne)⟩
theorem Only.below {K : Nat} {A : Nat → Option Addr} {w w' : World} {B : Nat} (h : Only K A w w') (hB : B ≤ w.heap.size) (hA : ∀ k b, k < K → bl (A k) = some b → B ≤ b) : Below B w w' :=
  ⟨h.os, h.tape, h.output, h.size, fun b hb => h.block b (by omega) (fun k hk e => by have := hA k b hk e; omega)⟩

theorem grown_set (w : World) (p : Addr) (v : Value) : w.grownBy (w.setCell p v) (some p.block) :=
  ⟨rfl, rfl, rfl, by simp, fun k _ hr => Below.heap_setCell _ _ _ _ (fun e => hr (by rw [e]))⟩
/-- a place's mark -/
def mkI (k i : Int) : Int := 1000003 * (k + 7) + i
section
/-- marks one behind the other -/
def marks (f : Int → Int → List Value) (k : Int) (n : Nat) : List Value := (List.range n).flatMap fun (i : Nat) => f k (i : Int)
variable {f : Int → Int → List Value}
end
end Go.Proofs.YtghebacphjglbaaGreat.Heap
/- A region that draws its order, whose operations read and whose callees keep what is known of the world (they may make memory): walked once, in the order of the text. -/
namespace Go.Proofs.YtghebacphjglbaaGreat.Heap
open Go.RowKit

/-- a world of which I is known -/
def Ext (I : World → Prop) : Type := { u : World // I u }
def Ext.w {I : World → Prop} (x : Ext I) : World := x.1
theorem Ext.i {I : World → Prop} (x : Ext I) : I x.w := x.2
instance (B : Nat) (W : World) : Nonempty (Ext (Below B W)) := ⟨⟨W, Below.refl _ _⟩⟩
theorem wp_region_ext {P : Program} (I : World → Prop) {id : Nat} {Q : Exit → Act → World → Prop} {a : Act} {w : World} {l : List Oper} (hI : I { w with drawn := w.drawn + 1 }) (hm : P.follows .mixedOrders = true) (hB : Region.lexB .any l.toArray = true)
    (h : wpQuiet P l.toArray (fun w' => ∃ x : Ext I, w' = x.w) (fun a' => ∀ w', (∃ x : Ext I, w' = x.w) → Q .normal a' w') l a) : (Code.region id l.toArray true).wp P Q a w :=
  wp_region_quiet (C := fun w' => ∃ x : Ext I, w' = x.w) hm hB ⟨⟨_, hI⟩, rfl⟩ (by simpa using h)
theorem ext_call {P : Program} {f : FuncId} {args : Array Value} {I : World → Prop} {x : Ext I} {v : Value} {R : World → Prop} (h : Calls P f args x.w fun e w' => e = .returned v ∧ R w') (hR : ∀ w', R w' → I w') :
    Calls P f args x.w fun e w'' => e = .returned v ∧ ∃ y : Ext I, w'' = y.w :=
  h.mono fun _ w' ⟨he, hr⟩ => ⟨he, ⟨w', hR w' hr⟩, rfl⟩
/-- .. where all that is old is as it was -/
theorem ext_new {P : Program} {f : FuncId} {args : Array Value} {B : Nat} {W : World} (hB : B ≤ W.heap.size) {x : Ext (Below B W)} {v : Value} (h : Calls P f args x.w fun e w' => e = .returned v ∧ Below x.w.heap.size x.w w') :
    Calls P f args x.w fun e w'' => e = .returned v ∧ ∃ y : Ext (Below B W), w'' = y.w :=
  ext_call h fun _ hr => x.i.trans (hr.mono (Nat.le_trans hB x.i.size))
theorem ext_cell {W : World} {p : Addr} {v : Value} (h : W.cell? p = some v) (x : Ext (Below W.heap.size W)) : x.w.cell? p = some v := (x.i.cell (World.block_lt_of_cell? _ _ h)).trans h
end Go.Proofs.YtghebacphjglbaaGreat.Heap
/- Data in memory: rows within rows, each row the call's own, no two in one block; data that is read alone. No function of a program. -/
namespace Go.Proofs.YtghebacphjglbaaGreat.Dat
open Go.RowKit Go.Proofs.YtghebacphjglbaaGreat.Heap

/-- data: what a cell holds, or a row of so many elements, each of so many cells -/
inductive Dat
  | lit (v : Value)
  | row (E : TypeId) (S n : Nat) (items : List Dat)

mutual
/-- a value is data whose rows are the call's own: their blocks -/
def Lies (w : World) (B : Nat) : Dat → Value → List Nat → Prop
  | .lit u, v, bs => v = u ∧ bs = []
  | .row E S n items, v, bs => items.length = n * S ∧ ((n = 0 ∧ v = .slice none 0 0 ∧ bs = []) ∨
      ∃ g cap xs bs', v = .slice (some ⟨g, 0, none⟩) n cap ∧ w.ownsRow B E S v n xs ∧ LiesL w B items xs bs' ∧ bs = g :: bs')
def LiesL (w : World) (B : Nat) : List Dat → List Value → List Nat → Prop
  | [], xs, bs => xs = [] ∧ bs = []
  | d :: ds, xs, bs => ∃ x xs' b1 b2, xs = x :: xs' ∧ bs = b1 ++ b2 ∧ Lies w B d x b1 ∧ LiesL w B ds xs' b2
end
mutual
/-- a value is read as data -/
def Reads (w : World) : Dat → Value → Prop
  | .lit u, v => v = u
  | .row _ S n items, v => items.length = n * S ∧ n ≤ maxLen ∧ ∃ a cap, v = .slice a n cap ∧ ((a = none ∧ n = 0 ∧ cap = 0) ∨ (∃ b o, a = some ⟨b, o, none⟩ ∧ ReadsL w b o items) ∨ ∃ ad, a = some ad ∧ n = 0)
def ReadsL (w : World) : Nat → Nat → List Dat → Prop
  | _, _, [] => True
  | b, o, d :: ds => (∃ u, w.cell? ⟨b, o, none⟩ = some u ∧ Reads w d u) ∧ ReadsL w b (o + 1) ds
end

theorem LiesL.nil {w : World} {B : Nat} {xs : List Value} {bs : List Nat} : LiesL w B [] xs bs ↔ xs = [] ∧ bs = [] := by unfold LiesL; exact Iff.rfl
theorem LiesL.cons {w : World} {B : Nat} {d : Dat} {ds : List Dat} {xs : List Value} {bs : List Nat} : LiesL w B (d :: ds) xs bs ↔ ∃ x xs' b1 b2, xs = x :: xs' ∧ bs = b1 ++ b2 ∧ Lies w B d x b1 ∧ LiesL w B ds xs' b2 := by
  conv => lhs; unfold LiesL
theorem Lies.lit_iff {w : World} {B : Nat} {u v : Value} {bs : List Nat} : Lies w B (.lit u) v bs ↔ v = u ∧ bs = [] := by unfold Lies; exact Iff.rfl
theorem Lies.row_iff {w : World} {B : Nat} {E : TypeId} {S n : Nat} {items : List Dat} {v : Value} {bs : List Nat} : Lies w B (.row E S n items) v bs ↔ items.length = n * S ∧ ((n = 0 ∧ v = .slice none 0 0 ∧ bs = []) ∨
      ∃ g cap xs bs', v = .slice (some ⟨g, 0, none⟩) n cap ∧ w.ownsRow B E S v n xs ∧ LiesL w B items xs bs' ∧ bs = g :: bs') := by
  conv => lhs; unfold Lies

theorem own_lt {w : World} {B E S n c g : Nat} {xs : List Value} (h : w.ownsRow B E S (.slice (some ⟨g, 0, none⟩) n c) n xs) : B ≤ g ∧ g < w.heap.size := h.lt g rfl

mutual
theorem Lies.lt {w : World} {B : Nat} : ∀ {d : Dat} {v : Value} {bs : List Nat}, Lies w B d v bs → ∀ b ∈ bs, B ≤ b ∧ b < w.heap.size
  | .lit u, v, bs, h, b, hb => by rw [Lies.lit_iff] at h; rw [h.2] at hb; cases hb
  | .row E S n items, v, bs, h, b, hb => by
    rw [Lies.row_iff] at h
    rcases h.2 with ⟨_, _, rfl⟩ | ⟨g, cap, xs, bs', rfl, ho, hl, rfl⟩
    · cases hb
    · rcases List.mem_cons.1 hb with rfl | hb
      · exact own_lt ho
      · exact LiesL.lt hl b hb
theorem LiesL.lt {w : World} {B : Nat} : ∀ {ds : List Dat} {xs : List Value} {bs : List Nat}, LiesL w B ds xs bs → ∀ b ∈ bs, B ≤ b ∧ b < w.heap.size
  | [], xs, bs, h, b, hb => by rw [LiesL.nil] at h; rw [h.2] at hb; cases hb
  | d :: ds, xs, bs, h, b, hb => by
    rw [LiesL.cons] at h
    obtain ⟨x, xs', b1, b2, _, rfl, h1, h2⟩ := h
    rcases List.mem_append.1 hb with hb | hb
    · exact Lies.lt h1 b hb
    · exact LiesL.lt h2 b hb
end
mutual
/-- what was written is none of its rows -/
theorem Lies.kept {w w' : World} {B : Nat} {r : Option Nat} (hg : w.grownBy w' r) : ∀ {d : Dat} {v : Value} {bs : List Nat}, Lies w B d v bs → (∀ b ∈ bs, some b ≠ r) → Lies w' B d v bs
  | .lit u, v, bs, h, _ => by rw [Lies.lit_iff] at h ⊢; exact h
  | .row E S n items, v, bs, h, hr => by
    rw [Lies.row_iff] at h ⊢
    refine ⟨h.1, h.2.imp id ?_⟩
    rintro ⟨g, cap, xs, bs', rfl, ho, hl, rfl⟩
    exact ⟨g, cap, xs, bs', rfl, ho.kept hg (.inr (hr g (List.mem_cons_self ..))), LiesL.kept hg hl fun b hb => hr b (List.mem_cons_of_mem _ hb), rfl⟩
theorem LiesL.kept {w w' : World} {B : Nat} {r : Option Nat} (hg : w.grownBy w' r) : ∀ {ds : List Dat} {xs : List Value} {bs : List Nat}, LiesL w B ds xs bs → (∀ b ∈ bs, some b ≠ r) → LiesL w' B ds xs bs
  | [], xs, bs, h, _ => by rw [LiesL.nil] at h ⊢; exact h
  | d :: ds, xs, bs, h, hr => by
    rw [LiesL.cons] at h ⊢
    obtain ⟨x, xs', b1, b2, rfl, rfl, h1, h2⟩ := h
    exact ⟨x, xs', b1, b2, rfl, rfl, Lies.kept hg h1 fun b hb => hr b (List.mem_append_left _ hb), LiesL.kept hg h2 fun b hb => hr b (List.mem_append_right _ hb)⟩
end
mutual
theorem Lies.base {w : World} {B B' : Nat} (hB : B' ≤ B) : ∀ {d : Dat} {v : Value} {bs : List Nat}, Lies w B d v bs → Lies w B' d v bs
  | .lit u, v, bs, h => by rw [Lies.lit_iff] at h ⊢; exact h
  | .row E S n items, v, bs, h => by
    rw [Lies.row_iff] at h ⊢
    refine ⟨h.1, h.2.imp id ?_⟩
    rintro ⟨g, cap, xs, bs', rfl, ho, hl, rfl⟩
    exact ⟨g, cap, xs, bs', rfl, Heap.own_base ho hB, LiesL.base hB hl, rfl⟩
theorem LiesL.base {w : World} {B B' : Nat} (hB : B' ≤ B) : ∀ {ds : List Dat} {xs : List Value} {bs : List Nat}, LiesL w B ds xs bs → LiesL w B' ds xs bs
  | [], xs, bs, h => by rw [LiesL.nil] at h ⊢; exact h
  | d :: ds, xs, bs, h => by
    rw [LiesL.cons] at h ⊢
    obtain ⟨x, xs', b1, b2, rfl, rfl, h1, h2⟩ := h
    exact ⟨x, xs', b1, b2, rfl, rfl, Lies.base hB h1, LiesL.base hB h2⟩
end
/-- what is old is as it was -/
theorem Lies.below {w w' : World} {B B' : Nat} {d : Dat} {v : Value} {bs : List Nat} (h : Lies w B d v bs) (hb : Below B' w w') (hlt : ∀ b ∈ bs, b < B') : Lies w' B d v bs := by
  have key : ∀ (d : Dat) (v : Value) (bs : List Nat), Lies w B d v bs → (∀ b ∈ bs, b < B') → Lies w' B d v bs := by
    intro d
    refine Dat.rec (motive_1 := fun d => ∀ v bs, Lies w B d v bs → (∀ b ∈ bs, b < B') → Lies w' B d v bs) (motive_2 := fun ds => ∀ xs bs, LiesL w B ds xs bs → (∀ b ∈ bs, b < B') → LiesL w' B ds xs bs) ?_ ?_ ?_ ?_ d
    · intro u v bs h _; rw [Lies.lit_iff] at h ⊢; exact h
    · intro E S n items ih v bs h hr
      rw [Lies.row_iff] at h ⊢
      refine ⟨h.1, h.2.imp id ?_⟩
      rintro ⟨g, cap, xs, bs', rfl, ho, hl, rfl⟩
      refine ⟨g, cap, xs, bs', rfl, Heap.own_below ho hb (fun k hk => ?_), ih _ _ hl fun b hb => hr b (List.mem_cons_of_mem _ hb), rfl⟩
      obtain rfl : g = k := by simpa [Value.ownBlock] using hk
      exact hr g (List.mem_cons_self ..)
    · intro xs bs h _; rw [LiesL.nil] at h ⊢; exact h
    · intro d ds ih1 ih2 xs bs h hr
      rw [LiesL.cons] at h ⊢
      obtain ⟨x, xs', b1, b2, rfl, rfl, h1, h2⟩ := h
      exact ⟨x, xs', b1, b2, rfl, rfl, ih1 _ _ h1 fun b hb => hr b (List.mem_append_left _ hb), ih2 _ _ h2 fun b hb => hr b (List.mem_append_right _ hb)⟩
  exact key d v bs h hlt
theorem Lies.new {w w' : World} {B : Nat} {d : Dat} {v : Value} {bs : List Nat} (h : Lies w B d v bs) (hb : Below w.heap.size w w') : Lies w' B d v bs := h.below hb fun b hm => (Lies.lt h b hm).2
theorem LiesL.below {w w' : World} {B B' : Nat} (hb : Below B' w w') : ∀ {ds : List Dat} {xs : List Value} {bs : List Nat}, LiesL w B ds xs bs → (∀ b ∈ bs, b < B') → LiesL w' B ds xs bs
  | [], xs, bs, h, _ => by rw [LiesL.nil] at h ⊢; exact h
  | d :: ds, xs, bs, h, hr => by
    rw [LiesL.cons] at h ⊢
    obtain ⟨x, xs', b1, b2, rfl, rfl, h1, h2⟩ := h
    exact ⟨x, xs', b1, b2, rfl, rfl, h1.below hb fun b hb => hr b (List.mem_append_left _ hb), LiesL.below hb h2 fun b hb => hr b (List.mem_append_right _ hb)⟩
theorem LiesL.new {w w' : World} {B : Nat} {ds : List Dat} {xs : List Value} {bs : List Nat} (h : LiesL w B ds xs bs) (hb : Below w.heap.size w w') : LiesL w' B ds xs bs := LiesL.below hb h fun b hm => (LiesL.lt h b hm).2
theorem Lies.nil (w : World) (B E S : Nat) : Lies w B (.row E S 0 []) (.slice none 0 0) [] := by rw [Lies.row_iff]; exact ⟨by simp, .inl ⟨rfl, rfl, rfl⟩⟩
theorem Lies.lit (w : World) (B : Nat) (u : Value) : Lies w B (.lit u) u [] := by rw [Lies.lit_iff]; exact ⟨rfl, rfl⟩
/-- for the law of append: the cells of a row -/
theorem Lies.own {w : World} {B : Nat} {E : TypeId} {S n : Nat} {items : List Dat} {v : Value} {bs : List Nat} (h : Lies w B (.row E S n items) v bs) :
    ∃ xs bs', w.ownsRow B E S v n xs ∧ LiesL w B items xs bs' ∧ (v.ownBlock = none ∧ bs = [] ∧ bs' = [] ∨ ∃ g, v.ownBlock = some g ∧ bs = g :: bs') ∧ items.length = n * S := by
  rw [Lies.row_iff] at h
  rcases h.2 with ⟨rfl, rfl, rfl⟩ | ⟨g, cap, xs, bs', rfl, ho, hl, rfl⟩
  · obtain rfl : items = [] := List.eq_nil_of_length_eq_zero (by rw [h.1]; simp)
    exact ⟨[], [], World.ownsRow_nil _ _ _ _, LiesL.nil.2 ⟨rfl, rfl⟩, .inl ⟨rfl, rfl, rfl⟩, by simp⟩
  · exact ⟨xs, bs', ho, hl, .inr ⟨g, rfl, rfl⟩, h.1⟩
theorem LiesL.append {w : World} {B : Nat} : ∀ {ds es : List Dat} {xs ys : List Value} {b1 b2 : List Nat}, LiesL w B ds xs b1 → LiesL w B es ys b2 → LiesL w B (ds ++ es) (xs ++ ys) (b1 ++ b2)
  | [], es, xs, ys, b1, b2, h, k => by rw [LiesL.nil] at h; rw [h.1, h.2]; exact k
  | d :: ds, es, xs, ys, b1, b2, h, k => by
    rw [LiesL.cons] at h
    obtain ⟨x, xs', c1, c2, rfl, rfl, h1, h2⟩ := h
    show LiesL w B (d :: (ds ++ es)) _ _
    rw [LiesL.cons]
    exact ⟨x, xs' ++ ys, c1, c2 ++ b2, by simp, by simp, h1, LiesL.append h2 k⟩
theorem LiesL.one {w : World} {B : Nat} {d : Dat} {x : Value} {b : List Nat} (h : Lies w B d x b) : LiesL w B [d] [x] b := by
  rw [LiesL.cons]; exact ⟨x, [], b, [], rfl, by simp, h, LiesL.nil.2 ⟨rfl, rfl⟩⟩
theorem LiesL.more {w : World} {B : Nat} {d : Dat} {ds : List Dat} {x : Value} {xs : List Value} {b1 b2 : List Nat} (h : Lies w B d x b1) (k : LiesL w B ds xs b2) : LiesL w B (d :: ds) (x :: xs) (b1 ++ b2) := by
  rw [LiesL.cons]; exact ⟨x, xs, b1, b2, rfl, rfl, h, k⟩
theorem LiesL.lit {w : World} {B : Nat} {u : Value} {ds : List Dat} {xs : List Value} {b2 : List Nat} (k : LiesL w B ds xs b2) : LiesL w B (.lit u :: ds) (u :: xs) b2 := LiesL.more (Lies.lit w B u) k
theorem LiesL.len {w : World} {B : Nat} : ∀ {ds : List Dat} {xs : List Value} {bs : List Nat}, LiesL w B ds xs bs → xs.length = ds.length
  | [], xs, bs, h => by rw [LiesL.nil] at h; rw [h.1]; rfl
  | d :: ds, xs, bs, h => by
    rw [LiesL.cons] at h
    obtain ⟨x, xs', b1, b2, rfl, rfl, h1, h2⟩ := h
    simp [LiesL.len h2]
/-- AN APPEND of one element, whose cells lie apart from the row -/
theorem Lies.snoc {w w' : World} {B : Nat} {E : TypeId} {S n : Nat} {items ds : List Dat} {v : Value} {bs bs' b2 : List Nat} {xs us : List Value} {g cap : Nat}
    (hl : LiesL w B items xs bs') (hi : items.length = n * S) (hd : LiesL w B ds us b2) (hs : ds.length = S) (hbs : v.ownBlock = none ∧ bs = [] ∧ bs' = [] ∨ ∃ g, v.ownBlock = some g ∧ bs = g :: bs') (hnd : (bs ++ b2).Nodup)
    (ho : w'.ownsRow B E S (.slice (some ⟨g, 0, none⟩) (n + 1) cap) (n + 1) (xs ++ us)) (hg : w.grownBy w' v.ownBlock) (hat : v.ownBlock = some g ∨ g = w.heap.size) :
    Lies w' B (.row E S (n + 1) (items ++ ds)) (.slice (some ⟨g, 0, none⟩) (n + 1) cap) (g :: (bs' ++ b2)) ∧ (g :: (bs' ++ b2)).Nodup ∧ (∀ b ∈ g :: (bs' ++ b2), b ∈ bs ++ b2 ∨ b = w.heap.size) := by
  have hne : ∀ b ∈ bs' ++ b2, some b ≠ v.ownBlock := by
    intro b hb e
    rcases hbs with ⟨h0, _, _⟩ | ⟨r, hr, rfl⟩
    · rw [h0] at e; cases e
    · rw [hr] at e
      have hbr : b = r := Option.some.inj e
      have := (List.nodup_cons.1 (show (r :: (bs' ++ b2)).Nodup by simpa using hnd)).1
      exact this (hbr ▸ hb)
  have hl' := LiesL.kept hg hl fun b hb => hne b (List.mem_append_left _ hb)
  have hd' := LiesL.kept hg hd fun b hb => hne b (List.mem_append_right _ hb)
  have hold : ∀ b ∈ bs' ++ b2, b < w.heap.size := fun b hb => by
    rcases List.mem_append.1 hb with hb | hb
    · exact (LiesL.lt hl b hb).2
    · exact (LiesL.lt hd b hb).2
  have hnd' : (bs' ++ b2).Nodup := by
    rcases hbs with ⟨_, rfl, rfl⟩ | ⟨r, hr, rfl⟩
    · exact hnd
    · exact (List.nodup_cons.1 (show (r :: (bs' ++ b2)).Nodup by simpa using hnd)).2
  refine ⟨?_, List.nodup_cons.2 ⟨fun hm => ?_, hnd'⟩, fun b hb => ?_⟩
  · rw [Lies.row_iff]
    exact ⟨by rw [List.length_append, hi, hs, Nat.succ_mul], .inr ⟨g, cap, xs ++ us, bs' ++ b2, rfl, ho, hl'.append hd', rfl⟩⟩
  · rcases hat with hat | hat
    · exact hne g hm hat.symm
    · have := hold g hm; omega
  · rcases List.mem_cons.1 hb with rfl | hb
    · rcases hat with hat | hat
      · left
        rcases hbs with ⟨h0, _, _⟩ | ⟨r, hr, rfl⟩
        · rw [h0] at hat; cases hat
        · rw [hr] at hat; cases hat; simp
      · exact .inr hat
    · left
      rcases hbs with ⟨_, rfl, rfl⟩ | ⟨r, hr, rfl⟩
      · exact hb
      · simp only [List.cons_append]; exact List.mem_cons_of_mem _ hb

/-! reading -/
theorem ReadsL.nil {w : World} {b o : Nat} : ReadsL w b o [] ↔ True := by unfold ReadsL; exact Iff.rfl
theorem ReadsL.cons {w : World} {b o : Nat} {d : Dat} {ds : List Dat} : ReadsL w b o (d :: ds) ↔ (∃ u, w.cell? ⟨b, o, none⟩ = some u ∧ Reads w d u) ∧ ReadsL w b (o + 1) ds := by conv => lhs; unfold ReadsL
theorem Reads.lit_iff {w : World} {u v : Value} : Reads w (.lit u) v ↔ v = u := by unfold Reads; exact Iff.rfl
theorem Reads.row_iff {w : World} {E : TypeId} {S n : Nat} {items : List Dat} {v : Value} : Reads w (.row E S n items) v ↔ items.length = n * S ∧ n ≤ maxLen ∧ ∃ a cap, v = .slice a n cap ∧ ((a = none ∧ n = 0 ∧ cap = 0) ∨ (∃ b o, a = some ⟨b, o, none⟩ ∧ ReadsL w b o items) ∨ ∃ ad, a = some ad ∧ n = 0) := by conv => lhs; unfold Reads
theorem ReadsL.get {w : World} {b : Nat} : ∀ {ds : List Dat} {o k : Nat} {d : Dat}, ReadsL w b o ds → ds[k]? = some d → ∃ u, w.cell? ⟨b, o + k, none⟩ = some u ∧ Reads w d u
  | [], o, k, d, _, hk => by simp at hk
  | e :: ds, o, 0, d, h, hk => by
    rw [ReadsL.cons] at h
    have : e = d := by simpa using hk
    subst this
    exact h.1
  | e :: ds, o, k + 1, d, h, hk => by
    rw [ReadsL.cons] at h
    have := ReadsL.get (k := k) h.2 (by simpa using hk)
    rwa [show o + 1 + k = o + (k + 1) by omega] at this
theorem ReadsL.drop {w : World} {b : Nat} : ∀ {ds : List Dat} {o : Nat} (k : Nat), ReadsL w b o ds → ReadsL w b (o + k) (ds.drop k)
  | ds, o, 0, h => by simpa using h
  | [], o, k + 1, h => by simp [ReadsL.nil]
  | e :: ds, o, k + 1, h => by
    rw [ReadsL.cons] at h
    have := ReadsL.drop (o := o + 1) k h.2
    rw [show o + 1 + k = o + (k + 1) by omega] at this
    simpa using this
mutual
theorem Reads.below {w w' : World} (hb : Below w.heap.size w w') : ∀ {d : Dat} {v : Value}, Reads w d v → Reads w' d v
  | .lit u, v, h => by rw [Reads.lit_iff] at h ⊢; exact h
  | .row E S n items, v, h => by
    rw [Reads.row_iff] at h ⊢
    obtain ⟨h1, h0, a, cap, rfl, h2⟩ := h
    refine ⟨h1, h0, a, cap, rfl, h2.imp id fun h2 => h2.imp ?_ id⟩
    rintro ⟨b, o, rfl, h3⟩
    exact ⟨b, o, rfl, ReadsL.below hb h3⟩
theorem ReadsL.below {w w' : World} (hb : Below w.heap.size w w') : ∀ {ds : List Dat} {b o : Nat}, ReadsL w b o ds → ReadsL w' b o ds
  | [], b, o, _ => by rw [ReadsL.nil]; trivial
  | d :: ds, b, o, h => by
    rw [ReadsL.cons] at h ⊢
    obtain ⟨⟨u, hu, hr⟩, h2⟩ := h
    exact ⟨⟨u, (hb.cell (p := ⟨b, o, none⟩) (World.block_lt_of_cell? _ _ hu)).trans hu, Reads.below hb hr⟩, ReadsL.below hb h2⟩
end
theorem own_len {w : World} {B : Nat} {E : TypeId} {S n : Nat} {v : Value} {xs : List Value} (h : w.ownsRow B E S v n xs) : n ≤ maxLen := by
  rcases h.2 with ⟨_, rfl⟩ | ⟨g, cap, cur, _, _, _, h1, h2, _⟩
  · exact Nat.zero_le _
  · exact Nat.le_trans h1 h2
mutual
/-- what lies is read -/
theorem Lies.reads {w : World} {B : Nat} : ∀ {d : Dat} {v : Value} {bs : List Nat}, Lies w B d v bs → Reads w d v
  | .lit u, v, bs, h => by rw [Lies.lit_iff] at h; rw [Reads.lit_iff]; exact h.1
  | .row E S n items, v, bs, h => by
    rw [Lies.row_iff] at h
    rw [Reads.row_iff]
    refine ⟨h.1, ?_⟩
    rcases h.2 with ⟨rfl, rfl, rfl⟩ | ⟨g, cap, xs, bs', rfl, ho, hl, rfl⟩
    · exact ⟨Nat.zero_le _, none, 0, rfl, .inl ⟨rfl, rfl, rfl⟩⟩
    · refine ⟨own_len ho, some ⟨g, 0, none⟩, cap, rfl, .inr (.inl ⟨g, 0, rfl, LiesL.reads hl fun k u hu => ?_⟩)⟩
      have hk : k < n * S := by rw [← ho.1]; exact (List.getElem?_eq_some_iff.1 hu).1
      rw [Nat.zero_add, ho.cellAt k hk]; exact hu
theorem LiesL.reads {w : World} {B : Nat} : ∀ {ds : List Dat} {xs : List Value} {bs : List Nat} {b o : Nat}, LiesL w B ds xs bs → (∀ k u, xs[k]? = some u → w.cell? ⟨b, o + k, none⟩ = some u) → ReadsL w b o ds
  | [], xs, bs, b, o, _, _ => by rw [ReadsL.nil]; trivial
  | d :: ds, xs, bs, b, o, h, hc => by
    rw [LiesL.cons] at h
    obtain ⟨x, xs', b1, b2, rfl, rfl, h1, h2⟩ := h
    rw [ReadsL.cons]
    refine ⟨⟨x, by have := hc 0 x rfl; simpa using this, Lies.reads h1⟩, LiesL.reads h2 fun k u hu => ?_⟩
    have := hc (k + 1) u (by simpa using hu)
    rwa [show o + (k + 1) = o + 1 + k by omega] at this
end
end Go.Proofs.YtghebacphjglbaaGreat.Dat
/- Data in memory: a store into a row, and what lies deeper is turned. No function of a program. -/
namespace Go.Proofs.YtghebacphjglbaaGreat.Dat
open Go.RowKit Go.Proofs.YtghebacphjglbaaGreat.Heap

theorem own_same {w w' : World} {B E S n : Nat} {v : Value} {xs : List Value} (h : w.ownsRow B E S v n xs) (hg : ∀ g, v.ownBlock = some g → w'.heap[g]? = w.heap[g]?) : w'.ownsRow B E S v n xs := by
  refine ⟨h.1, h.2.imp id ?_⟩
  rintro ⟨g, cap, cur, rfl, hb, hgg, rest⟩
  exact ⟨g, cap, cur, rfl, hb, (hg g rfl).trans hgg, rest⟩
mutual
theorem Lies.same {w w' : World} {B : Nat} : ∀ {d : Dat} {v : Value} {bs : List Nat}, Lies w B d v bs → (∀ b ∈ bs, w'.heap[b]? = w.heap[b]?) → Lies w' B d v bs
  | .lit u, v, bs, h, _ => by rw [Lies.lit_iff] at h ⊢; exact h
  | .row E S n items, v, bs, h, hr => by
    rw [Lies.row_iff] at h ⊢
    refine ⟨h.1, h.2.imp id ?_⟩
    rintro ⟨g, cap, xs, bs', rfl, ho, hl, rfl⟩
    exact ⟨g, cap, xs, bs', rfl, own_same ho (fun k hk => by cases hk; exact hr _ (List.mem_cons_self ..)), LiesL.same hl fun b hb => hr b (List.mem_cons_of_mem _ hb), rfl⟩
theorem LiesL.same {w w' : World} {B : Nat} : ∀ {ds : List Dat} {xs : List Value} {bs : List Nat}, LiesL w B ds xs bs → (∀ b ∈ bs, w'.heap[b]? = w.heap[b]?) → LiesL w' B ds xs bs
  | [], xs, bs, h, _ => by rw [LiesL.nil] at h ⊢; exact h
  | d :: ds, xs, bs, h, hr => by
    rw [LiesL.cons] at h ⊢
    obtain ⟨x, xs', b1, b2, rfl, rfl, h1, h2⟩ := h
    exact ⟨x, xs', b1, b2, rfl, rfl, Lies.same h1 fun b hb => hr b (List.mem_append_left _ hb), LiesL.same h2 fun b hb => hr b (List.mem_append_right _ hb)⟩
end
/-- one of a list of data, and what it may be turned into -/
theorem LiesL.at {w : World} {B : Nat} : ∀ {ds : List Dat} {xs : List Value} {bs : List Nat} (j : Nat) {d : Dat}, LiesL w B ds xs bs → ds[j]? = some d →
    ∃ x b1 b2 b3, xs[j]? = some x ∧ bs = b1 ++ (b2 ++ b3) ∧ Lies w B d x b2 ∧ ∀ (w' : World) (d' : Dat) (x' : Value), (∀ i ∈ b1 ++ b3, w'.heap[i]? = w.heap[i]?) → Lies w' B d' x' b2 → LiesL w' B (ds.set j d') (xs.set j x') bs
  | [], xs, bs, j, d, _, hj => by simp at hj
  | e :: ds, xs, bs, 0, d, h, hj => by
    obtain rfl : e = d := by simpa using hj
    rw [LiesL.cons] at h
    obtain ⟨x, xs', b1, b2, rfl, rfl, h1, h2⟩ := h
    refine ⟨x, [], b1, b2, rfl, rfl, h1, fun w' d' x' hs hd => ?_⟩
    simp only [List.set_cons_zero]
    rw [LiesL.cons]
    exact ⟨x', xs', b1, b2, rfl, rfl, hd, LiesL.same h2 fun i hi => hs i (by simpa using hi)⟩
  | e :: ds, xs, bs, j + 1, d, h, hj => by
    rw [LiesL.cons] at h
    obtain ⟨x, xs', b1, b2, rfl, rfl, h1, h2⟩ := h
    obtain ⟨y, c1, c2, c3, hy, rfl, hl, hm⟩ := LiesL.at j h2 (by simpa using hj)
    refine ⟨y, b1 ++ c1, c2, c3, by simpa using hy, by simp, hl, fun w' d' x' hs hd => ?_⟩
    simp only [List.set_cons_succ]
    rw [LiesL.cons]
    refine ⟨x, xs'.set j x', b1, c1 ++ (c2 ++ c3), rfl, rfl, Lies.same h1 fun i hi => hs i (by simp [hi]), hm w' d' x' (fun i hi => hs i ?_) hd⟩
    simp only [List.mem_append] at hi ⊢
    rcases hi with hi | hi
    · exact .inl (.inr hi)
    · exact .inr hi
/-- one of a row's cells: what may be turned beneath it (the first), or stored into it (the second) -/
theorem Lies.at {w : World} {B E S n : Nat} {items : List Dat} {v : Value} {bk : List Nat} (h : Lies w B (.row E S n items) v bk) (hnd : bk.Nodup) (j : Nat) {d : Dat} (hj : items[j]? = some d) :
    ∃ g cap x b2, v = .slice (some ⟨g, 0, none⟩) n cap ∧ B ≤ g ∧ g < w.heap.size ∧ n ≤ maxLen ∧ Lies w B d x b2 ∧ w.cell? ⟨g, j, none⟩ = some x ∧ w.frozen? ⟨g, j, none⟩ = false ∧ g ∉ b2 ∧ g ∈ bk ∧ (∀ i ∈ b2, i ∈ bk) ∧ b2.Nodup ∧
      (∀ (w' : World) (d' : Dat), (∀ i ∈ bk, i ∉ b2 → w'.heap[i]? = w.heap[i]?) → Lies w' B d' x b2 → Lies w' B (.row E S n (items.set j d')) v bk) ∧
      ∀ (d' : Dat) (x' : Value), Lies w B d' x' b2 → Lies (w.setCell ⟨g, j, none⟩ x') B (.row E S n (items.set j d')) v bk := by
  rw [Lies.row_iff] at h
  obtain ⟨hlen, h⟩ := h
  have hjl : j < items.length := (List.getElem?_eq_some_iff.1 hj).1
  rcases h with ⟨rfl, _, _⟩ | ⟨g, cap, xs, bs', rfl, ho, hl, rfl⟩
  · rw [Nat.zero_mul] at hlen; omega
  obtain ⟨x, b1, b2, b3, hx, rfl, hd, hm⟩ := hl.at j hj
  have hxl : xs.length = n * S := ho.1
  obtain ⟨hg, hnd'⟩ := List.nodup_cons.1 hnd
  have hg2 : g ∉ b2 := fun hh => hg (by simp [hh])
  have hcell := ho.cells rfl j x hx
  have hadd : (⟨g, 0, none⟩ : Addr).add j = ⟨g, j, none⟩ := by unfold Addr.add; split <;> simp_all
  rw [hadd] at hcell
  have hgl := own_lt ho
  have hb13 : ∀ i ∈ b1 ++ b3, i ∈ b1 ++ (b2 ++ b3) ∧ i ∉ b2 := fun i hi => by
    refine ⟨by simp only [List.mem_append] at hi ⊢; rcases hi with hi | hi <;> simp [hi], fun h2 => ?_⟩
    rcases List.mem_append.1 hi with h1 | h3
    · exact (List.nodup_append.1 hnd').2.2 i h1 i (List.mem_append_left _ h2) rfl
    · exact (List.nodup_append.1 (List.nodup_append.1 hnd').2.1).2.2 i h2 i h3 rfl
  obtain ⟨g', cap', cur, hv, hb, hgg, hn1, hn2, hcs, htk⟩ : ∃ g' cap' cur, (Value.slice (some ⟨g, 0, none⟩) n cap) = .slice (some ⟨g', 0, none⟩) n cap' ∧ B ≤ g' ∧ w.heap[g']? = some (.cells cur E (0, 0)) ∧ n ≤ cap' ∧ cap' ≤ maxLen ∧ cur.size = cap' * S ∧ cur.toList.take (n * S) = xs := by
    rcases ho.2 with ⟨h, _⟩ | h
    · cases h
    · exact h
  cases hv
  refine ⟨g, cap, x, b2, rfl, hgl.1, hgl.2, Nat.le_trans hn1 hn2, hd, hcell, frozen_of_row w g j _ _ hgg, hg2, List.mem_cons_self .., fun i hi => List.mem_cons_of_mem _ (by simp [hi]), (List.nodup_append.1 (List.nodup_append.1 hnd').2.1).1, fun w' d' hs hd' => ?_, fun d' x' hd' => ?_⟩
  · rw [Lies.row_iff]
    refine ⟨by simpa using hlen, .inr ⟨g, cap, xs, b1 ++ (b2 ++ b3), rfl, own_same ho (fun k hk => by cases hk; exact hs _ (List.mem_cons_self ..) hg2), ?_, rfl⟩⟩
    have := hm w' d' x (fun i hi => hs i (List.mem_cons_of_mem _ (hb13 i hi).1) (hb13 i hi).2) hd'
    have e : xs.set j x = xs := by
      apply List.ext_getElem?
      intro k
      rw [List.getElem?_set]
      split
      · rename_i hk; subst hk; rw [hx]; simp [(List.getElem?_eq_some_iff.1 hx).1]
      · rfl
    rwa [e] at this
  · have hfar : ∀ i, i ≠ g → (w.setCell ⟨g, j, none⟩ x').heap[i]? = w.heap[i]? := fun i hi => Below.heap_setCell _ _ _ _ hi
    have hne : ∀ i ∈ b1 ++ (b2 ++ b3), i ≠ g := fun i hi e => hg (e ▸ hi)
    rw [Lies.row_iff]
    refine ⟨by simpa using hlen, .inr ⟨g, cap, xs.set j x', b1 ++ (b2 ++ b3), rfl, (ho.stored j x').1, hm _ d' x' (fun i hi => hfar i (hne i (hb13 i hi).1)) (Lies.same hd' fun i hi => hfar i (hne i (by simp [hi]))), rfl⟩⟩
end Go.Proofs.YtghebacphjglbaaGreat.Dat
