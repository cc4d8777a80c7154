/- node's looks: helpers; what a node of each kind is. -/
import Derived.Test.YtkjpdhnibfhaaaaNodeJ
namespace Go.Proofs.Ytkjpdhnibfhaaaa.NodeK
open Go.RowKit Go.Proofs.Ytkjpdhnibfhaaaa.Nodey Go.Proofs.Ytkjpdhnibfhaaaa.NodeA Go.Proofs.Ytkjpdhnibfhaaaa.NodeB Go.Proofs.Ytkjpdhnibfhaaaa.NodeC Go.Proofs.Ytkjpdhnibfhaaaa.NodeD Go.Proofs.Ytkjpdhnibfhaaaa.NodeE Go.Proofs.Ytkjpdhnibfhaaaa.NodeF Go.Proofs.Ytkjpdhnibfhaaaa.NodeG Go.Proofs.Ytkjpdhnibfhaaaa.NodeH Go.Proofs.Ytkjpdhnibfhaaaa.NodeI Go.Proofs.Ytkjpdhnibfhaaaa.NodeJ Go.Proofs.Ytkjpdhnibfhaaaa.Cut

/-- right, or the panic -/
def okB (b : Bool) : Ending := if b = true then .returned (.bool true) else .panicked thrownW
theorem panic_post {P : Program} {fn : Func} {R : Ending → World → Prop} {a : Act} {w : World} {c : List PanicEntry} (h0 : a.defers = []) (h : R (.panicked c) w) : bodyPost P fn R (.panic c) a w := ⟨h0, h⟩
theorem okOr_true : okOr true = .returned (.tuple #[]) := rfl
theorem okOr_false : okOr false = .panicked thrownW := rfl
/-- a look's box -/
structure BoxAt (w : World) (H : Nat) (v0 v1 v2 v3 v4 v5 : Value) : Prop where
  c0 : w.cell? ⟨H, 0, none⟩ = some v0
  c1 : w.cell? ⟨H, 1, none⟩ = some v1
  c2 : w.cell? ⟨H, 2, none⟩ = some v2
  c3 : w.cell? ⟨H, 3, none⟩ = some v3
  c4 : w.cell? ⟨H, 4, none⟩ = some v4
  c5 : w.cell? ⟨H, 5, none⟩ = some v5
theorem BoxAt.new {w : World} {v0 v1 v2 v3 v4 v5 : Value} {T : TypeId} : BoxAt (w.alloc (.cells #[v0, v1, v2, v3, v4, v5] T)) w.heap.size v0 v1 v2 v3 v4 v5 := ⟨kernel_cell, kernel_cell, kernel_cell, kernel_cell, kernel_cell, kernel_cell⟩
theorem cell_on {w w' : World} {q : Addr} {v : Value} (hb : Below w.heap.size w w') (h : w.cell? q = some v) : w'.cell? q = some v := (hb.cell (World.block_lt_of_cell? _ _ h)).trans h
theorem BoxAt.below {w w' : World} {H : Nat} {v0 v1 v2 v3 v4 v5 : Value} (h : BoxAt w H v0 v1 v2 v3 v4 v5) (hb : Below w.heap.size w w') : BoxAt w' H v0 v1 v2 v3 v4 v5 :=
  ⟨cell_on hb h.c0, cell_on hb h.c1, cell_on hb h.c2, cell_on hb h.c3, cell_on hb h.c4, cell_on hb h.c5⟩
theorem kinds1 {a : Nat} (w : World) : Kinds (w.alloc (.cells #[.int .u8 (a : Int)] 22)) w.heap.size [a] := fun j b hj => by
  rcases j with _ | j
  · cases hj; exact kernel_cell
  · simp at hj
theorem kinds2 {a b : Nat} (w : World) : Kinds (w.alloc (.cells #[.int .u8 (a : Int), .int .u8 (b : Int)] 22)) w.heap.size [a, b] := fun j b hj => by
  rcases j with _ | _ | j
  · cases hj; exact kernel_cell
  · cases hj; exact kernel_cell
  · simp at hj
theorem mustA1 (a : Bool) (u : World) : Calls Try.prog 22 #[.slice (some ⟨u.heap.size, 0, none⟩) 1 1] (u.alloc (.cells #[.bool a] 4)) fun e w' => e = okOr a ∧ Below u.heap.size u w' :=
  (must_one kernel_cell).mono fun _ _ h => ⟨h.1, by rw [h.2]; exact (Below.refl _ _).alloc (Nat.le_refl _) _⟩
theorem mustA2 (a b : Bool) (u : World) : Calls Try.prog 22 #[.slice (some ⟨u.heap.size, 0, none⟩) 2 2] (u.alloc (.cells #[.bool a, .bool b] 4)) fun e w' => e = okOr (a && b) ∧ Below u.heap.size u w' :=
  (must_two kernel_cell kernel_cell).mono fun _ _ h => ⟨h.1, by rw [h.2]; exact (Below.refl _ _).alloc (Nat.le_refl _) _⟩
theorem mustA3 (a b c : Bool) (u : World) : Calls Try.prog 22 #[.slice (some ⟨u.heap.size, 0, none⟩) 3 3] (u.alloc (.cells #[.bool a, .bool b, .bool c] 4)) fun e w' => e = okOr (a && b && c) ∧ Below u.heap.size u w' :=
  (must_three kernel_cell kernel_cell kernel_cell).mono fun _ _ h => ⟨h.1, by rw [h.2]; exact (Below.refl _ _).alloc (Nat.le_refl _) _⟩
theorem mustA4 (a b c d : Bool) (u : World) : Calls Try.prog 22 #[.slice (some ⟨u.heap.size, 0, none⟩) 4 4] (u.alloc (.cells #[.bool a, .bool b, .bool c, .bool d] 4)) fun e w' => e = okOr (a && b && c && d) ∧ Below u.heap.size u w' :=
  (must_four kernel_cell kernel_cell kernel_cell kernel_cell).mono fun _ _ h => ⟨h.1, by rw [h.2]; exact (Below.refl _ _).alloc (Nat.le_refl _) _⟩
theorem ofA1 (a : Nat) (u : World) : Calls Try.prog 41 #[.slice (some ⟨u.heap.size, 0, none⟩) 1 1] (u.alloc (.cells #[.int .u8 (a : Int)] 22)) fun e w' => ∃ v, e = .returned v ∧ IsP w' v (fun k => [a].contains k) ∧ Below u.heap.size u w' :=
  (of_any (l := [a]) (by simp) (kinds1 _)).mono fun _ _ ⟨v, h1, h2, h3⟩ => ⟨v, h1, h2, ((Below.refl _ _).alloc (Nat.le_refl _) _).trans (h3.mono (by simp))⟩
theorem funs1 {f : FuncId} {q : Nat → Bool} (hq : ∀ w, IsP w (.func (.func f) #[] #[]) q) (u : World) (T : TypeId) : Funs (u.alloc (.cells #[.func (.func f) #[] #[]] T)) (some ⟨u.heap.size, 0, none⟩) [q] :=
  Or.inr ⟨_, rfl, fun j b hj => by
    rcases j with _ | j
    · cases hj; exact ⟨_, kernel_cell, hq _⟩
    · simp at hj⟩
theorem funs2 {f : FuncId} {q : Nat → Bool} (hq : ∀ w, IsP w (.func (.func f) #[] #[]) q) (u : World) (T : TypeId) : Funs (u.alloc (.cells #[.func (.func f) #[] #[], .func (.func f) #[] #[]] T)) (some ⟨u.heap.size, 0, none⟩) [q, q] :=
  Or.inr ⟨_, rfl, fun j b hj => by
    rcases j with _ | _ | j
    · cases hj; exact ⟨_, kernel_cell, hq _⟩
    · cases hj; exact ⟨_, kernel_cell, hq _⟩
    · simp at hj⟩
/- the plain side -/
theorem areB_eq (l : List Nd) (q : Nat → Bool) (fr to : Nat) : areB l q fr to = (((l.map Nd.kind).take to).drop fr).all q := by
  unfold areB
  rw [← List.map_take, ← List.map_drop, List.all_map]; rfl
theorem areB_all {l : List Nd} {q : Nat → Bool} {n : Nat} (h : l.length = n) : areB l q 0 n = (l.map Nd.kind).all q := by
  rw [areB_eq, List.drop_zero, List.take_of_length_le (by simp [h])]
theorem areB_drop {l : List Nd} {q : Nat → Bool} {n k : Nat} (h : l.length = n) : areB l q k n = ((l.map Nd.kind).drop k).all q := by
  rw [areB_eq, List.take_of_length_le (by simp [h])]
theorem areB_take {l : List Nd} {q : Nat → Bool} {k : Nat} : areB l q 0 k = ((l.map Nd.kind).take k).all q := by
  rw [areB_eq, List.drop_zero]
theorem in1 (a : Nat) : (fun k => [a].contains k) = fun k => k == a := by funext k; rw [Bool.eq_iff_iff]; simp
theorem in2 (a b : Nat) : (fun k => [a, b].contains k) = fun k => k == a || k == b := by funext k; rw [Bool.eq_iff_iff]; simp
theorem allB_0 {l : List Nd} : allB [] l = (l.map Nd.kind == []) := by unfold allB; cases l <;> simp
theorem allB_1 {l : List Nd} {q : Nat → Bool} : allB [q] l = (decide ((l.map Nd.kind).length = 1) && (l.map Nd.kind).all q) := by
  unfold allB
  rcases l with _ | ⟨a, _ | ⟨b, l⟩⟩ <;> simp
theorem allB_2 {l : List Nd} {q : Nat → Bool} : allB [q, q] l = (decide ((l.map Nd.kind).length = 2) && (l.map Nd.kind).all q) := by
  unfold allB
  rcases l with _ | ⟨a, _ | ⟨b, _ | ⟨c, l⟩⟩⟩ <;> simp
theorem allB_3 {l : List Nd} {a b c : Nat} : allB [fun k => [a].contains k, fun k => [b].contains k, fun k => [c].contains k] l = (l.map Nd.kind == [a, b, c]) := by
  unfold allB
  rw [in1, in1, in1]
  rcases l with _ | ⟨x, _ | ⟨y, _ | ⟨z, _ | ⟨t, l⟩⟩⟩⟩ <;> simp
/-- what a NodeDefine's, a NodeAssign's sides are -/
def sidesB (x : Nd) : Bool :=
  x.text.data.toList == [] && decide (1 ≤ x.num) && decide (x.num < x.kids.length) &&
    (if x.kind = 11 then areB x.kids (fun k => [25].contains k) 0 x.num.toNat else (x.kids.take x.num.toNat).all placeN) &&
    (if (x.kids.length : Int) - x.num = 1 ∧ 1 < x.num then areB x.kids (fun k => [28].contains k) x.num.toNat x.kids.length
     else if (x.kids.length : Int) - x.num = 1 ∨ (x.kids.length : Int) - x.num = x.num ∧ x.kind = 12 then areB x.kids saidK x.num.toNat x.kids.length else false)
end Go.Proofs.Ytkjpdhnibfhaaaa.NodeK
