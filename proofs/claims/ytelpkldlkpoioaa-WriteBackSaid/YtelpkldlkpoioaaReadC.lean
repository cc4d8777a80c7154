/- The reader of grammars' texts: words as data; what a part of a word does. -/
import Derived.Test.YtelpkldlkpoioaaReadB
import Derived.Deep.RegionHeld3
import Derived.IntWalk
namespace Go.Proofs.Ytelpkldlkpoioaa.ReadC
open Go.RowKit Go.Proofs.Ytelpkldlkpoioaa.Lexy Go.Proofs.Ytelpkldlkpoioaa.LexA Go.Proofs.Ytelpkldlkpoioaa.LexB Go.Proofs.Ytelpkldlkpoioaa.LexC Go.Proofs.Ytelpkldlkpoioaa.LexD Go.Proofs.Ytelpkldlkpoioaa.LexE Go.Proofs.Ytelpkldlkpoioaa.LexF Go.Proofs.Ytelpkldlkpoioaa.LexG Go.Proofs.Ytelpkldlkpoioaa.Heap Go.Proofs.Ytelpkldlkpoioaa.Dat Go.Proofs.Ytelpkldlkpoioaa.Ready Go.Proofs.Ytelpkldlkpoioaa.ReadA Go.Proofs.Ytelpkldlkpoioaa.ReadB

mutual
/-- a word's cells -/
def wdD : Wd → List Dat
  | .mk n ws a => [.lit (.string (bs n)), .row 54 3 ws.length (wdsD ws), .lit (.int .i64 (a : Int))]
def wdsD : List Wd → List Dat
  | [] => []
  | x :: xs => wdD x ++ wdsD xs
end
theorem wdD_len (x : Wd) : (wdD x).length = 3 := by cases x; simp [wdD]
theorem wdsD_nil : wdsD [] = [] := by simp [wdsD]
theorem wdsD_cons (x : Wd) (xs : List Wd) : wdsD (x :: xs) = wdD x ++ wdsD xs := by simp [wdsD]
theorem wdsD_snoc (xs : List Wd) (x : Wd) : wdsD (xs ++ [x]) = wdsD xs ++ wdD x := by
  induction xs with
  | nil => simp [wdsD_cons, wdsD_nil]
  | cons y ys ih => rw [List.cons_append, wdsD_cons, wdsD_cons, ih, List.append_assoc]

/-- below B all is as it was, but for one block -/
structure Bx (B b : Nat) (w w' : World) : Prop where
  os : w'.os = w.os
  tape : w'.tape = w.tape
  output : w'.output = w.output
  size : w.heap.size ≤ w'.heap.size
  block : ∀ i, i < B → i ≠ b → w'.heap[i]? = w.heap[i]?
theorem Bx.refl (B b : Nat) (w : World) : Bx B b w w := ⟨rfl, rfl, rfl, Nat.le_refl _, fun _ _ _ => rfl⟩
theorem Bx.trans {B b : Nat} {w w1 w2 : World} (h : Bx B b w w1) (k : Bx B b w1 w2) : Bx B b w w2 :=
  ⟨k.os.trans h.os, k.tape.trans h.tape, k.output.trans h.output, Nat.le_trans h.size k.size, fun i hi hb => (k.block i hi hb).trans (h.block i hi hb)⟩
theorem Bx.below {B b : Nat} {w w1 w2 : World} (h : Bx B b w w1) (k : Below w1.heap.size w1 w2) (hB : B ≤ w1.heap.size) : Bx B b w w2 :=
  h.trans ⟨k.os, k.tape, k.output, k.size, fun i hi _ => k.block i (by omega)⟩
theorem Bx.grown {B b : Nat} {w w1 w2 : World} {r : Option Nat} (h : Bx B b w w1) (k : w1.grownBy w2 r) (hB : B ≤ w1.heap.size) (hr : ∀ j, r = some j → j = b ∨ B ≤ j) : Bx B b w w2 :=
  h.trans ⟨k.os, k.tape, k.output, k.size, fun i hi hb => k.block i (by omega) (fun e => by rcases hr i e.symm with h | h <;> omega)⟩
theorem Bx.set {B b : Nat} {w w1 : World} (h : Bx B b w w1) {j : Nat} (hj : j = b ∨ B ≤ j) (o : Nat) (v : Value) (hB : B ≤ w1.heap.size) : Bx B b w (w1.setCell ⟨j, o, none⟩ v) :=
  h.grown (Heap.grown_set w1 ⟨j, o, none⟩ v) hB (fun k e => by simp at e; omega)
theorem Bx.drewN {B b : Nat} {w w1 : World} (h : Bx B b w w1) (n : Nat) : Bx B b w (w1.drewN n) := h.trans ⟨rfl, rfl, rfl, Nat.le_refl _, fun _ _ _ => rfl⟩
theorem Bx.to {b : Nat} {w w1 : World} (h : Bx w.heap.size b w w1) : w.grownBy w1 (some b) := ⟨h.os, h.tape, h.output, h.size, fun i hi hb => h.block i hi (fun e => hb (by rw [e]))⟩

/-- what a word's part stands in: the word's cells, the reader's pointer, how deep -/
structure EnvW (w : World) (Hw Hr Hd b d : Nat) (n : ByteArray) (va : Value) (p : Int) : Prop where
  hw : w.heap[Hw]? = some (.cells #[.string n, va, .int .i64 p] 54 (0, 0))
  hr : w.heap[Hr]? = some (.cells #[.pointer (some ⟨b, 0, none⟩)] 71 (0, 0))
  hd : w.heap[Hd]? = some (.cells #[.int .i64 (d : Int)] 3 (0, 0))
theorem EnvW.grown {w w' : World} {Hw Hr Hd b d : Nat} {n : ByteArray} {va : Value} {p : Int} {r : Option Nat} (h : EnvW w Hw Hr Hd b d n va p) (k : w.grownBy w' r) (h1 : some Hw ≠ r) (h2 : some Hr ≠ r) (h3 : some Hd ≠ r) : EnvW w' Hw Hr Hd b d n va p :=
  ⟨(k.block Hw (Array.getElem?_eq_some_iff.1 h.hw).1 h1).trans h.hw, (k.block Hr (Array.getElem?_eq_some_iff.1 h.hr).1 h2).trans h.hr, (k.block Hd (Array.getElem?_eq_some_iff.1 h.hd).1 h3).trans h.hd⟩
theorem EnvW.new {w w' : World} {Hw Hr Hd b d : Nat} {n : ByteArray} {va : Value} {p : Int} (h : EnvW w Hw Hr Hd b d n va p) (k : Below w.heap.size w w') : EnvW w' Hw Hr Hd b d n va p := h.grown (grown_below k none) (by simp) (by simp) (by simp)
theorem EnvW.put {w : World} {Hw Hr Hd b d : Nat} {n : ByteArray} {va : Value} {p : Int} (h : EnvW w Hw Hr Hd b d n va p) (v : Value) (h2 : Hr ≠ Hw) (h3 : Hd ≠ Hw) : EnvW (w.setCell ⟨Hw, 1, none⟩ v) Hw Hr Hd b d n v p :=
  ⟨heap_setCell_same w Hw 1 _ _ v h.hw, (Below.heap_setCell _ _ _ _ h2).trans h.hr, (Below.heap_setCell _ _ _ _ h3).trans h.hd⟩

/-- what comes of a word that is one -/
def WordP (b g c : Nat) (T : List Tok) (k1 : Nat) (w : World) : Wd → Ending → World → Prop
  | .mk n ws a, e, w' => ∃ (va : Option Addr) (vc : Nat) (bk : List Nat), e = .returned (.agg #[.string (bs n), .slice va ws.length vc, .int .i64 (a : Int)]) ∧ Lies w' w.heap.size (.row 54 3 ws.length (wdsD ws)) (.slice va ws.length vc) bk ∧ bk.Nodup ∧ w.grownBy w' (some b) ∧ Rr w' b g c T k1
theorem far1 {w : World} {H g : Nat} (h : H ≠ g) {o i : Nat} {a : Value} : (w.setCell ⟨g, i, none⟩ a).cell? ⟨H, o, none⟩ = w.cell? ⟨H, o, none⟩ := World.cell?_of_block (Below.heap_setCell _ _ _ _ h)
theorem far3 {w : World} {H g : Nat} (h : H ≠ g) {o i j k : Nat} {a b c : Value} : (((w.setCell ⟨g, i, none⟩ a).setCell ⟨g, j, none⟩ b).setCell ⟨g, k, none⟩ c).cell? ⟨H, o, none⟩ = w.cell? ⟨H, o, none⟩ := (far1 h).trans ((far1 h).trans (far1 h))
theorem far3c {w : World} {H g o : Nat} {u : Value} (h : H ≠ g) (hu : w.cell? ⟨H, o, none⟩ = some u) : ∀ (i j k : Nat) (a b c : Value), (((w.setCell ⟨g, i, none⟩ a).setCell ⟨g, j, none⟩ b).setCell ⟨g, k, none⟩ c).cell? ⟨H, o, none⟩ = some u := fun _ _ _ _ _ _ => (far3 h).trans hu
theorem far3f {w : World} {H g o : Nat} {u : Bool} (h : H ≠ g) (hu : w.frozen? ⟨H, o, none⟩ = u) : ∀ (i j k : Nat) (a b c : Value), (((w.setCell ⟨g, i, none⟩ a).setCell ⟨g, j, none⟩ b).setCell ⟨g, k, none⟩ c).frozen? ⟨H, o, none⟩ = u := fun _ _ _ _ _ _ =>
  (World.frozen?_of_block ((Below.heap_setCell _ _ _ _ h).trans ((Below.heap_setCell _ _ _ _ h).trans (Below.heap_setCell _ _ _ _ h)))).trans hu
theorem far1c {w : World} {H g o : Nat} {u : Value} (h : H ≠ g) (hu : w.cell? ⟨H, o, none⟩ = some u) : ∀ (i : Nat) (a : Value), (w.setCell ⟨g, i, none⟩ a).cell? ⟨H, o, none⟩ = some u := fun _ _ => (far1 h).trans hu
theorem far1f {w : World} {H g o : Nat} {u : Bool} (h : H ≠ g) (hu : w.frozen? ⟨H, o, none⟩ = u) : ∀ (i : Nat) (a : Value), (w.setCell ⟨g, i, none⟩ a).frozen? ⟨H, o, none⟩ = u := fun _ _ => (World.frozen?_of_block (Below.heap_setCell _ _ _ _ h)).trans hu
theorem setCell_comm (w : World) {g H : Nat} (h : g ≠ H) (i j : Nat) (a b : Value) : (w.setCell ⟨g, i, none⟩ a).setCell ⟨H, j, none⟩ b = (w.setCell ⟨H, j, none⟩ b).setCell ⟨g, i, none⟩ a := by
  unfold World.setCell
  simp only
  congr 1
  apply Array.ext_getElem?
  intro k
  simp only [Array.getElem?_modify]
  by_cases h1 : H = k
  · subst h1
    rw [if_pos rfl, if_neg h, if_neg h, if_pos rfl]
  · rw [if_neg h1]
    by_cases h2 : g = k
    · subst h2; rw [if_pos rfl, if_pos rfl, if_neg h1]
    · rw [if_neg h2, if_neg h2, if_neg h1]
/-- an element that was appended as nothing, and then stored -/
theorem set_snoc (xs : List Value) (z0 z1 z2 u0 u1 u2 : Value) (q : Nat) (h : xs.length = q) : (((xs ++ [z0, z1, z2]).set q u0).set (q + 1) u1).set (q + 2) u2 = xs ++ [u0, u1, u2] := by
  subst h
  rw [List.set_append_right _ _ (Nat.le_refl _), List.set_append_right _ _ (by omega), List.set_append_right _ _ (by omega)]
  simp
/-- what stands behind the stores of a part -/
theorem part_end {w1 w4 : World} {b g c Hw Hr Hd B0 B1 d m k1 gg cap : Nat} {T : List Tok} {n : ByteArray} {oa vx : Option Addr} {oc vc : Nat} {p : Int} {ws : List Wd} {bk bs' bx : List Nat} {xs : List Value} {nx : List UInt8} {ax : List Wd} {px : Nat} {z0 z1 z2 : Value}
    (hR : Rr w1 b g c T k1) (hE : EnvW w1 Hw Hr Hd b d n (.slice oa m oc) p) (hlx : LiesL w1 B0 (wdsD ws) xs bs') (hx : Lies w1 B0 (.row 54 3 ax.length (wdsD ax)) (.slice vx ax.length vc) bx) (hil : (wdsD ws).length = m * 3) (hxl : xs.length = m * 3)
    (hbs : (Value.slice oa m oc).ownBlock = none ∧ bk = [] ∧ bs' = [] ∨ ∃ g, (Value.slice oa m oc).ownBlock = some g ∧ bk = g :: bs') (hnd : (bk ++ bx).Nodup) (hge : ∀ j ∈ bk ++ bx, B0 ≤ j)
    (hB : b < B0 ∧ g < B0 ∧ Hw < B0 ∧ Hr < B0 ∧ Hd < B0 ∧ B0 ≤ w1.heap.size) (hne : Hw ≠ b ∧ Hr ≠ b ∧ Hd ≠ b ∧ Hr ≠ Hw ∧ Hd ≠ Hw ∧ Hw ≠ g) (hB1 : B1 ≤ Hw)
    (ho : w4.ownsRow B0 54 3 (.slice (some ⟨gg, 0, none⟩) (m + 1) cap) (m + 1) (xs ++ [z0, z1, z2])) (hg : w1.grownBy w4 (Value.slice oa m oc).ownBlock) (hat : (Value.slice oa m oc).ownBlock = some gg ∨ gg = w1.heap.size) :
    ∀ wf, wf = (((w4.setCell ⟨gg, m * 3, none⟩ (.string (bs nx))).setCell ⟨gg, m * 3 + 1, none⟩ (.slice vx ax.length vc)).setCell ⟨gg, m * 3 + 2, none⟩ (.int .i64 (px : Int))).setCell ⟨Hw, 1, none⟩ (.slice (some ⟨gg, 0, none⟩) (m + 1) cap) →
      ∃ va' bk', EnvW wf Hw Hr Hd b d n va' p ∧ (∃ a c, va' = .slice a (m + 1) c) ∧ Lies wf B0 (.row 54 3 (m + 1) (wdsD (ws ++ [.mk nx ax px]))) va' bk' ∧ bk'.Nodup ∧ Rr wf b g c T k1 ∧ Bx B1 b w1 wf ∧ (∀ j ∈ bk', B0 ≤ j) := by
  rintro wf rfl
  obtain ⟨b1, b2, b3, b4, b5, b6⟩ := hB
  obtain ⟨n1, n2, n3, n4, n5, n6⟩ := hne
  have hrow : ∀ j, (Value.slice oa m oc).ownBlock = some j → B0 ≤ j := fun j hj => by
    rcases hbs with ⟨h0, _, _⟩ | ⟨r, hr, hb⟩
    · rw [h0] at hj; cases hj
    · have e : r = j := Option.some.inj (hr.symm.trans hj)
      subst e
      exact hge r (by rw [hb]; simp)
  have hgg : B0 ≤ gg := (ho.lt gg rfl).1
  have hset := Heap.grown_trans (Heap.grown_trans (Heap.grown_set w4 ⟨gg, m * 3, none⟩ (.string (bs nx))) (Heap.grown_set _ ⟨gg, m * 3 + 1, none⟩ (.slice vx ax.length vc))) (Heap.grown_set _ ⟨gg, m * 3 + 2, none⟩ (.int .i64 (px : Int)))
  have hg5 : w1.grownBy (((w4.setCell ⟨gg, m * 3, none⟩ (.string (bs nx))).setCell ⟨gg, m * 3 + 1, none⟩ (.slice vx ax.length vc)).setCell ⟨gg, m * 3 + 2, none⟩ (.int .i64 (px : Int))) (Value.slice oa m oc).ownBlock := by
    rcases hat with h | h
    · rw [h] at hg ⊢; exact Heap.grown_trans hg hset
    · exact grown_new hg hset (by show w1.heap.size ≤ gg; omega)
  have ho5 := (((ho.stored (m * 3) (.string (bs nx))).1).stored (m * 3 + 1) (.slice vx ax.length vc)).1.stored (m * 3 + 2) (.int .i64 (px : Int)) |>.1
  rw [set_snoc xs z0 z1 z2 _ _ _ _ hxl] at ho5
  obtain ⟨hL, hN, hM⟩ := Lies.snoc hlx hil (LiesL.lit (LiesL.more hx (LiesL.lit (LiesL.nil.2 ⟨rfl, rfl⟩)))) (by rfl) hbs (by simpa using hnd) ho5 hg5 hat
  generalize (((w4.setCell ⟨gg, m * 3, none⟩ (.string (bs nx))).setCell ⟨gg, m * 3 + 1, none⟩ (.slice vx ax.length vc)).setCell ⟨gg, m * 3 + 2, none⟩ (.int .i64 (px : Int))) = w5 at *
  have hM2 : ∀ j ∈ gg :: (bs' ++ (bx ++ [])), B0 ≤ j := fun j hj => by
    rcases hM j hj with h | h
    · exact hge j (by simpa using h)
    · omega
  have q : ∀ j, j < B0 → some j ≠ (Value.slice oa m oc).ownBlock := fun j hj e => by have := hrow j e.symm; omega
  have hE5 := hE.grown hg5 (q _ b3) (q _ b4) (q _ b5)
  refine ⟨_, _, hE5.put _ n4 n5, ⟨_, _, rfl⟩, ?_, hN, (hR.grown hg5 (q _ b1) (q _ b2)).grown (Heap.grown_set w5 ⟨Hw, 1, none⟩ _) (by simp; omega) (by simp; omega), ((Bx.refl B1 b w1).grown hg5 (by omega) (fun j hj => .inr (by have := hrow j hj; omega))).grown (Heap.grown_set w5 ⟨Hw, 1, none⟩ _) (by have := hg5.size; omega) (fun j hj => by simp at hj; omega), hM2⟩
  rw [wdsD_snoc]
  have := Lies.kept (Heap.grown_set w5 ⟨Hw, 1, none⟩ (.slice (some ⟨gg, 0, none⟩) (m + 1) cap)) hL (fun j hj e => by have := hM2 j hj; simp at e; omega)
  simpa [wdD] using this
theorem wordInfo : (Try.prog.info? 54).map (fun i => (i.zero, i.size, i.bytes)) = some (some (.agg #[.string { data := #[] }, .slice none 0 0, .int .i64 0]), 3, 48) := by kernel_rfl

end Go.Proofs.Ytelpkldlkpoioaa.ReadC
