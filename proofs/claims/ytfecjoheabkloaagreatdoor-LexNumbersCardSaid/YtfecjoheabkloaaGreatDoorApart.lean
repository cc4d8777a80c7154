/- Lists of tokens that lie apart are told so: gristmillkit.ApartTokens, walked. (Printed by apart_tokens.py.) -/
import Derived.Test.YtfecjoheabkloaaGreatDoorFlatNil
namespace Go.Proofs.YtfecjoheabkloaaGreatDoor.Apart
open Go.RowKit Go.Proofs.YtfecjoheabkloaaGreatDoor.Heap Go.Proofs.YtfecjoheabkloaaGreatDoor.Flat Go.Proofs.YtfecjoheabkloaaGreatDoor.FlatNil

/-- the bag of all lists: tokens alone -/
def bagC (v : Value) : Array Value := #[(.slice none 0 0), (.slice none 0 0), (.slice none 0 0), (.slice none 0 0), (.slice none 0 0), (.slice none 0 0), v, (.slice none 0 0), (.slice none 0 0), (.slice none 0 0), (.slice none 0 0), (.slice none 0 0), (.slice none 0 0), (.slice none 0 0), (.slice none 0 0), (.slice none 0 0), (.slice none 0 0), (.slice none 0 0), (.slice none 0 0), (.slice none 0 0), (.slice none 0 0), (.slice none 0 0), (.slice none 0 0), (.slice none 0 0), (.slice none 0 0), (.slice none 0 0), (.slice none 0 0), (.slice none 0 0), (.slice none 0 0), (.slice none 0 0), (.slice none 0 0)]
def Bag (w : World) (b : Nat) (v : Value) : Prop := w.heap[b]? = some (.cells (bagC v) 104 (0, 0))
theorem Bag.cell {w : World} {b : Nat} {v : Value} (h : Bag w b v) (i : Nat) : w.cell? ⟨b, i, none⟩ = (bagC v)[i]? := cell_of_row w b i _ _ _ h
theorem Bag.fr {w : World} {b : Nat} {v : Value} (h : Bag w b v) (i : Nat) : w.frozen? ⟨b, i, none⟩ = false := frozen_of_row w b i _ _ h
theorem Bag.lt {w : World} {b : Nat} {v : Value} (h : Bag w b v) : b < w.heap.size := (Array.getElem?_eq_some_iff.1 (show w.heap[b]? = _ from h)).1
theorem Bag.below {w w' : World} {b : Nat} {v : Value} (h : Bag w b v) (hb : Below w.heap.size w w') : Bag w' b v := (hb.block b h.lt).trans h
theorem Bag.grown {w w' : World} {b : Nat} {v : Value} {r : Option Nat} (h : Bag w b v) (g : w.grownBy w' r) (hr : some b ≠ r) : Bag w' b v := (g.block b h.lt hr).trans h
theorem Bag.set {w : World} {b : Nat} {v : Value} (h : Bag w b v) (v' : Value) : Bag (w.setCell ⟨b, 6, none⟩ v') b v' := heap_setCell_same w b 6 _ _ _ h

set_option maxRecDepth 100000 in
set_option maxHeartbeats 1000000 in
theorem put_any {w : World} {b B k : Nat} {a : Option Addr} {c n cl : Nat} {al : Option Addr} {xs : List Value} (hB : Bag w b (.slice a k c)) (ho : w.ownsRow B 29 1 (.slice a k c) k xs) (hbB : b < B) (hBw : B ≤ w.heap.size) (hk : k ≤ 1000000) :
    Calls Tryz.prog 32 #[.pointer (some ⟨b, 0, none⟩), .slice al n cl] w fun e w' => e = .returned (.tuple #[]) ∧ ∃ g c', Bag w' b (.slice (some ⟨g, 0, none⟩) (k + 1) c') ∧ w'.ownsRow B 29 1 (.slice (some ⟨g, 0, none⟩) (k + 1) c') (k + 1) (xs ++ [.slice al n cl]) ∧ Below b w w' := by
  obtain ⟨r0, hr0, hrz0, hrz1, hrz2⟩ := info_parts rowInfo
  have c6 : w.cell? ⟨b, 6, none⟩ = some (.slice a k c) := hB.cell 6
  have hlt := hB.lt
  have hne : bl a ≠ some b := fun e => by have := (ho.lt b (by rw [bl_own]; exact e)).1; omega
  have hge : ∀ x, bl a = some x → B ≤ x := fun x e => (ho.lt x (by rw [bl_own]; exact e)).1
  have HG := Lib.hid hge; clear hge
  go_enter Tryz.func32, Tryz.ntmps32
  go_wp2_with (at_builtin; go_must (refine wpList_append_lies _ rfl _ _ _ rfl B 29 r0 _ 1 24 Tryz.underlying37 hr0 hrz0 hrz1 hrz2 rfl (by omega) (.slice a k c) k xs rfl (ho.alloc _) ⟨w.heap.size, 0, none⟩ 1 1 [.slice al n cl] rfl rfl (World.news_of_block (cs := #[.slice al n cl]) (heap_alloc_new w _)) (by simp [Value.oneCell']) (by omega) (by unfold maxLen; omega) (by omega) (by simp; omega) (w.heap.size + 1) (by simp) ?_; intro g c' w1 hown1 hgr1 hat hlt1; rw [bl_own] at hgr1; have hB1 : Bag w1 b (.slice a k c) := (hB.below ((Below.refl _ _).alloc (Nat.le_refl _) _)).grown hgr1 (Ne.symm hne); have d6 := hB1.cell 6; have f6 := hB1.fr 6; rw [show (bagC (.slice a k c))[6]? = some (.slice a k c) from rfl] at d6))
  go_end0
  refine ⟨rfl, g, c', hB1.set _, hown1.kept (grown_set w1 ⟨b, 6, none⟩ _) (.inr ?_), ?_⟩
  · intro e
    have := (hown1.lt b (by simpa [Value.ownBlock] using e)).1
    omega
  · exact (below_grown (B := b) (grown_trans (World.grownBy_alloc w _ (bl a)) hgr1) (by omega) (fun x e => by have := HG.out x e; omega)).setCell (Nat.le_refl _) _

theorem Bag.only {w w' : World} {b K : Nat} {v : Value} {A : Nat → Option Addr} (h : Bag w b v) (ho : Only K A w w') (hA : ∀ k, k < K → bl (A k) ≠ some b) : Bag w' b v := (ho.block b h.lt hA).trans h
theorem _root_.Go.Proofs.YtfecjoheabkloaaGreatDoor.Heap.Only.only {K : Nat} {A : Nat → Option Addr} {w w1 w2 : World} (h : Only K A w w1) (g : Only K A w1 w2) : Only K A w w2 :=
  ⟨g.os.trans h.os, g.tape.trans h.tape, g.output.trans h.output, Nat.le_trans h.size g.size, fun b hb hne => (g.block b (Nat.lt_of_lt_of_le hb h.size) hne).trans (h.block b hb hne)⟩
set_option maxRecDepth 100000 in
set_option maxHeartbeats 4000000 in
theorem apart_any {w : World} {b B L K c : Nat} {A : Nat → Option Addr} {n C : Nat → Nat} {X : Nat → List Value} (HB : Bag w b (.slice (some ⟨L, 0, none⟩) K c)) (hLS : LS 57 3 w B L K A n C X) (hK : K ≤ 1000000) (hn : ∀ k, k < K → n k ≤ 1000000) (hA : ∀ k, k < K → bl (A k) ≠ some b) :
    Calls Tryz.prog 33 #[.pointer (some ⟨b, 0, none⟩)] w fun e w' => e = .returned (.bool true) ∧ Only K A w w' := by
  have HN := Lib.hid hn; clear hn
  have hAb := Lib.hid hA; clear hA
  have hO := Only.refl K A w
  have cn : w.cell? ⟨b, 0, none⟩ = some (.slice none 0 0) := HB.cell 0
  go_enter Tryz.func33, Tryz.ntmps33
  go_wp2_with (first
    | (go_at_call 54; refine (nilLimbs _).mono ?_; rintro e w1 ⟨rfl, hb1⟩; have HB := HB.below hb1; have cn : w1.cell? ⟨b, 1, none⟩ = some (.slice none 0 0) := HB.cell 1; have hLS := hLS.none (grown_below hb1 none); have hO := hO.grown (grown_below hb1 none) (by simp); clear hb1)
    | (go_at_call 55; refine (nilWords _).mono ?_; rintro e w1 ⟨rfl, hb1⟩; have HB := HB.below hb1; have cn : w1.cell? ⟨b, 2, none⟩ = some (.slice none 0 0) := HB.cell 2; have hLS := hLS.none (grown_below hb1 none); have hO := hO.grown (grown_below hb1 none) (by simp); clear hb1)
    | (go_at_call 56; refine (nilInts _).mono ?_; rintro e w1 ⟨rfl, hb1⟩; have HB := HB.below hb1; have cn : w1.cell? ⟨b, 3, none⟩ = some (.slice none 0 0) := HB.cell 3; have hLS := hLS.none (grown_below hb1 none); have hO := hO.grown (grown_below hb1 none) (by simp); clear hb1)
    | (go_at_call 57; refine (nilLongs _).mono ?_; rintro e w1 ⟨rfl, hb1⟩; have HB := HB.below hb1; have cn : w1.cell? ⟨b, 4, none⟩ = some (.slice none 0 0) := HB.cell 4; have hLS := hLS.none (grown_below hb1 none); have hO := hO.grown (grown_below hb1 none) (by simp); clear hb1)
    | (go_at_call 58; refine (nilTexts _).mono ?_; rintro e w1 ⟨rfl, hb1⟩; have HB := HB.below hb1; have cn : w1.cell? ⟨b, 5, none⟩ = some (.slice none 0 0) := HB.cell 5; have hLS := hLS.none (grown_below hb1 none); have hO := hO.grown (grown_below hb1 none) (by simp); clear hb1)
    | (go_at_call 59; refine (nilBytes _).mono ?_; rintro e w1 ⟨rfl, hb1⟩; have HB := HB.below hb1; have cn : w1.cell? ⟨b, 6, none⟩ = some (.slice (some ⟨L, 0, none⟩) K c) := HB.cell 6; have hLS := hLS.none (grown_below hb1 none); have hO := hO.grown (grown_below hb1 none) (by simp); clear hb1)
    | (go_at_call 60; refine (flat_any hLS hK HN.out).mono ?_; rintro e w1 ⟨rfl, hon⟩; have HB := Bag.only HB hon hAb.out; have cn : w1.cell? ⟨b, 7, none⟩ = some (.slice none 0 0) := HB.cell 7; have hO := hO.only hon; clear hon)
    | (go_at_call 61; refine (nilFaults _).mono ?_; rintro e w1 ⟨rfl, hb1⟩; have HB := HB.below hb1; have cn : w1.cell? ⟨b, 8, none⟩ = some (.slice none 0 0) := HB.cell 8; have hO := hO.grown (grown_below hb1 none) (by simp); clear hb1)
    | (go_at_call 62; refine (nilNodes _).mono ?_; rintro e w1 ⟨rfl, hb1⟩; have HB := HB.below hb1; have cn : w1.cell? ⟨b, 9, none⟩ = some (.slice none 0 0) := HB.cell 9; have hO := hO.grown (grown_below hb1 none) (by simp); clear hb1)
    | (go_at_call 63; refine (nilTypes _).mono ?_; rintro e w1 ⟨rfl, hb1⟩; have HB := HB.below hb1; have cn : w1.cell? ⟨b, 10, none⟩ = some (.slice none 0 0) := HB.cell 10; have hO := hO.grown (grown_below hb1 none) (by simp); clear hb1)
    | (go_at_call 64; refine (nilValues _).mono ?_; rintro e w1 ⟨rfl, hb1⟩; have HB := HB.below hb1; have cn : w1.cell? ⟨b, 11, none⟩ = some (.slice none 0 0) := HB.cell 11; have hO := hO.grown (grown_below hb1 none) (by simp); clear hb1)
    | (go_at_call 65; refine (nilOutcomes _).mono ?_; rintro e w1 ⟨rfl, hb1⟩; have HB := HB.below hb1; have cn : w1.cell? ⟨b, 12, none⟩ = some (.slice none 0 0) := HB.cell 12; have hO := hO.grown (grown_below hb1 none) (by simp); clear hb1)
    | (go_at_call 66; refine (nilWordRow _).mono ?_; rintro e w1 ⟨rfl, hb1⟩; have HB := HB.below hb1; have cn : w1.cell? ⟨b, 13, none⟩ = some (.slice none 0 0) := HB.cell 13; have hO := hO.grown (grown_below hb1 none) (by simp); clear hb1)
    | (go_at_call 67; refine (nilAlts _).mono ?_; rintro e w1 ⟨rfl, hb1⟩; have HB := HB.below hb1; have cn : w1.cell? ⟨b, 14, none⟩ = some (.slice none 0 0) := HB.cell 14; have hO := hO.grown (grown_below hb1 none) (by simp); clear hb1)
    | (go_at_call 68; refine (nilRules _).mono ?_; rintro e w1 ⟨rfl, hb1⟩; have HB := HB.below hb1; have cn : w1.cell? ⟨b, 15, none⟩ = some (.slice none 0 0) := HB.cell 15; have hO := hO.grown (grown_below hb1 none) (by simp); clear hb1)
    | (go_at_call 69; refine (nilDecls _).mono ?_; rintro e w1 ⟨rfl, hb1⟩; have HB := HB.below hb1; have cn : w1.cell? ⟨b, 16, none⟩ = some (.slice none 0 0) := HB.cell 16; have hO := hO.grown (grown_below hb1 none) (by simp); clear hb1)
    | (go_at_call 70; refine (nilSources _).mono ?_; rintro e w1 ⟨rfl, hb1⟩; have HB := HB.below hb1; have cn : w1.cell? ⟨b, 17, none⟩ = some (.slice none 0 0) := HB.cell 17; have hO := hO.grown (grown_below hb1 none) (by simp); clear hb1)
    | (go_at_call 71; refine (nilProds _).mono ?_; rintro e w1 ⟨rfl, hb1⟩; have HB := HB.below hb1; have cn : w1.cell? ⟨b, 18, none⟩ = some (.slice none 0 0) := HB.cell 18; have hO := hO.grown (grown_below hb1 none) (by simp); clear hb1)
    | (go_at_call 72; refine (nilSymbols _).mono ?_; rintro e w1 ⟨rfl, hb1⟩; have HB := HB.below hb1; have cn : w1.cell? ⟨b, 19, none⟩ = some (.slice none 0 0) := HB.cell 19; have hO := hO.grown (grown_below hb1 none) (by simp); clear hb1)
    | (go_at_call 73; refine (nilGrammars _).mono ?_; rintro e w1 ⟨rfl, hb1⟩; have HB := HB.below hb1; have cn : w1.cell? ⟨b, 20, none⟩ = some (.slice none 0 0) := HB.cell 20; have hO := hO.grown (grown_below hb1 none) (by simp); clear hb1)
    | (go_at_call 74; refine (nilItems _).mono ?_; rintro e w1 ⟨rfl, hb1⟩; have HB := HB.below hb1; have cn : w1.cell? ⟨b, 21, none⟩ = some (.slice none 0 0) := HB.cell 21; have hO := hO.grown (grown_below hb1 none) (by simp); clear hb1)
    | (go_at_call 75; refine (nilEdges _).mono ?_; rintro e w1 ⟨rfl, hb1⟩; have HB := HB.below hb1; have cn : w1.cell? ⟨b, 22, none⟩ = some (.slice none 0 0) := HB.cell 22; have hO := hO.grown (grown_below hb1 none) (by simp); clear hb1)
    | (go_at_call 76; refine (nilStates _).mono ?_; rintro e w1 ⟨rfl, hb1⟩; have HB := HB.below hb1; have cn : w1.cell? ⟨b, 23, none⟩ = some (.slice none 0 0) := HB.cell 23; have hO := hO.grown (grown_below hb1 none) (by simp); clear hb1)
    | (go_at_call 77; refine (nilAheads _).mono ?_; rintro e w1 ⟨rfl, hb1⟩; have HB := HB.below hb1; have cn : w1.cell? ⟨b, 24, none⟩ = some (.slice none 0 0) := HB.cell 24; have hO := hO.grown (grown_below hb1 none) (by simp); clear hb1)
    | (go_at_call 78; refine (nilActs _).mono ?_; rintro e w1 ⟨rfl, hb1⟩; have HB := HB.below hb1; have cn : w1.cell? ⟨b, 25, none⟩ = some (.slice none 0 0) := HB.cell 25; have hO := hO.grown (grown_below hb1 none) (by simp); clear hb1)
    | (go_at_call 79; refine (nilClashes _).mono ?_; rintro e w1 ⟨rfl, hb1⟩; have HB := HB.below hb1; have cn : w1.cell? ⟨b, 26, none⟩ = some (.slice none 0 0) := HB.cell 26; have hO := hO.grown (grown_below hb1 none) (by simp); clear hb1)
    | (go_at_call 80; refine (nilPackedRow _).mono ?_; rintro e w1 ⟨rfl, hb1⟩; have HB := HB.below hb1; have cn : w1.cell? ⟨b, 27, none⟩ = some (.slice none 0 0) := HB.cell 27; have hO := hO.grown (grown_below hb1 none) (by simp); clear hb1)
    | (go_at_call 81; refine (nilTrees _).mono ?_; rintro e w1 ⟨rfl, hb1⟩; have HB := HB.below hb1; have cn : w1.cell? ⟨b, 28, none⟩ = some (.slice none 0 0) := HB.cell 28; have hO := hO.grown (grown_below hb1 none) (by simp); clear hb1)
    | (go_at_call 82; refine (nilToks _).mono ?_; rintro e w1 ⟨rfl, hb1⟩; have HB := HB.below hb1; have cn : w1.cell? ⟨b, 29, none⟩ = some (.slice none 0 0) := HB.cell 29; have hO := hO.grown (grown_below hb1 none) (by simp); clear hb1)
    | (go_at_call 83; refine (nilParsedRow _).mono ?_; rintro e w1 ⟨rfl, hb1⟩; have HB := HB.below hb1; have cn : w1.cell? ⟨b, 30, none⟩ = some (.slice none 0 0) := HB.cell 30; have hO := hO.grown (grown_below hb1 none) (by simp); clear hb1)
    | (go_at_call 84; refine (nilNotices _).mono ?_; rintro e w1 ⟨rfl, hb1⟩; have HB := HB.below hb1; have hO := hO.grown (grown_below hb1 none) (by simp); clear hb1))
  go_ret
  exact ⟨rfl, hO⟩

end Go.Proofs.YtfecjoheabkloaaGreatDoor.Apart
