/- Lists of tokens that lie apart are told so: gristmillkit.ApartTokens, walked. (Printed by apart_tokens.py.) -/
import Derived.Test.YtfecjoheabkloaaGreatDoorApart
namespace Go.Proofs.YtfecjoheabkloaaGreatDoor.Apart
open Go.RowKit Go.Proofs.YtfecjoheabkloaaGreatDoor.Heap Go.Proofs.YtfecjoheabkloaaGreatDoor.Flat Go.Proofs.YtfecjoheabkloaaGreatDoor.FlatNil

/-- lists that lie apart, as they are handed in -/
structure Hands (w : World) (B L0 K : Nat) (A : Nat → Option Addr) (n C : Nat → Nat) : Prop where
  row : ∀ k, k < K → w.cell? ⟨L0, k, none⟩ = some (.slice (A k) (n k) (C k))
  own : ∀ k, k < K → ∃ X, w.ownsRow B 57 3 (.slice (A k) (n k) (C k)) (n k) X
  ap : ∀ j k, j < K → k < K → j ≠ k → bl (A j) = none ∨ bl (A j) ≠ bl (A k)
set_option maxRecDepth 100000 in
set_option maxHeartbeats 1000000 in
theorem tokens_apart {w : World} {B L0 K c : Nat} {A : Nat → Option Addr} {n C : Nat → Nat} (h : Hands w B L0 K A n C) (hBw : B ≤ w.heap.size) (hK0 : 0 < K) (hK : K ≤ 1000000) (hn : ∀ k, k < K → n k ≤ 1000000) :
    Calls Tryz.prog 12 #[.slice (some ⟨L0, 0, none⟩) K c] w fun e w' => e = .returned (.bool true) ∧ Only K A w w' := by
  have HN := Lib.hid hn; clear hn
  have hlt : ∀ k b, k < K → bl (A k) = some b → b < w.heap.size := fun k b hk e => by
    obtain ⟨X, hX⟩ := h.own k hk
    exact (hX.lt b (by rw [bl_own]; exact e)).2
  have HLT := Lib.hid hlt; clear hlt
  go_enter Tryz.func12, Tryz.ntmps12
  go_wp2
  have hb0 := (Below.refl w.heap.size w).alloc (Nat.le_refl _) (.cells (bagC (.slice none 0 0)) 104)
  have hB0 : Bag (w.alloc (.cells (bagC (.slice none 0 0)) 104)) w.heap.size (.slice none 0 0) := heap_alloc_new w _
  have hs0 : w.heap.size + 1 ≤ (w.alloc (.cells (bagC (.slice none 0 0)) 104)).heap.size := by simp
  unfold bagC at hb0 hB0 hs0
  generalize w.alloc (.cells _ 104) = W at *
  obtain ⟨b, hb⟩ : ∃ b, b = w.heap.size := ⟨_, rfl⟩
  rw [← hb] at hb0 hB0 hs0 hBw ⊢
  have HBE := Lib.hid hb; clear hb
  go_loopg [4] K (fun gk t4 wr => ∃ (k : Nat) (a : Option Addr) (c' : Nat) (xs : List Value), k ≤ K ∧ gk = K - k ∧ t4 = .int .i64 (k : Int) ∧ Bag wr b (.slice a k c') ∧ wr.ownsRow (b + 1) 29 1 (.slice a k c') k xs ∧ (∀ j, j < k → xs[j]? = some (.slice (A j) (n j) (C j))) ∧ Below b w wr ∧ b + 1 ≤ wr.heap.size)
  case atStart => exact ⟨0, none, 0, [], by omega, by omega, rfl, hB0, World.ownsRow_nil _ _ _ _, by omega, hb0, hs0⟩
  case round =>
    clear hB0 hb0 hs0
    obtain ⟨k, a, c', xs, hk, rfl, rfl, hB, ho, hx, hbel, hsz⟩ := hrel
    have HX := Lib.hid hx; clear hx
    by_cases hlt : k < K
    case pos =>
      have hrow := h.row k hlt
      have hL0 := World.block_lt_of_cell? _ _ hrow
      have hrow2 := (hbel.cell (p := ⟨L0, k, none⟩) (by rw [HBE.out]; exact hL0)).trans hrow
      have HH := Lib.hid h; clear h
      have j0 : (0 : Int) ≤ (k : Int) := by omega
      have j1 : (k : Int) < (K : Int) := by omega
      clear hrow
      go_wp2_with (go_at_call 32; refine (put_any hB ho (Nat.lt_succ_self _) hsz (by omega)).mono ?_; rintro e w2 ⟨rfl, g, c2, hB2, ho2, hb2⟩)
      go_roundg (K - (k + 1))
      case measure => omega
      case rel =>
        refine ⟨k + 1, _, c2, _, by omega, rfl, by go_num, hB2, ho2, ?_, hbel.trans hb2, Nat.le_trans hsz hb2.size⟩
        intro j hj
        have hl : xs.length = k := by have := ho.1; omega
        by_cases e : j < k
        · rw [List.getElem?_append_left (by omega)]; exact HX.out j e
        · obtain rfl : j = k := by omega
          rw [List.getElem?_append_right (by omega)]; simp [hl]
    case neg =>
      obtain rfl : k = K := by omega
      obtain ⟨L, rfl⟩ := own_addr ho hK0
      have hL := ho.lt L rfl
      obtain ⟨Y, hLS⟩ : ∃ Y, LS 57 3 wr B L k A n C Y := by
        refine ⟨fun j => if hj : j < k then Classical.choose (h.own j hj) else [], fun j hj => ?_, fun j hj => ?_, fun j hj e => ?_, h.ap, hL.2, by omega⟩
        · rw [ho.cellAt j (by omega)]; exact HX.out j hj
        · rw [dif_pos hj]
          exact own_below (Classical.choose_spec (h.own j hj)) hbel fun x hx => by rw [bl_own] at hx; rw [HBE.out]; exact HLT.out j x hj hx
        · have := HLT.out j L hj e; rw [← HBE.out] at this; omega
      have hAb : ∀ j, j < k → bl (A j) ≠ some b := fun j hj e => by have := HLT.out j b hj e; rw [← HBE.out] at this; omega
      clear h
      go_wp2_with (go_at_call 33; refine (apart_any hB hLS hK HN.out hAb).mono ?_; rintro e w2 ⟨rfl, hon⟩)
      go_ret
      refine ⟨rfl, hon.os.trans hbel.os, hon.tape.trans hbel.tape, hon.output.trans hbel.output, Nat.le_trans hbel.size hon.size, fun x hx hne => (hon.block x (Nat.lt_of_lt_of_le hx hbel.size) hne).trans (hbel.block x (by rw [HBE.out]; exact hx))⟩

end Go.Proofs.YtfecjoheabkloaaGreatDoor.Apart
