/- The scanner's lists of texts, its signs, walked. (Printed by scan_b.py.) -/
import Derived.Test.YtopbhopblpfjpaaGreatDoorScanA
import Derived.Lib.LaidTab
namespace Go.Proofs.YtopbhopblpfjpaaGreatDoor.ScanB
open Go.RowKit Go.Proofs.YtopbhopblpfjpaaGreatDoor.Lexy Go.Proofs.YtopbhopblpfjpaaGreatDoor.Heap Go.Proofs.YtopbhopblpfjpaaGreatDoor.Base Go.Proofs.YtopbhopblpfjpaaGreatDoor.Scany Go.Proofs.YtopbhopblpfjpaaGreatDoor.ScanA

/-- what the library's variables hold; they lie below H -/
def Gl (w : World) (H : Nat) : Prop :=
  (2 < H ∧ 0 < H) ∧ (∃ m : Int, w.cell? ⟨2, 0, none⟩ = some (.int .i64 m)) ∧ Lib.TabIs Tryz.prog w "strings.asciiSpace" .u8 Lib.asciiSpaceTab
theorem space_named : Tryz.prog.globalNamed "strings.asciiSpace" = some 0 := by kernel_rfl
theorem Gl.below {w w' : World} {H : Nat} (h : Gl w H) (hb : Below H w w') : Gl w' H := by
  obtain ⟨hl, ⟨m, hm⟩, ht⟩ := h
  refine ⟨hl, ⟨m, (hb.cell (p := ⟨2, 0, none⟩) hl.1).trans hm⟩, ?_⟩
  unfold Lib.TabIs World.var? at ht ⊢
  rw [space_named] at ht ⊢
  simp only [Option.bind_some] at ht ⊢
  rw [hb.block _ hl.2]; exact ht
theorem Gl.grown {w w' : World} {H b : Nat} (h : Gl w H) (hs : H ≤ w.heap.size) (g : w.grownBy w' (some b)) (hb : H ≤ b) : Gl w' H :=
  h.below (Heap.below_grown g hs (fun k e => by cases e; exact hb))
theorem Gl.drewN {w : World} {H : Nat} (h : Gl w H) (n : Nat) : Gl (w.drewN n) H := h.below ((Below.refl _ _).drewN n)

theorem strs_new (w : World) (L : List (List UInt8)) : IsStrs (w.alloc (.cells (L.map fun l => Value.string ⟨l.toArray⟩).toArray 9)) w.heap.size L := by
  intro i hi
  rw [cell_of_row _ w.heap.size i _ _ (0, 0) (heap_alloc_new w _)]
  simp [hi, bs]

theorem fields_words {w : World} (ht : Lib.TabIs Tryz.prog w "strings.asciiSpace" .u8 Lib.asciiSpaceTab) :
    Calls Tryz.prog 77 #[.string { data := #[98, 114, 101, 97, 107, 32, 99, 97, 115, 101, 32, 99, 111, 110, 116, 105, 110, 117, 101, 32, 100, 101, 102, 97, 117, 108, 116, 32, 101, 108, 115, 101, 32, 102, 111, 114, 32, 102, 117, 110, 99, 32, 105, 102, 32, 112, 97, 99, 107, 97, 103, 101, 32, 114, 101, 116, 117, 114, 110, 32, 115, 116, 114, 117, 99, 116, 32, 115, 119, 105, 116, 99, 104, 32, 116, 121, 112, 101, 32, 118, 97, 114, 32, 116, 114, 117, 101, 32, 102, 97, 108, 115, 101] }] w fun e w' => e = .returned (.slice (some ⟨w.heap.size, 0, none⟩) 16 16) ∧ Below w.heap.size w w' ∧ IsStrs w' w.heap.size wordsS := by
  have hf : Lib.fields ({ data := #[98, 114, 101, 97, 107, 32, 99, 97, 115, 101, 32, 99, 111, 110, 116, 105, 110, 117, 101, 32, 100, 101, 102, 97, 117, 108, 116, 32, 101, 108, 115, 101, 32, 102, 111, 114, 32, 102, 117, 110, 99, 32, 105, 102, 32, 112, 97, 99, 107, 97, 103, 101, 32, 114, 101, 116, 117, 114, 110, 32, 115, 116, 114, 117, 99, 116, 32, 115, 119, 105, 116, 99, 104, 32, 116, 121, 112, 101, 32, 118, 97, 114, 32, 116, 114, 117, 101, 32, 102, 97, 108, 115, 101] } : ByteArray).data.toList = wordsS := by decide +kernel
  have hasc : ∀ b ∈ ({ data := #[98, 114, 101, 97, 107, 32, 99, 97, 115, 101, 32, 99, 111, 110, 116, 105, 110, 117, 101, 32, 100, 101, 102, 97, 117, 108, 116, 32, 101, 108, 115, 101, 32, 102, 111, 114, 32, 102, 117, 110, 99, 32, 105, 102, 32, 112, 97, 99, 107, 97, 103, 101, 32, 114, 101, 116, 117, 114, 110, 32, 115, 116, 114, 117, 99, 116, 32, 115, 119, 105, 116, 99, 104, 32, 116, 121, 112, 101, 32, 118, 97, 114, 32, 116, 114, 117, 101, 32, 102, 97, 108, 115, 101] } : ByteArray).data.toList, b.toNat < 128 := by decide +kernel
  refine (Tryz.strings_Fields_laid { data := #[98, 114, 101, 97, 107, 32, 99, 97, 115, 101, 32, 99, 111, 110, 116, 105, 110, 117, 101, 32, 100, 101, 102, 97, 117, 108, 116, 32, 101, 108, 115, 101, 32, 102, 111, 114, 32, 102, 117, 110, 99, 32, 105, 102, 32, 112, 97, 99, 107, 97, 103, 101, 32, 114, 101, 116, 117, 114, 110, 32, 115, 116, 114, 117, 99, 116, 32, 115, 119, 105, 116, 99, 104, 32, 116, 121, 112, 101, 32, 118, 97, 114, 32, 116, 114, 117, 101, 32, 102, 97, 108, 115, 101] } w (by decide) (fun j b hb => hasc b (List.mem_of_getElem? hb)) ht).mono ?_
  rintro e w' ⟨he, hw⟩
  rw [hf] at he hw
  exact ⟨he, hw ▸ (Below.refl _ _).alloc (Nat.le_refl _) _, hw ▸ strs_new w wordsS⟩
theorem words_any {w : World} {H : Nat} (hG : Gl w H) :
    Calls Tryz.prog 26 #[] w fun e w' => e = .returned (.slice (some ⟨w.heap.size, 0, none⟩) 16 16) ∧ Below w.heap.size w w' ∧ IsStrs w' w.heap.size wordsS := by
  have ht := Lib.hid hG.2.2
  go_enter Tryz.func26, Tryz.ntmps26
  go_wp2_with (go_at_call 77; go_must ((with_reducible refine (fields_words ht.out).mono ?_)); rintro e w1 ⟨rfl, hb, hst⟩; have HST := Lib.hid hst; clear hst)
  go_ret
  exact ⟨rfl, hb, HST.out⟩

theorem fields_foreign {w : World} (ht : Lib.TabIs Tryz.prog w "strings.asciiSpace" .u8 Lib.asciiSpaceTab) :
    Calls Tryz.prog 77 #[.string { data := #[99, 104, 97, 110, 32, 99, 111, 110, 115, 116, 32, 100, 101, 102, 101, 114, 32, 102, 97, 108, 108, 116, 104, 114, 111, 117, 103, 104, 32, 103, 111, 32, 103, 111, 116, 111, 32, 105, 109, 112, 111, 114, 116, 32, 105, 110, 116, 101, 114, 102, 97, 99, 101, 32, 109, 97, 112, 32, 114, 97, 110, 103, 101, 32, 115, 101, 108, 101, 99, 116] }] w fun e w' => e = .returned (.slice (some ⟨w.heap.size, 0, none⟩) 11 11) ∧ Below w.heap.size w w' ∧ IsStrs w' w.heap.size foreignS := by
  have hf : Lib.fields ({ data := #[99, 104, 97, 110, 32, 99, 111, 110, 115, 116, 32, 100, 101, 102, 101, 114, 32, 102, 97, 108, 108, 116, 104, 114, 111, 117, 103, 104, 32, 103, 111, 32, 103, 111, 116, 111, 32, 105, 109, 112, 111, 114, 116, 32, 105, 110, 116, 101, 114, 102, 97, 99, 101, 32, 109, 97, 112, 32, 114, 97, 110, 103, 101, 32, 115, 101, 108, 101, 99, 116] } : ByteArray).data.toList = foreignS := by decide +kernel
  have hasc : ∀ b ∈ ({ data := #[99, 104, 97, 110, 32, 99, 111, 110, 115, 116, 32, 100, 101, 102, 101, 114, 32, 102, 97, 108, 108, 116, 104, 114, 111, 117, 103, 104, 32, 103, 111, 32, 103, 111, 116, 111, 32, 105, 109, 112, 111, 114, 116, 32, 105, 110, 116, 101, 114, 102, 97, 99, 101, 32, 109, 97, 112, 32, 114, 97, 110, 103, 101, 32, 115, 101, 108, 101, 99, 116] } : ByteArray).data.toList, b.toNat < 128 := by decide +kernel
  refine (Tryz.strings_Fields_laid { data := #[99, 104, 97, 110, 32, 99, 111, 110, 115, 116, 32, 100, 101, 102, 101, 114, 32, 102, 97, 108, 108, 116, 104, 114, 111, 117, 103, 104, 32, 103, 111, 32, 103, 111, 116, 111, 32, 105, 109, 112, 111, 114, 116, 32, 105, 110, 116, 101, 114, 102, 97, 99, 101, 32, 109, 97, 112, 32, 114, 97, 110, 103, 101, 32, 115, 101, 108, 101, 99, 116] } w (by decide) (fun j b hb => hasc b (List.mem_of_getElem? hb)) ht).mono ?_
  rintro e w' ⟨he, hw⟩
  rw [hf] at he hw
  exact ⟨he, hw ▸ (Below.refl _ _).alloc (Nat.le_refl _) _, hw ▸ strs_new w foreignS⟩
theorem foreign_any {w : World} {H : Nat} (hG : Gl w H) :
    Calls Tryz.prog 137 #[] w fun e w' => e = .returned (.slice (some ⟨w.heap.size, 0, none⟩) 11 11) ∧ Below w.heap.size w w' ∧ IsStrs w' w.heap.size foreignS := by
  have ht := Lib.hid hG.2.2
  go_enter Tryz.func137, Tryz.ntmps137
  go_wp2_with (go_at_call 77; go_must ((with_reducible refine (fields_foreign ht.out).mono ?_)); rintro e w1 ⟨rfl, hb, hst⟩; have HST := Lib.hid hst; clear hst)
  go_ret
  exact ⟨rfl, hb, HST.out⟩

theorem fields_signs {w : World} (ht : Lib.TabIs Tryz.prog w "strings.asciiSpace" .u8 Lib.asciiSpaceTab) :
    Calls Tryz.prog 77 #[.string { data := #[58, 61, 32, 61, 61, 32, 33, 61, 32, 60, 61, 32, 62, 61, 32, 38, 38, 32, 124, 124, 32, 123, 32, 125, 32, 40, 32, 41, 32, 91, 32, 93, 32, 44, 32, 59, 32, 58, 32, 46, 32, 61, 32, 60, 32, 62, 32, 43, 32, 45, 32, 42, 32, 47, 32, 37, 32, 33] }] w fun e w' => e = .returned (.slice (some ⟨w.heap.size, 0, none⟩) 26 26) ∧ Below w.heap.size w w' ∧ IsStrs w' w.heap.size signsS := by
  have hf : Lib.fields ({ data := #[58, 61, 32, 61, 61, 32, 33, 61, 32, 60, 61, 32, 62, 61, 32, 38, 38, 32, 124, 124, 32, 123, 32, 125, 32, 40, 32, 41, 32, 91, 32, 93, 32, 44, 32, 59, 32, 58, 32, 46, 32, 61, 32, 60, 32, 62, 32, 43, 32, 45, 32, 42, 32, 47, 32, 37, 32, 33] } : ByteArray).data.toList = signsS := by decide +kernel
  have hasc : ∀ b ∈ ({ data := #[58, 61, 32, 61, 61, 32, 33, 61, 32, 60, 61, 32, 62, 61, 32, 38, 38, 32, 124, 124, 32, 123, 32, 125, 32, 40, 32, 41, 32, 91, 32, 93, 32, 44, 32, 59, 32, 58, 32, 46, 32, 61, 32, 60, 32, 62, 32, 43, 32, 45, 32, 42, 32, 47, 32, 37, 32, 33] } : ByteArray).data.toList, b.toNat < 128 := by decide +kernel
  refine (Tryz.strings_Fields_laid { data := #[58, 61, 32, 61, 61, 32, 33, 61, 32, 60, 61, 32, 62, 61, 32, 38, 38, 32, 124, 124, 32, 123, 32, 125, 32, 40, 32, 41, 32, 91, 32, 93, 32, 44, 32, 59, 32, 58, 32, 46, 32, 61, 32, 60, 32, 62, 32, 43, 32, 45, 32, 42, 32, 47, 32, 37, 32, 33] } w (by decide) (fun j b hb => hasc b (List.mem_of_getElem? hb)) ht).mono ?_
  rintro e w' ⟨he, hw⟩
  rw [hf] at he hw
  exact ⟨he, hw ▸ (Below.refl _ _).alloc (Nat.le_refl _) _, hw ▸ strs_new w signsS⟩
theorem signs_any {w : World} {H : Nat} (hG : Gl w H) :
    Calls Tryz.prog 142 #[] w fun e w' => e = .returned (.slice (some ⟨w.heap.size, 0, none⟩) 26 26) ∧ Below w.heap.size w w' ∧ IsStrs w' w.heap.size signsS := by
  have ht := Lib.hid hG.2.2
  go_enter Tryz.func142, Tryz.ntmps142
  go_wp2_with (go_at_call 77; go_must ((with_reducible refine (fields_signs ht.out).mono ?_)); rintro e w1 ⟨rfl, hb, hst⟩; have HST := Lib.hid hst; clear hst)
  go_ret
  exact ⟨rfl, hb, HST.out⟩

theorem fields_odd {w : World} (ht : Lib.TabIs Tryz.prog w "strings.asciiSpace" .u8 Lib.asciiSpaceTab) :
    Calls Tryz.prog 77 #[.string { data := #[46, 46, 46, 32, 43, 43, 32, 45, 45, 32, 43, 61, 32, 45, 61, 32, 42, 61, 32, 47, 61, 32, 37, 61, 32, 60, 60, 32, 62, 62, 32, 60, 45, 32, 47, 42] }] w fun e w' => e = .returned (.slice (some ⟨w.heap.size, 0, none⟩) 12 12) ∧ Below w.heap.size w w' ∧ IsStrs w' w.heap.size oddS := by
  have hf : Lib.fields ({ data := #[46, 46, 46, 32, 43, 43, 32, 45, 45, 32, 43, 61, 32, 45, 61, 32, 42, 61, 32, 47, 61, 32, 37, 61, 32, 60, 60, 32, 62, 62, 32, 60, 45, 32, 47, 42] } : ByteArray).data.toList = oddS := by decide +kernel
  have hasc : ∀ b ∈ ({ data := #[46, 46, 46, 32, 43, 43, 32, 45, 45, 32, 43, 61, 32, 45, 61, 32, 42, 61, 32, 47, 61, 32, 37, 61, 32, 60, 60, 32, 62, 62, 32, 60, 45, 32, 47, 42] } : ByteArray).data.toList, b.toNat < 128 := by decide +kernel
  refine (Tryz.strings_Fields_laid { data := #[46, 46, 46, 32, 43, 43, 32, 45, 45, 32, 43, 61, 32, 45, 61, 32, 42, 61, 32, 47, 61, 32, 37, 61, 32, 60, 60, 32, 62, 62, 32, 60, 45, 32, 47, 42] } w (by decide) (fun j b hb => hasc b (List.mem_of_getElem? hb)) ht).mono ?_
  rintro e w' ⟨he, hw⟩
  rw [hf] at he hw
  exact ⟨he, hw ▸ (Below.refl _ _).alloc (Nat.le_refl _) _, hw ▸ strs_new w oddS⟩
theorem odd_any {w : World} {H : Nat} (hG : Gl w H) :
    Calls Tryz.prog 141 #[] w fun e w' => e = .returned (.slice (some ⟨w.heap.size, 0, none⟩) 12 12) ∧ Below w.heap.size w w' ∧ IsStrs w' w.heap.size oddS := by
  have ht := Lib.hid hG.2.2
  go_enter Tryz.func141, Tryz.ntmps141
  go_wp2_with (go_at_call 77; go_must ((with_reducible refine (fields_odd ht.out).mono ?_)); rintro e w1 ⟨rfl, hb, hst⟩; have HST := Lib.hid hst; clear hst)
  go_ret
  exact ⟨rfl, hb, HST.out⟩

theorem extract_rest {s : ByteArray} {a : Nat} (h : a ≤ s.size) : (s.extract a s.size).data.toList = rest s a := by
  have := bs_extract s a (s.size - a) (by omega)
  rw [show a + (s.size - a) = s.size by omega] at this
  rw [this, bs_list, List.take_of_length_le (by simp [rest])]
/-- does a text stand here? -/
theorem first1_is {x s : ByteArray} {a b q : Nat} {l : Value} {w : World} {v : Bool} (hq : w.cell? ⟨q, 0, none⟩ = some (.pointer (some ⟨b, 0, none⟩))) (hr : Sc w b s a l) (_hs : s.size ≤ 1000000) (ha : a ≤ s.size) (h : x.data.toList.isPrefixOf (rest s a) = v) :
    Calls Tryz.prog 161 #[.string x, .pointer (some ⟨q, 0, none⟩)] w fun e w' => e = .returned (.bool v) ∧ ∃ n, w' = w.drewN n := by
  have c0 := hr.c0; have c1 := hr.c1
  have j0 : (0 : Int) ≤ (a : Int) := by omega
  have j1 : (a : Int) ≤ (s.size : Int) := by omega
  have HV := Lib.hid (show Lib.hasPrefix (s.extract a s.size).data.toList x.data.toList = v by rw [extract_rest ha]; exact h)
  clear h
  go_enter Tryz.func161, Tryz.ntmps161
  go_wp2
  go_quiet ((go_at_call 162; exact Calls.quiet_of_same (Tryz.strings_HasPrefix _ _ _)))
  go_wp2
  go_ret
  exact ⟨ret_bool HV.out, _, rfl⟩

/-- where the first of some texts that stands there stands among them -/
def idxL (L : List (List UInt8)) (l : List UInt8) : Int := if L.findIdx (fun p => p.isPrefixOf l) < L.length then (L.findIdx (fun p => p.isPrefixOf l) : Nat) else -1
theorem idxL_hit {L : List (List UInt8)} {l : List UInt8} {k : Nat} (hk : k < L.length) (h : (L.getD k []).isPrefixOf l = true) (hno : ∀ j, j < k → (L.getD j []).isPrefixOf l = false) : idxL L l = (k : Int) := by
  have e : L.findIdx (fun p => p.isPrefixOf l) = k := by
    rw [List.findIdx_eq hk]
    refine ⟨by simpa [List.getD_eq_getElem?_getD, List.getElem?_eq_getElem hk] using h, fun j hj => ?_⟩
    have := hno j hj
    simpa [List.getD_eq_getElem?_getD, List.getElem?_eq_getElem (show j < L.length by omega)] using this
  unfold idxL; rw [e, if_pos hk]
theorem idxL_none {L : List (List UInt8)} {l : List UInt8} (hno : ∀ j, j < L.length → (L.getD j []).isPrefixOf l = false) : idxL L l = -1 := by
  unfold idxL
  rw [if_neg]
  intro hlt
  have := List.findIdx_getElem (w := hlt)
  have h2 := hno _ hlt
  simp only [List.getD_eq_getElem?_getD, List.getElem?_eq_getElem hlt, Option.getD_some] at h2
  rw [h2] at this; cases this
theorem firstL_idx (L : List (List UInt8)) (l : List UInt8) : (idxL L l = -1 ∧ firstL L l = []) ∨ ∃ k, k < L.length ∧ idxL L l = (k : Int) ∧ firstL L l = L.getD k [] := by
  unfold idxL firstL
  by_cases h : L.findIdx (fun p => p.isPrefixOf l) < L.length
  · right
    refine ⟨_, h, by rw [if_pos h], ?_⟩
    rw [List.find?_eq_getElem?_findIdx]
    simp [List.getD_eq_getElem?_getD]
  · left
    rw [if_neg h]
    refine ⟨rfl, ?_⟩
    rw [List.find?_eq_getElem?_findIdx, List.getElem?_eq_none (by omega)]; rfl
set_option maxHeartbeats 1000000 in
theorem index_any {s : ByteArray} {a b q g c n : Nat} {l : Value} {w : World} {L : List (List UInt8)} (hst : IsStrs w g L) (hn : L.length = n) (hl : L.length ≤ 1000) (hq : w.cell? ⟨q, 0, none⟩ = some (.pointer (some ⟨b, 0, none⟩))) (hr : Sc w b s a l) (hs : s.size ≤ 1000000) (ha : a ≤ s.size) :
    Calls Tryz.prog 160 #[.slice (some ⟨g, 0, none⟩) n c, .func (.func 161) #[] #[.pointer (some ⟨q, 0, none⟩)]] w fun e w' => e = .returned (.int .i64 (idxL L (rest s a))) ∧ ∃ n, w' = w.drewN n := by
  subst hn
  have H := Lib.hid hst; clear hst
  have HQ := Lib.hid hq; clear hq
  go_enter Tryz.func160, Tryz.ntmps160
  go_wp2
  go_loopg [8] L.length (fun gk i wr => ∃ k n : Nat, k ≤ L.length ∧ gk = L.length - k ∧ i = .int .i64 (k : Int) ∧ (∀ j, j < k → (L.getD j []).isPrefixOf (rest s a) = false) ∧ wr = w.drewN n)
  case atStart => exact ⟨0, 0, by omega, by omega, rfl, by omega, rfl⟩
  case round =>
    obtain ⟨k, n, hk, rfl, rfl, hno, rfl⟩ := hrel
    have HNO := Lib.hid hno; clear hno
    have HQN := Lib.hid (show (w.drewN n).cell? ⟨q, 0, none⟩ = some (.pointer (some ⟨b, 0, none⟩)) from HQ.out)
    by_cases hlt : k < L.length
    · have a1 := H.out k hlt
      have j0 : (0 : Int) ≤ (k : Int) := by omega
      have j1 : (k : Int) < (L.length : Int) := by omega
      obtain ⟨x, hx⟩ : ∃ x, L.getD k [] = x := ⟨_, rfl⟩
      rw [hx] at a1
      cases hp : x.isPrefixOf (rest s a) with
      | true =>
        have HP := Lib.hid (show (bs x).data.toList.isPrefixOf (rest s a) = true by rw [bs_list]; exact hp)
        have HI := Lib.hid (idxL_hit hlt (by rw [hx]; exact hp) HNO.out)
        clear hp hx
        go_wp2_with (go_at_call 161; go_must ((with_reducible refine (first1_is (w := w.drewN n) HQN.out (hr.drewN n) hs ha HP.out).mono ?_)); rintro e w2 ⟨rfl, n2, rfl⟩)
        go_ret
        exact ⟨ret_int HI.out.symm, _, rfl⟩
      | false =>
        have HP := Lib.hid (show (bs x).data.toList.isPrefixOf (rest s a) = false by rw [bs_list]; exact hp)
        have HI := Lib.hid (show (L.getD k []).isPrefixOf (rest s a) = false by rw [hx]; exact hp)
        clear hp hx
        go_wp2_with (go_at_call 161; go_must ((with_reducible refine (first1_is (w := w.drewN n) HQN.out (hr.drewN n) hs ha HP.out).mono ?_)); rintro e w2 ⟨rfl, n2, rfl⟩)
        go_roundg (L.length - (k + 1))
        case measure => omega
        case rel => exact ⟨k + 1, _, by omega, rfl, by go_num, fun j hj => (Nat.lt_succ_iff_lt_or_eq.1 hj).elim (fun h => HNO.out j h) (fun h => h ▸ HI.out), rfl⟩
    · have HI := Lib.hid (idxL_none (L := L) (l := rest s a) fun j hj => HNO.out j (by omega))
      go_wp2
      go_ret
      exact ⟨ret_int HI.out.symm, n, rfl⟩
set_option maxHeartbeats 1000000 in
theorem first_any {s : ByteArray} {a b g c n : Nat} {l : Value} {w : World} {L : List (List UInt8)} (hst : IsStrs w g L) (hg : g < w.heap.size) (hn : L.length = n) (hl : L.length ≤ 1000) (hr : Sc w b s a l) (hs : s.size ≤ 1000000) (ha : a ≤ s.size) :
    Calls Tryz.prog 140 #[.pointer (some ⟨b, 0, none⟩), .slice (some ⟨g, 0, none⟩) n c] w fun e w' => e = .returned (.string (bs (firstL L (rest s a)))) ∧ Below w.heap.size w w' := by
  have hmf : ∀ (fn : Fn) (first cap : Array Value) (w : World), (Instr.makeFunc fn first cap).run Tryz.prog w = .ok (.func fn first cap) w := fun _ _ _ _ => rfl
  have hb0 := (Below.refl w.heap.size w).alloc (Nat.le_refl _) (.cells #[.pointer (some ⟨b, 0, none⟩)] 133)
  have hq0 := cell_of_row _ w.heap.size 0 _ _ (0, 0) (heap_alloc_new w (.cells #[.pointer (some ⟨b, 0, none⟩)] 133))
  have hst' : IsStrs (w.alloc (.cells #[.pointer (some ⟨b, 0, none⟩)] 133)) g L := fun i hi => (hb0.cell (p := ⟨g, i, none⟩) hg).trans (hst i hi)
  have hr' := hr.new hb0
  have HST := Lib.hid hst'; clear hst hst'
  have HF := Lib.hid (firstL_idx L (rest s a))
  rcases HF.out with ⟨e1, e2⟩ | ⟨k, hk, e1, e2⟩
  · have E1 := Lib.hid e1; have E2 := Lib.hid e2; clear e1 e2
    have hq1 := Lib.hid hq0; clear hq0
    go_enter Tryz.func140, Tryz.ntmps140
    go_wp2_with (go_at_call 160; go_must (refine (index_any HST.out hn hl hq1.out hr' hs ha).mono ?_); rw [E1.out]; rintro e w2 ⟨rfl, n2, rfl⟩)
    go_ret
    exact ⟨by rw [E2.out]; rfl, hb0.drewN _⟩
  · have E1 := Lib.hid e1; have E2 := Lib.hid e2; clear e1 e2
    have hq1 := Lib.hid hq0; clear hq0
    have a1 := HST.out k hk
    subst hn
    obtain ⟨x, hx⟩ : ∃ x, L.getD k [] = x := ⟨_, rfl⟩
    rw [hx] at a1
    have HX := Lib.hid hx; clear hx
    have j0 : (0 : Int) ≤ (k : Int) := by omega
    have j1 : (k : Int) < (L.length : Int) := by omega
    go_enter Tryz.func140, Tryz.ntmps140
    go_wp2_with (go_at_call 160; go_must (refine (index_any HST.out rfl hl hq1.out hr' hs ha).mono ?_); rw [E1.out]; rintro e w2 ⟨rfl, n2, rfl⟩)
    go_ret
    exact ⟨by rw [E2.out, HX.out]; rfl, hb0.drewN _⟩
end Go.Proofs.YtopbhopblpfjpaaGreatDoor.ScanB
