/- The law of quoted texts and words, walked. -/
import Derived.Test.YtopbhopblpfjpaaGreatDoorRfQ
import Derived.Test.YtopbhopblpfjpaaGreatDoorRfT
import Derived.Test.YtopbhopblpfjpaaGreatDoorScanN
import Derived.Test.YtopbhopblpfjpaaGreatDoorApartTexts2
import Derived.Deep.DeepMust
namespace Go.Proofs.YtopbhopblpfjpaaGreatDoor.ScanU
open Go.RowKit Go.Proofs.YtopbhopblpfjpaaGreatDoor.Lexy Go.Proofs.YtopbhopblpfjpaaGreatDoor.Heap Go.Proofs.YtopbhopblpfjpaaGreatDoor.Base Go.Proofs.YtopbhopblpfjpaaGreatDoor.Scany Go.Proofs.YtopbhopblpfjpaaGreatDoor.ScanA Go.Proofs.YtopbhopblpfjpaaGreatDoor.ScanB Go.Proofs.YtopbhopblpfjpaaGreatDoor.ScanM Go.Proofs.YtopbhopblpfjpaaGreatDoor.ScanN

set_option maxHeartbeats 1000000 in
theorem same_texts {w : World} {g1 g2 c1 c2 n : Nat} {L : List (List UInt8)} (h1 : IsStrs w g1 L) (h2 : IsStrs w g2 L) (hn : L.length = n) (hl : n ≤ 1000000) :
    Calls Tryz.prog 12 #[.slice (some ⟨g1, 0, none⟩) n c1, .slice (some ⟨g2, 0, none⟩) n c2] w fun e w' => e = .returned (.bool true) ∧ ∃ n, w' = w.drewN n := by
  subst hn
  have H1 := Lib.hid h1; have H2 := Lib.hid h2; clear h1 h2
  go_enter Tryz.func12, Tryz.ntmps12
  go_wp2
  go_loopg [5] L.length (fun gk i wr => ∃ (k n : Nat), k ≤ L.length ∧ gk = L.length - k ∧ i = .int .i64 (k : Int) ∧ wr = w.drewN n)
  case atStart => exact ⟨0, 0, by omega, by omega, rfl, rfl⟩
  case round =>
    obtain ⟨k, n, hk, rfl, rfl, rfl⟩ := hrel
    by_cases hlt : k < L.length
    · have a1 := H1.out k hlt
      have b1 := H2.out k hlt
      obtain ⟨X, hX⟩ : ∃ X, bs (L.getD k []) = X := ⟨_, rfl⟩
      rw [hX] at a1 b1
      clear hX
      have j0 : (0 : Int) ≤ (k : Int) := by omega
      have j1 : (k : Int) < (L.length : Int) := by omega
      go_wp2
      go_quiet (fail)
      go_wp2
      go_roundg (L.length - (k + 1))
      case measure => omega
      case rel => exact ⟨k + 1, _, by omega, rfl, by go_num, rfl⟩
    · go_wp2
      go_ret
      exact ⟨rfl, n, rfl⟩

def wordC : List Value := wordsS.map fun l => Value.string (bs l)
/-- the words, in new memory -/
theorem words_own {w : World} (hG : Gl w w.heap.size) :
    Calls Tryz.prog 13 #[] w fun e w' => ∃ g, e = .returned (.slice (some ⟨g, 0, none⟩) 16 16) ∧ Below w.heap.size w w' ∧ IsStrs w' g wordsS ∧ w'.ownsRow w.heap.size 9 1 (.slice (some ⟨g, 0, none⟩) 16 16) 16 wordC ∧ w.heap.size ≤ g ∧ g < w'.heap.size := by
  have key : Calls Tryz.prog 26 #[] w fun e w' => e = .returned (.slice (some ⟨w.heap.size, 0, none⟩) 16 16) ∧ w' = w.alloc (.cells (wordsS.map fun l => Value.string (bs l)).toArray 9) := by
    have ht := Lib.hid hG.2.2
    have hf : Lib.fields ({ data := #[98, 114, 101, 97, 107, 32, 99, 97, 115, 101, 32, 99, 111, 110, 116, 105, 110, 117, 101, 32, 100, 101, 102, 97, 117, 108, 116, 32, 101, 108, 115, 101, 32, 102, 111, 114, 32, 102, 117, 110, 99, 32, 105, 102, 32, 112, 97, 99, 107, 97, 103, 101, 32, 114, 101, 116, 117, 114, 110, 32, 115, 116, 114, 117, 99, 116, 32, 115, 119, 105, 116, 99, 104, 32, 116, 121, 112, 101, 32, 118, 97, 114, 32, 116, 114, 117, 101, 32, 102, 97, 108, 115, 101] } : ByteArray).data.toList = wordsS := by decide +kernel
    have hasc : ∀ b ∈ ({ data := #[98, 114, 101, 97, 107, 32, 99, 97, 115, 101, 32, 99, 111, 110, 116, 105, 110, 117, 101, 32, 100, 101, 102, 97, 117, 108, 116, 32, 101, 108, 115, 101, 32, 102, 111, 114, 32, 102, 117, 110, 99, 32, 105, 102, 32, 112, 97, 99, 107, 97, 103, 101, 32, 114, 101, 116, 117, 114, 110, 32, 115, 116, 114, 117, 99, 116, 32, 115, 119, 105, 116, 99, 104, 32, 116, 121, 112, 101, 32, 118, 97, 114, 32, 116, 114, 117, 101, 32, 102, 97, 108, 115, 101] } : ByteArray).data.toList, b.toNat < 128 := by decide +kernel
    have hfl : Calls Tryz.prog 77 #[.string { data := #[98, 114, 101, 97, 107, 32, 99, 97, 115, 101, 32, 99, 111, 110, 116, 105, 110, 117, 101, 32, 100, 101, 102, 97, 117, 108, 116, 32, 101, 108, 115, 101, 32, 102, 111, 114, 32, 102, 117, 110, 99, 32, 105, 102, 32, 112, 97, 99, 107, 97, 103, 101, 32, 114, 101, 116, 117, 114, 110, 32, 115, 116, 114, 117, 99, 116, 32, 115, 119, 105, 116, 99, 104, 32, 116, 121, 112, 101, 32, 118, 97, 114, 32, 116, 114, 117, 101, 32, 102, 97, 108, 115, 101] }] w fun e w' => e = .returned (.slice (some ⟨w.heap.size, 0, none⟩) 16 16) ∧ w' = w.alloc (.cells (wordsS.map fun l => Value.string (bs l)).toArray 9) := by
      refine (Tryz.strings_Fields_laid _ w (by decide) (fun j b hb => hasc b (List.mem_of_getElem? hb)) ht.out).mono ?_
      rintro e w' ⟨he, hw⟩
      rw [hf] at he hw
      exact ⟨he, hw⟩
    have HF := Lib.hid hfl
    clear hf hasc hfl
    obtain ⟨W, hW⟩ : ∃ W, w.alloc (.cells (wordsS.map fun l => Value.string (bs l)).toArray 9) = W := ⟨_, rfl⟩
    rw [hW] at HF ⊢
    clear hW
    go_enter Tryz.func26, Tryz.ntmps26
    go_wp2_with (go_at_call 77; go_must ((with_reducible refine (HF.out).mono ?_)); rintro e w1 ⟨rfl, rfl⟩)
    go_ret
    exact ⟨rfl, rfl⟩
  go_enter Tryz.func13, Tryz.ntmps13
  have hown : (w.alloc (.cells (wordsS.map fun l => Value.string (bs l)).toArray 9)).ownsRow w.heap.size 9 1 (.slice (some ⟨w.heap.size, 0, none⟩) 16 16) 16 wordC := World.ownsRow_lit w (wordsS.map fun l => Value.string (bs l)).toArray 16 (Nat.le_refl _) (by decide) rfl
  have hstr := ScanB.strs_new w wordsS
  have hbel := (Below.refl w.heap.size w).alloc (Nat.le_refl _) (.cells (wordsS.map fun l => Value.string (bs l)).toArray 9)
  have hlt : w.heap.size < (w.alloc (.cells (wordsS.map fun l => Value.string (bs l)).toArray 9)).heap.size := by simp
  have hst' : IsStrs (w.alloc (.cells (wordsS.map fun l => Value.string (bs l)).toArray 9)) w.heap.size wordsS := hstr
  clear hstr
  obtain ⟨W, hW⟩ : ∃ W, w.alloc (.cells (wordsS.map fun l => Value.string (bs l)).toArray 9) = W := ⟨_, rfl⟩
  rw [hW] at key hown hst' hbel hlt
  have HK := Lib.hid key; have HO := Lib.hid hown; have HS := Lib.hid hst'
  clear hW key hown hst'
  go_wp2_with (go_at_call 26; go_must ((with_reducible refine (HK.out).mono ?_)); rintro e w1 ⟨rfl, rfl⟩)
  go_ret
  exact ⟨_, rfl, hbel, HS.out, HO.out, Nat.le_refl _, hlt⟩

set_option maxRecDepth 100000 in
set_option maxHeartbeats 2000000 in
theorem quotes_long {s : ByteArray} {w : World} (hl : 70000 < s.size) (hG : Gl w w.heap.size) :
    Calls Tryz.prog 4 #[.string s] w fun e w' => e = .returned (.bool true) ∧ Below w.heap.size w w' := by
  go_enter Tryz.func4, Tryz.ntmps4
  go_wp2_with (go_at_call 5; go_must ((with_reducible refine (awake_any hG).mono ?_)); rintro e w1 ⟨rfl, hb⟩)
  go_ret
  exact ⟨rfl, hb⟩
set_option maxRecDepth 100000 in
set_option maxHeartbeats 4000000 in
theorem quotes_short {s : ByteArray} {w : World} (hl : s.size ≤ 70000) (hG : Gl w w.heap.size) :
    Calls Tryz.prog 4 #[.string s] w fun e w' => e = .returned (.bool true) ∧ Below w.heap.size w w' := by
  have hs : s.size ≤ 1000000 := by omega
  obtain ⟨Q, hQ⟩ : ∃ Q, bs (quoS s.data.toList) = Q := ⟨_, rfl⟩
  have q1 := Lib.hid fun w => hQ ▸ quote_any (s := s) (w := w) hs
  have q2 := Lib.hid fun w => hQ ▸ RfQ.quote_r (s := s) (w := w) hs
  clear hQ
  have heq : (Q.toList == Q.toList) = true := beq_iff_eq.2 rfl
  go_enter Tryz.func4, Tryz.ntmps4
  go_wp2_with fail
  refine (q1.out _).mono ?_
  rintro e w1 ⟨rfl, hb1⟩
  go_wp2_with fail
  refine (q2.out _).mono ?_
  rintro e w2 ⟨rfl, hb2⟩
  have hb3 := hb1.trans (hb2.mono hb1.size)
  clear hb2
  go_wp2_with fail
  refine (words_own (hG.at hb3)).mono ?_
  rintro e w3 ⟨g3, rfl, hb4, hs3, _, _, hg3⟩
  have HS3 := Lib.hid hs3; clear hs3
  have hb5 := hb3.trans (hb4.mono hb3.size)
  clear hb4
  go_wp2_with fail
  refine (RfT.words_r _).mono ?_
  rintro e w4 ⟨g4, rfl, hb6, hs4⟩
  have HS4 := Lib.hid hs4; clear hs4
  have hlay : IsStrs w4 g3 wordsS := fun i hi => (hb6.cell (p := ⟨g3, i, none⟩) hg3).trans (HS3.out i hi)
  have HL := Lib.hid hlay; clear hlay
  have hb7 := hb5.trans (hb6.mono hb5.size)
  clear hb6
  go_wp2_with fail
  refine (same_texts HL.out HS4.out (n := 16) rfl (by omega)).mono ?_
  rintro e w5 ⟨rfl, n5, rfl⟩
  have hb8 := hb7.drewN n5
  go_wp2_with fail
  refine (words_own (hG.at hb8)).mono ?_
  rintro e w6 ⟨g6, rfl, hb9, _, ho6, hg6, hl6⟩
  have hb10 := hb8.trans (hb9.mono hb8.size)
  have hz8 := hb8.size
  clear hb9
  go_wp2_with fail
  refine (words_own (hG.at hb10)).mono ?_
  rintro e w7 ⟨g7, rfl, hb11, _, ho7, hg7, hl7⟩
  replace ho6 := Heap.own_base (Heap.own_new ho6 hb11) hz8
  replace ho7 := Heap.own_base ho7 hb10.size
  have hb12 := hb10.trans (hb11.mono hb10.size)
  have hne : g6 ≠ g7 := by omega
  have hz10 := hb10.size
  clear hb11
  go_wp2_with fail
  have hx := (Below.refl w7.heap.size w7).alloc (Nat.le_refl _) (.cells #[.slice (some ⟨g6, 0, none⟩) 16 16, .slice (some ⟨g7, 0, none⟩) 16 16] 35)
  replace ho6 := Heap.own_new ho6 hx
  replace ho7 := Heap.own_new ho7 hx
  have hb13 := hb12.trans (hx.mono hb12.size)
  have hL : (w7.alloc (.cells #[.slice (some ⟨g6, 0, none⟩) 16 16, .slice (some ⟨g7, 0, none⟩) 16 16] 35)).heap[w7.heap.size]? = some (.cells #[.slice (some ⟨g6, 0, none⟩) 16 16, .slice (some ⟨g7, 0, none⟩) 16 16] 35 (0, 0)) := heap_alloc_new w7 _
  have hz12 := hb12.size
  clear hx
  generalize w7.alloc (.cells #[.slice (some ⟨g6, 0, none⟩) 16 16, .slice (some ⟨g7, 0, none⟩) 16 16] 35) = W4 at *
  have hH : ApartTexts.Hands W4 w.heap.size w7.heap.size 2 (fun k => if k = 0 then some ⟨g6, 0, none⟩ else some ⟨g7, 0, none⟩) (fun _ => 16) (fun _ => 16) := by
    refine ⟨fun k hk => ?_, fun k hk => ?_, fun j k hj hk _ => .inr ?_⟩
    · rcases (show k = 0 ∨ k = 1 by omega) with rfl | rfl
      · exact cell_of_row W4 _ 0 _ _ _ hL
      · exact cell_of_row W4 _ 1 _ _ _ hL
    · rcases (show k = 0 ∨ k = 1 by omega) with rfl | rfl
      · exact ⟨_, ho6⟩
      · exact ⟨_, ho7⟩
    · rcases (show j = 0 ∨ j = 1 by omega) with rfl | rfl <;> rcases (show k = 0 ∨ k = 1 by omega) with rfl | rfl
      · omega
      · simpa [Heap.bl] using hne
      · simpa [Heap.bl] using hne.symm
      · omega
  refine (ApartTexts.tokens_apart hH hb13.size (by omega) (by omega) (fun _ _ => by omega)).mono ?_
  rintro e w8 ⟨rfl, hon⟩
  have hb14 := hb13.trans (hon.below hb13.size (fun k b hk e => by
    rcases (show k = 0 ∨ k = 1 by omega) with rfl | rfl
    · simp [Heap.bl] at e; omega
    · simp [Heap.bl] at e; omega))
  go_wp2_with fail
  refine (awake_any (hG.at hb14)).mono ?_
  rintro e w9 ⟨rfl, hb15⟩
  go_wp2
  go_ret
  exact ⟨rfl, hb14.trans (hb15.mono hb14.size)⟩
/-- THE LAW: it says yes of every text -/
theorem quotes_any {s : ByteArray} {w : World} (hG : Gl w w.heap.size) :
    Calls Tryz.prog 4 #[.string s] w fun e w' => e = .returned (.bool true) ∧ Below w.heap.size w w' := by
  by_cases hl : s.size ≤ 70000
  · exact quotes_short hl hG
  · exact quotes_long (by omega) hG
end Go.Proofs.YtopbhopblpfjpaaGreatDoor.ScanU
