/- The document's lexer: its signs; its tokens joined. -/
import Derived.Test.YtfecjoheabkloaaGreatDoorRefC
import Derived.Deep.DeepMust
import Derived.Outline
namespace Go.Proofs.YtfecjoheabkloaaGreatDoor.RefC
open Go.RowKit Go.Proofs.YtfecjoheabkloaaGreatDoor.Lexy Go.Proofs.YtfecjoheabkloaaGreatDoor.LexA Go.Proofs.YtfecjoheabkloaaGreatDoor.LexB Go.Proofs.YtfecjoheabkloaaGreatDoor.LexC Go.Proofs.YtfecjoheabkloaaGreatDoor.LexD Go.Proofs.YtfecjoheabkloaaGreatDoor.LexE Go.Proofs.YtfecjoheabkloaaGreatDoor.LexF Go.Proofs.YtfecjoheabkloaaGreatDoor.RefA Go.Proofs.YtfecjoheabkloaaGreatDoor.RefB

theorem sign_world (w : World) : IsStrs ((w.alloc (.cells #[.int .u8 0, .string { data := #[] }, .int .i64 0] 57)).alloc (.cells #[.string { data := #[58] }, .string { data := #[59] }, .string { data := #[124] }, .string { data := #[40] }, .string { data := #[41] }, .string { data := #[44] }, .string { data := #[60] }, .string { data := #[62] }] 9)) (w.heap.size + 1) signsL ∧ Tk ((w.alloc (.cells #[.int .u8 0, .string { data := #[] }, .int .i64 0] 57)).alloc (.cells #[.string { data := #[58] }, .string { data := #[59] }, .string { data := #[124] }, .string { data := #[40] }, .string { data := #[41] }, .string { data := #[44] }, .string { data := #[60] }, .string { data := #[62] }] 9)) w.heap.size 0 { data := #[] } 0 ∧ Below w.heap.size w ((w.alloc (.cells #[.int .u8 0, .string { data := #[] }, .int .i64 0] 57)).alloc (.cells #[.string { data := #[58] }, .string { data := #[59] }, .string { data := #[124] }, .string { data := #[40] }, .string { data := #[41] }, .string { data := #[44] }, .string { data := #[60] }, .string { data := #[62] }] 9)) := by
  have hz : (w.alloc (.cells #[.int .u8 0, .string { data := #[] }, .int .i64 0] 57)).heap.size = w.heap.size + 1 := by simp
  have h := signs_lie (w.alloc (.cells #[.int .u8 0, .string { data := #[] }, .int .i64 0] 57))
  rw [hz] at h
  exact ⟨h, (Below.heap_alloc _ _ _ (by rw [hz]; omega)).trans (heap_alloc_new w _), ((Below.refl _ _).alloc (Nat.le_refl _) _).alloc (by rw [hz]; omega) _⟩
theorem among_sign_t {s : ByteArray} {w : World} (hin : s.data.toList ∈ signsL) :
    Calls Tryz.prog 52 #[.string s, .slice (some ⟨w.heap.size + 1, 0, none⟩) 8 8] ((w.alloc (.cells #[.int .u8 0, .string { data := #[] }, .int .i64 0] 57)).alloc (.cells #[.string { data := #[58] }, .string { data := #[59] }, .string { data := #[124] }, .string { data := #[40] }, .string { data := #[41] }, .string { data := #[44] }, .string { data := #[60] }, .string { data := #[62] }] 9)) fun e w' => e = .returned (.bool true) ∧ Tk w' w.heap.size 0 { data := #[] } 0 ∧ Below w.heap.size w w' :=
  (among_t (sign_world w).1 (by decide) rfl hin).mono fun e w' ⟨h1, h2⟩ => ⟨h1, h2 ▸ (sign_world w).2⟩
theorem among_sign_f {s : ByteArray} {w : World} (hin : s.data.toList ∉ signsL) :
    Calls Tryz.prog 52 #[.string s, .slice (some ⟨w.heap.size + 1, 0, none⟩) 8 8] ((w.alloc (.cells #[.int .u8 0, .string { data := #[] }, .int .i64 0] 57)).alloc (.cells #[.string { data := #[58] }, .string { data := #[59] }, .string { data := #[124] }, .string { data := #[40] }, .string { data := #[41] }, .string { data := #[44] }, .string { data := #[60] }, .string { data := #[62] }] 9)) fun e w' => e = .returned (.bool false) ∧ Tk w' w.heap.size 0 { data := #[] } 0 ∧ Below w.heap.size w w' :=
  (among_f (sign_world w).1 (by decide) rfl hin).mono fun e w' ⟨h1, h2⟩ => ⟨h1, h2 ▸ (sign_world w).2⟩
set_option maxRecDepth 100000 in
set_option maxHeartbeats 4000000 in
theorem token_sign {s : ByteArray} {a : Nat} {w : World} (hs : s.size ≤ 1000000) (ha : a < s.size) (hl : letN (byteAt s a) = false) (h37 : byteAt s a ≠ 37) (h123 : byteAt s a ≠ 123) :
    Calls Tryz.prog 31 #[.string s, .int .i64 (a : Int)] w (TokR s a w) := by
  have hg := RefA.get_at ha
  have j0 : (0 : Int) ≤ (a : Int) := by omega
  have j1 : (a : Int) < (s.size : Int) := by omega
  have h2 : (a : Int) + 1 < (s.size : Int) ∨ ¬ ((a : Int) + 1 < (s.size : Int)) := Classical.em _
  have hb0 := fun o => (Below.refl w.heap.size w).alloc (Nat.le_refl _) o
  have HL0 := hl
  rw [hg] at hl
  have HL := Lib.hid hl; clear hl
  have e37 : (((s[a].toNat : Nat) : Int) == 37) = false := by rw [← hg]; exact beq_eq_false_iff_ne.2 (by omega)
  have e123 : (((s[a].toNat : Nat) : Int) == 123) = false := by rw [← hg]; exact beq_eq_false_iff_ne.2 (by omega)
  have k2 : (a : Int) + 1 ≤ (s.size : Int) := by omega
  have k3 : (0 : Int) ≤ (a : Int) + 1 := by omega
  have k4 : (a : Int) ≤ (a : Int) + 1 := by omega
  have ht1 : ((a : Int) + 1).toNat = a + 1 := by omega
  by_cases hsg : signN (byteAt s a) = true
  · have HT := Lib.hid (tok_sign ha HL0 h37 h123 hsg)
    have HS := Lib.hid ((sign_in ha).2 hsg)
    have HX := Lib.hid (bs_extract s a 1 ha)
    clear hsg hg HL0 h37 h123
    rcases h2 with h2 | h2
    all_goals
      go_enter Tryz.func31, Tryz.ntmps31
      go_wp2_with (first | (go_at_call 50; refine (letter_off_f HL.out).mono ?_; rintro e w' ⟨rfl, rfl⟩) | (go_at_call 52; go_must ((with_reducible refine (among_sign_t HS.out).mono ?_)); rintro e w2 ⟨rfl, hH2, hB2⟩; have t0 := hH2.c0; have t1 := hH2.c1; have t2 := hH2.c2; have f0 := hH2.fr 0; have f1 := hH2.fr 1; have f2 := hH2.fr 2))
      try simp only [Exit.inBlock, Exit.then]
      refine bodyPost_ret (res_token (tok3 hH2 _ _ _) rfl rfl rfl) rfl ?_
      exact TokR.good (k := 6) HT.out rfl HX.out (by simp <;> omega) (((hB2.setCell (Nat.le_refl _) _).setCell (Nat.le_refl _) _).setCell (Nat.le_refl _) _)
  · have hsg' : signN (byteAt s a) = false := by simpa using hsg
    have HT := Lib.hid (tok_else ha HL0 h37 h123 hsg')
    have HS := Lib.hid (fun h => hsg ((sign_in ha).1 h))
    clear hsg hsg' hg HL0 h37 h123
    rcases h2 with h2 | h2
    all_goals
      go_enter Tryz.func31, Tryz.ntmps31
      go_wp2_with (first | (go_at_call 50; refine (letter_off_f HL.out).mono ?_; rintro e w' ⟨rfl, rfl⟩) | (go_at_call 52; go_must ((with_reducible refine (among_sign_f HS.out).mono ?_)); rintro e w2 ⟨rfl, hH2, hB2⟩; have t0 := hH2.c0; have t1 := hH2.c1; have t2 := hH2.c2; have f0 := hH2.fr 0; have f1 := hH2.fr 1; have f2 := hH2.fr 2))
      try simp only [Exit.inBlock, Exit.then]
      refine bodyPost_ret (res_token (tok3 hH2 _ _ _) rfl rfl rfl) rfl ?_
      exact TokR.bad HT.out rfl (((hB2.setCell (Nat.le_refl _) _).setCell (Nat.le_refl _) _).setCell (Nat.le_refl _) _)
theorem token_r {s : ByteArray} {a : Nat} {w : World} (hs : s.size ≤ 1000000) (ha : a < s.size) :
    Calls Tryz.prog 31 #[.string s, .int .i64 (a : Int)] w (TokR s a w) := by
  cases hl : letN (byteAt s a) with
  | true => exact token_letter hs ha hl
  | false =>
    by_cases h37 : byteAt s a = 37
    · by_cases hp : byteAt s (a + 1) = 37
      · exact token_pct2 hs ha hl h37 hp
      · by_cases hin : (rest s (a + 1)).take (runL (rest s (a + 1))) ∈ wordsL
        · exact token_word hs ha hl h37 hp hin
        · exact token_noword hs ha hl h37 hp hin
    · by_cases h123 : byteAt s a = 123
      · exact token_brace hs ha hl h37 h123
      · exact token_sign hs ha hl h37 h123
end Go.Proofs.YtfecjoheabkloaaGreatDoor.RefC
