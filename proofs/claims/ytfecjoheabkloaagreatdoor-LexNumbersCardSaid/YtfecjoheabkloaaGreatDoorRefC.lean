/- The document's lexer: its lists of texts, its tokens, walked. -/
import Derived.Test.YtfecjoheabkloaaGreatDoorRefB
import Derived.Test.YtfecjoheabkloaaGreatDoorLexF
import Derived.Deep.RegionWith
namespace Go.Proofs.YtfecjoheabkloaaGreatDoor.RefC
open Go.RowKit Go.Proofs.YtfecjoheabkloaaGreatDoor.Lexy Go.Proofs.YtfecjoheabkloaaGreatDoor.LexA Go.Proofs.YtfecjoheabkloaaGreatDoor.LexB Go.Proofs.YtfecjoheabkloaaGreatDoor.LexC Go.Proofs.YtfecjoheabkloaaGreatDoor.LexD Go.Proofs.YtfecjoheabkloaaGreatDoor.LexE Go.Proofs.YtfecjoheabkloaaGreatDoor.LexF Go.Proofs.YtfecjoheabkloaaGreatDoor.RefA Go.Proofs.YtfecjoheabkloaaGreatDoor.RefB

theorem letter_off_t {n : Nat} {w : World} (h : letN n = true) : Calls Tryz.prog 50 #[.int .u8 (n : Int), .bool false] w fun e w' => e = .returned (.bool true) ∧ w = w' := (letter_off n w).mono fun _ _ ⟨h1, h2⟩ => ⟨by rw [h1, h], h2⟩
theorem letter_off_f {n : Nat} {w : World} (h : letN n = false) : Calls Tryz.prog 50 #[.int .u8 (n : Int), .bool false] w fun e w' => e = .returned (.bool false) ∧ w = w' := (letter_off n w).mono fun _ _ ⟨h1, h2⟩ => ⟨by rw [h1, h], h2⟩

theorem str_eq (l : List UInt8) (s : ByteArray) : ((bs l).toList == s.toList) = decide (l = s.data.toList) := by
  rw [bs_toList, ByteArray.toList_eq]
  by_cases h : l = s.data.toList
  · rw [decide_eq_true h]; exact beq_iff_eq.2 h
  · rw [decide_eq_false h]; exact beq_eq_false_iff_ne.2 h

/-- texts lie in a block -/
def IsStrs (w : World) (g : Nat) (L : List (List UInt8)) : Prop := ∀ i, i < L.length → w.cell? ⟨g, i, none⟩ = some (.string (bs (L.getD i [])))
theorem among_r {s : ByteArray} {w : World} {g c : Nat} {L : List (List UInt8)} (h : IsStrs w g L) (hl : L.length ≤ 1000) :
    Calls Tryz.prog 52 #[.string s, .slice (some ⟨g, 0, none⟩) L.length c] w fun e w' => e = .returned (.bool (decide (s.data.toList ∈ L))) ∧ w = w' := by
  have H := Lib.hid h; clear h
  go_enter Tryz.func52, Tryz.ntmps52
  go_wp2
  go_loopg [5] L.length (fun gk i wr => ∃ k : Nat, k ≤ L.length ∧ gk = L.length - k ∧ i = .int .i64 (k : Int) ∧ (∀ j, j < k → L.getD j [] ≠ s.data.toList) ∧ wr = w)
  case atStart => exact ⟨0, by omega, by omega, rfl, by omega, rfl⟩
  case round =>
    obtain ⟨k, hk, rfl, rfl, hno, rfl⟩ := hrel
    have HNO := Lib.hid hno; clear hno
    by_cases hlt : k < L.length
    · have a1 := H.out k hlt
      have j0 : (0 : Int) ≤ (k : Int) := by omega
      have j1 : (k : Int) < (L.length : Int) := by omega
      obtain ⟨x, hx⟩ : ∃ x, L.getD k [] = x := ⟨_, rfl⟩
      rw [hx] at a1
      by_cases he : x = s.data.toList
      · have e1 : ((bs x).toList == s.toList) = true := by rw [str_eq]; exact decide_eq_true he
        have HE := Lib.hid (hx.trans he); clear he hx
        go_wp2
        go_ret
        refine ⟨ret_bool (decide_eq_true ?_).symm, rfl⟩
        rw [← HE.out, List.getD_eq_getElem?_getD, List.getElem?_eq_getElem hlt]
        exact List.getElem_mem hlt
      · have e1 : ((bs x).toList == s.toList) = false := by rw [str_eq]; exact decide_eq_false he
        have HE := Lib.hid (fun h : L.getD k [] = s.data.toList => he (hx.symm.trans h)); clear he hx
        go_wp2
        go_roundg (L.length - (k + 1))
        case measure => omega
        case rel => exact ⟨k + 1, by omega, rfl, by go_num, fun j hj => (Nat.lt_succ_iff_lt_or_eq.1 hj).elim (fun h => HNO.out j h) (fun h => h ▸ HE.out), rfl⟩
    · go_wp2
      go_ret
      refine ⟨ret_bool (decide_eq_false ?_).symm, rfl⟩
      intro hm
      obtain ⟨j, hj, e⟩ := List.getElem_of_mem hm
      exact HNO.out j (by omega) (by rw [List.getD_eq_getElem?_getD, List.getElem?_eq_getElem hj]; exact e)
theorem among_t {s : ByteArray} {w : World} {g c n : Nat} {L : List (List UInt8)} (h : IsStrs w g L) (hl : L.length ≤ 1000) (hn : L.length = n) (hin : s.data.toList ∈ L) :
    Calls Tryz.prog 52 #[.string s, .slice (some ⟨g, 0, none⟩) n c] w fun e w' => e = .returned (.bool true) ∧ w = w' := by
  subst hn; exact (among_r h hl).mono fun _ _ ⟨h1, h2⟩ => ⟨by rw [h1, decide_eq_true hin], h2⟩
theorem among_f {s : ByteArray} {w : World} {g c n : Nat} {L : List (List UInt8)} (h : IsStrs w g L) (hl : L.length ≤ 1000) (hn : L.length = n) (hin : s.data.toList ∉ L) :
    Calls Tryz.prog 52 #[.string s, .slice (some ⟨g, 0, none⟩) n c] w fun e w' => e = .returned (.bool false) ∧ w = w' := by
  subst hn; exact (among_r h hl).mono fun _ _ ⟨h1, h2⟩ => ⟨by rw [h1, decide_eq_false hin], h2⟩

theorem words_r (w : World) :
    Calls Tryz.prog 5 #[] w fun e w' => e = .returned (.slice (some ⟨w.heap.size, 0, none⟩) 7 7) ∧ Below w.heap.size w w' ∧ IsStrs w' w.heap.size wordsL := by
  go_enter Tryz.func5, Tryz.ntmps5
  go_wp2
  go_ret
  refine ⟨rfl, (Below.refl _ _).alloc (Nat.le_refl _) _, ?_⟩
  intro i hi
  have hi7 : i < 7 := hi
  have h0 := heap_alloc_new w (.cells #[.string (bs [116, 111, 107, 101, 110]), .string (bs [116, 121, 112, 101]), .string (bs [108, 101, 102, 116]), .string (bs [114, 105, 103, 104, 116]), .string (bs [110, 111, 110, 97, 115, 115, 111, 99]), .string (bs [115, 116, 97, 114, 116]), .string (bs [112, 114, 101, 99])] 9)
  rcases (show i = 0 ∨ i = 1 ∨ i = 2 ∨ i = 3 ∨ i = 4 ∨ i = 5 ∨ i = 6 by omega) with rfl | rfl | rfl | rfl | rfl | rfl | rfl
  all_goals exact cell_of_row _ w.heap.size _ _ _ (0, 0) h0
/-- the same, behind the result's new cell -/
theorem words_x (w : World) :
    Calls Tryz.prog 5 #[] (w.alloc (.cells #[.int .u8 0, .string { data := #[] }, .int .i64 0] 57)).drew fun e w' =>
      e = .returned (.slice (some ⟨w.heap.size + 1, 0, none⟩) 7 7) ∧ Below w.heap.size w w' ∧ Tk w' w.heap.size 0 { data := #[] } 0 ∧ IsStrs w' (w.heap.size + 1) wordsL := by
  have hH := heap_alloc_new w (.cells #[.int .u8 0, .string { data := #[] }, .int .i64 0] 57)
  have hW := ((Below.refl w.heap.size w).alloc (Nat.le_refl _) (.cells #[.int .u8 0, .string { data := #[] }, .int .i64 0] 57)).drewN 1
  have hz : (w.alloc (.cells #[.int .u8 0, .string { data := #[] }, .int .i64 0] 57)).drew.heap.size = w.heap.size + 1 := by simp
  refine (words_r _).mono ?_
  rintro e w' ⟨he, hb, hs⟩
  rw [hz] at he hb hs
  exact ⟨he, hW.trans (hb.mono (by omega)), (hb.block w.heap.size (by omega)).trans hH, hs⟩
/-- the result's cell -/
theorem res_token {w : World} {H : Nat} {v0 v1 v2 v5 v6 : Value} {tmps : Array Value} (hH : w.heap[H]? = some (.cells #[v0, v1, v2] 57 (0, 0)))
    (h4 : tmps[4]?.getD undef = .pointer (some ⟨H, 0, none⟩)) (h5 : tmps[5]?.getD undef = v5) (h6 : tmps[6]?.getD undef = v6) : (results Tryz.f31 tmps).run Tryz.prog w = .ok (.tuple #[.agg #[v0, v1, v2], v5, v6]) w := by
  have a0 : w.cell? ⟨H, 0, none⟩ = some v0 := by simp [World.cell?, hH]
  have a1 : w.cell? ⟨H, 1, none⟩ = some v1 := by simp [World.cell?, hH]
  have a2 : w.cell? ⟨H, 2, none⟩ = some v2 := by simp [World.cell?, hH]
  simp [results, Tryz.results31, go_sem, h4, h5, h6, a0, a1, a2]

theorem tok3 {w : World} {T k a : Nat} {x : ByteArray} (h : Tk w T k x a) (v0 v1 v2 : Value) :
    (((w.setCell ⟨T, 0, none⟩ v0).setCell ⟨T, 1, none⟩ v1).setCell ⟨T, 2, none⟩ v2).heap[T]? = some (.cells #[v0, v1, v2] 57 (0, 0)) :=
  heap_setCell_same _ T 2 _ _ v2 (heap_setCell_same _ T 1 _ _ v1 (heap_setCell_same w T 0 _ _ v0 h))
/-- the signs, each a text -/
def signsL : List (List UInt8) := [[58], [59], [124], [40], [41], [44], [60], [62]]
theorem sign_mem (c : UInt8) : [c] ∈ signsL ↔ signN c.toNat = true := by
  have h : ∀ n : Fin 256, ([UInt8.ofNat n.val] ∈ signsL ↔ signN n.val = true) := by decide +kernel
  have := h ⟨c.toNat, c.toNat_lt⟩
  simpa using this
theorem sign_in {s : ByteArray} {a : Nat} (ha : a < s.size) : (s.extract a (a + 1)).data.toList ∈ signsL ↔ signN (byteAt s a) = true := by
  obtain ⟨c, e1, e2⟩ := rest_cons ha
  rw [bs_extract s a 1 ha, bs_list, e1, e2]
  exact sign_mem c
theorem signs_lie (w : World) : IsStrs (w.alloc (.cells #[.string { data := #[58] }, .string { data := #[59] }, .string { data := #[124] }, .string { data := #[40] }, .string { data := #[41] }, .string { data := #[44] }, .string { data := #[60] }, .string { data := #[62] }] 9)) w.heap.size signsL := by
  intro i hi
  have hi8 : i < 8 := hi
  have h0 := heap_alloc_new w (.cells #[.string { data := #[58] }, .string { data := #[59] }, .string { data := #[124] }, .string { data := #[40] }, .string { data := #[41] }, .string { data := #[44] }, .string { data := #[60] }, .string { data := #[62] }] 9)
  rcases (show i = 0 ∨ i = 1 ∨ i = 2 ∨ i = 3 ∨ i = 4 ∨ i = 5 ∨ i = 6 ∨ i = 7 by omega) with rfl | rfl | rfl | rfl | rfl | rfl | rfl | rfl
  all_goals exact cell_of_row _ w.heap.size _ _ _ (0, 0) h0
theorem action_yes' {s : ByteArray} {a q : Nat} {w : World} (hs : s.size ≤ 1000000) (ha : a < s.size) (h123 : byteAt s a = 123) (h : aEnd s (a + 1) 1 = some (q + 1)) :
    Calls Tryz.prog 53 #[.string s, .int .i64 (a : Int)] w fun e w' => e = .returned (.tuple #[.int .i64 (q : Int), .bool true]) ∧ w = w' := action_yes hs ha h123 h

/-- what comes of a token -/
def TokR (s : ByteArray) (a : Nat) (w : World) (e : Ending) (w' : World) : Prop :=
  Below w.heap.size w w' ∧ match tokL (rest s a) with
  | .bad x => ∃ (z0 : Int) (z1 : ByteArray) (z2 y : Int), e = .returned (.tuple #[.agg #[.int .u8 z0, .string z1, .int .i64 z2], .int .i64 y, .int .i64 (x : Int)])
  | .good k t n => e = .returned (.tuple #[.agg #[.int .u8 (k : Int), .string (bs t), .int .i64 (a : Int)], .int .i64 ((a + n : Nat) : Int), .int .i64 0])
theorem TokR.bad {s : ByteArray} {a x : Nat} {w w' : World} {z0 z2 y : Int} {z1 : ByteArray} {z : Int} (h : tokL (rest s a) = .bad x) (hz : z = (x : Int)) (hb : Below w.heap.size w w') : TokR s a w (.returned (.tuple #[.agg #[.int .u8 z0, .string z1, .int .i64 z2], .int .i64 y, .int .i64 z])) w' := by
  unfold TokR; rw [h, hz]; exact ⟨hb, z0, z1, z2, y, rfl⟩
theorem TokR.good {s : ByteArray} {a k n : Nat} {t : List UInt8} {w w' : World} {x : ByteArray} {z y : Int} (h : tokL (rest s a) = .good k t n) (hz : z = (k : Int)) (hx : x = bs t) (hy : y = ((a + n : Nat) : Int)) (hb : Below w.heap.size w w') :
    TokR s a w (.returned (.tuple #[.agg #[.int .u8 z, .string x, .int .i64 (a : Int)], .int .i64 y, .int .i64 0])) w' := by
  unfold TokR; rw [h, hz, hx, hy]; exact ⟨hb, rfl⟩

set_option maxRecDepth 100000 in
set_option maxHeartbeats 4000000 in
theorem token_letter {s : ByteArray} {a : Nat} {w : World} (hs : s.size ≤ 1000000) (ha : a < s.size) (hl : letN (byteAt s a) = true) :
    Calls Tryz.prog 31 #[.string s, .int .i64 (a : Int)] w (TokR s a w) := by
  have hg := RefA.get_at ha
  have j0 : (0 : Int) ≤ (a : Int) := by omega
  have j1 : (a : Int) < (s.size : Int) := by omega
  have h2 : (a : Int) + 1 < (s.size : Int) ∨ ¬ ((a : Int) + 1 < (s.size : Int)) := Classical.em _
  have hb0 := fun o => (Below.refl w.heap.size w).alloc (Nat.le_refl _) o
  have htk := tok_letter ha hl
  have hrl := run_le s a
  rw [hg] at hl
  have HL := Lib.hid hl; clear hl
  have hsub : (a : Int) + (runL (rest s a) : Int) - (a : Int) = (runL (rest s a) : Int) := by omega
  have hex := Lib.hid (bs_extract s a (runL (rest s a)) (by omega))
  have hfit : 0 ≤ (a : Int) + (runL (rest s a) : Int) ∧ (a : Int) + (runL (rest s a) : Int) ≤ (s.size : Int) := by omega
  have hle : (a : Int) ≤ (a : Int) + (runL (rest s a) : Int) := by omega
  by_cases h40 : 40 < runL (rest s a)
  · rw [if_pos h40] at htk
    have HT := Lib.hid htk; clear htk hg
    have e40 : (40 : Int) < (runL (rest s a) : Int) := by omega
    have h2 : (a : Int) + 1 < (s.size : Int) := by omega
    all_goals
      go_enter Tryz.func31, Tryz.ntmps31
      go_wp2_with (first | (go_at_call 50; refine (letter_off_t HL.out).mono ?_; rintro e w' ⟨rfl, rfl⟩) | (go_at_call 51; refine (run_r hs (Nat.le_of_lt ha)).mono ?_; rintro e w' ⟨rfl, rfl⟩))
      try simp only [Exit.inBlock, Exit.then]
      refine bodyPost_ret (res_token (heap_alloc_new w _) rfl rfl rfl) rfl ?_
      exact TokR.bad HT.out rfl (hb0 _)
  · rw [if_neg h40] at htk
    have HT := Lib.hid htk; clear htk hg
    have e40 : (runL (rest s a) : Int) ≤ 40 := by omega
    rcases h2 with h2 | h2
    all_goals
      go_enter Tryz.func31, Tryz.ntmps31
      go_wp2_with (first | (go_at_call 50; refine (letter_off_t HL.out).mono ?_; rintro e w' ⟨rfl, rfl⟩) | (go_at_call 51; refine (run_r hs (Nat.le_of_lt ha)).mono ?_; rintro e w' ⟨rfl, rfl⟩))
      try simp only [Exit.inBlock, Exit.then]
      refine bodyPost_ret (res_token (heap_alloc_new w _) rfl rfl rfl) rfl ?_
      exact TokR.good HT.out rfl hex.out (by simp) (hb0 _)
set_option maxRecDepth 100000 in
set_option maxHeartbeats 4000000 in
theorem token_pct2 {s : ByteArray} {a : Nat} {w : World} (hs : s.size ≤ 1000000) (ha : a < s.size) (hl : letN (byteAt s a) = false) (h37 : byteAt s a = 37) (hp : byteAt s (a + 1) = 37) :
    Calls Tryz.prog 31 #[.string s, .int .i64 (a : Int)] w (TokR s a w) := by
  have hg := RefA.get_at ha
  have j0 : (0 : Int) ≤ (a : Int) := by omega
  have j1 : (a : Int) < (s.size : Int) := by omega
  have h2 : (a : Int) + 1 < (s.size : Int) ∨ ¬ ((a : Int) + 1 < (s.size : Int)) := Classical.em _
  have hb0 := fun o => (Below.refl w.heap.size w).alloc (Nat.le_refl _) o
  have HL0 := hl
  rw [hg] at hl
  have HL := Lib.hid hl; clear hl
  have e37 : (((s[a].toNat : Nat) : Int) == 37) = true := by rw [← hg, h37]; rfl
  have ha1 : a + 1 < s.size := by
    rcases Nat.lt_or_ge (a + 1) s.size with h | h
    · exact h
    · rw [(rest_nil h).2] at hp; omega
  have e2 : (((s[a + 1].toNat : Nat) : Int) == 37) = true := by rw [← RefA.get_at ha1, hp]; rfl
  have j2 : (a : Int) + 1 < (s.size : Int) := by omega
  have HT := Lib.hid (tok_pct2 ha h37 hp); clear h2 h37 hp hg HL0
  go_enter Tryz.func31, Tryz.ntmps31
  go_wp2_with (go_at_call 50; refine (letter_off_f HL.out).mono ?_; rintro e w' ⟨rfl, rfl⟩)
  try simp only [Exit.inBlock, Exit.then]
  refine bodyPost_ret (res_token (heap_alloc_new w _) rfl rfl rfl) rfl ?_
  exact TokR.good (k := 6) HT.out rfl rfl (by simp) (hb0 _)
set_option maxRecDepth 100000 in
set_option maxHeartbeats 4000000 in
theorem token_word {s : ByteArray} {a : Nat} {w : World} (hs : s.size ≤ 1000000) (ha : a < s.size) (hl : letN (byteAt s a) = false) (h37 : byteAt s a = 37) (hp : byteAt s (a + 1) ≠ 37) (hin : (rest s (a + 1)).take (runL (rest s (a + 1))) ∈ wordsL) :
    Calls Tryz.prog 31 #[.string s, .int .i64 (a : Int)] w (TokR s a w) := by
  have hg := RefA.get_at ha
  have j0 : (0 : Int) ≤ (a : Int) := by omega
  have j1 : (a : Int) < (s.size : Int) := by omega
  have h2 : (a : Int) + 1 < (s.size : Int) ∨ ¬ ((a : Int) + 1 < (s.size : Int)) := Classical.em _
  have hb0 := fun o => (Below.refl w.heap.size w).alloc (Nat.le_refl _) o
  have HL0 := hl
  rw [hg] at hl
  have HL := Lib.hid hl; clear hl
  have e37 : (((s[a].toNat : Nat) : Int) == 37) = true := by rw [← hg, h37]; rfl
  have htk := tok_pct1 ha h37 hp
  have h2' : (((a : Int) + 1 < (s.size : Int)) ∧ ∀ h : a + 1 < s.size, (((s[a + 1].toNat : Nat) : Int) == 37) = false) ∨ ¬ ((a : Int) + 1 < (s.size : Int)) := by
    by_cases h : a + 1 < s.size
    · exact .inl ⟨by omega, fun _ => by rw [← RefA.get_at h]; exact beq_eq_false_iff_ne.2 (by omega)⟩
    · exact .inr (by omega)
  have hrl := run_le s (a + 1)
  have hex := bs_extract s (a + 1) (runL (rest s (a + 1))) (by omega)
  have hfit : 0 ≤ (a : Int) + 1 + (runL (rest s (a + 1)) : Int) ∧ (a : Int) + 1 + (runL (rest s (a + 1)) : Int) ≤ (s.size : Int) := by omega
  have hle : (a : Int) + 1 ≤ (a : Int) + 1 + (runL (rest s (a + 1)) : Int) := by omega
  have hp0 : (0 : Int) ≤ (a : Int) + 1 := by omega
  have hle2 : (0 : Int) ≤ (a : Int) + 1 ∧ (a : Int) + 1 ≤ (a : Int) + 1 + (runL (rest s (a + 1)) : Int) := by omega
  have hfit1 := hfit.1; have hfit2 := hfit.2
  have hwr : IntKind.i64.wrap ((a : Int) + 1) = (a : Int) + 1 := by unfold IntKind.wrap; simp [IntKind.bits, IntKind.signed]; omega
  have ht1 : ((a : Int) + 1).toNat = a + 1 := by omega
  have ht2 : ((a : Int) + 1 + (runL (rest s (a + 1)) : Int)).toNat = a + 1 + runL (rest s (a + 1)) := by omega
  have hxs : (s.extract (a + 1) (a + 1 + runL (rest s (a + 1)))).data.toList = (rest s (a + 1)).take (runL (rest s (a + 1))) := by rw [hex, bs_list]
  have hex2 := Lib.hid hex; clear hex
  have ha1 : a + 1 ≤ s.size := ha
  have hH := heap_alloc_new w (.cells #[.int .u8 0, .string { data := #[] }, .int .i64 0] 57)
  have hW := (Below.refl w.heap.size w).alloc (Nat.le_refl _) (.cells #[.int .u8 0, .string { data := #[] }, .int .i64 0] 57)
  rw [if_pos hin] at htk
  have HT := Lib.hid htk; clear htk
  rw [← hxs] at hin
  have HIN := Lib.hid hin; clear hin hxs hg HL0 hp h37 h2
  rcases h2' with ⟨h2, e2⟩ | h2
  all_goals
    go_enter Tryz.func31, Tryz.ntmps31
    go_wp2_with (first | (go_at_call 50; refine (letter_off_f HL.out).mono ?_; rintro e w' ⟨rfl, rfl⟩) | (go_at_call 51; refine (run_r hs ha1).mono ?_; rintro e w' ⟨rfl, rfl⟩))
    go_region_with (first | (go_at_call 5; refine (words_x w).mono ?_; rintro e w2 ⟨rfl, hB2, hH2, hst2⟩) | (go_at_call 52; refine (among_t hst2 (by decide) rfl HIN.out).mono ?_; rintro e w' ⟨rfl, rfl⟩))
    all_goals
      clear hst2
      have t0 := hH2.c0; have t1 := hH2.c1; have t2 := hH2.c2; have f0 := hH2.fr 0; have f1 := hH2.fr 1; have f2 := hH2.fr 2
      go_wp2
      try simp only [Exit.inBlock, Exit.then]
      refine bodyPost_ret (res_token (tok3 hH2 _ _ _) rfl rfl rfl) rfl ?_
      exact TokR.good (k := 1) HT.out rfl hex2.out (by simp <;> omega) (((hB2.setCell (Nat.le_refl _) _).setCell (Nat.le_refl _) _).setCell (Nat.le_refl _) _)
set_option maxRecDepth 100000 in
set_option maxHeartbeats 4000000 in
theorem token_noword {s : ByteArray} {a : Nat} {w : World} (hs : s.size ≤ 1000000) (ha : a < s.size) (hl : letN (byteAt s a) = false) (h37 : byteAt s a = 37) (hp : byteAt s (a + 1) ≠ 37) (hin : (rest s (a + 1)).take (runL (rest s (a + 1))) ∉ wordsL) :
    Calls Tryz.prog 31 #[.string s, .int .i64 (a : Int)] w (TokR s a w) := by
  have hg := RefA.get_at ha
  have j0 : (0 : Int) ≤ (a : Int) := by omega
  have j1 : (a : Int) < (s.size : Int) := by omega
  have h2 : (a : Int) + 1 < (s.size : Int) ∨ ¬ ((a : Int) + 1 < (s.size : Int)) := Classical.em _
  have hb0 := fun o => (Below.refl w.heap.size w).alloc (Nat.le_refl _) o
  have HL0 := hl
  rw [hg] at hl
  have HL := Lib.hid hl; clear hl
  have e37 : (((s[a].toNat : Nat) : Int) == 37) = true := by rw [← hg, h37]; rfl
  have htk := tok_pct1 ha h37 hp
  have h2' : (((a : Int) + 1 < (s.size : Int)) ∧ ∀ h : a + 1 < s.size, (((s[a + 1].toNat : Nat) : Int) == 37) = false) ∨ ¬ ((a : Int) + 1 < (s.size : Int)) := by
    by_cases h : a + 1 < s.size
    · exact .inl ⟨by omega, fun _ => by rw [← RefA.get_at h]; exact beq_eq_false_iff_ne.2 (by omega)⟩
    · exact .inr (by omega)
  have hrl := run_le s (a + 1)
  have hex := bs_extract s (a + 1) (runL (rest s (a + 1))) (by omega)
  have hfit : 0 ≤ (a : Int) + 1 + (runL (rest s (a + 1)) : Int) ∧ (a : Int) + 1 + (runL (rest s (a + 1)) : Int) ≤ (s.size : Int) := by omega
  have hle : (a : Int) + 1 ≤ (a : Int) + 1 + (runL (rest s (a + 1)) : Int) := by omega
  have hp0 : (0 : Int) ≤ (a : Int) + 1 := by omega
  have hle2 : (0 : Int) ≤ (a : Int) + 1 ∧ (a : Int) + 1 ≤ (a : Int) + 1 + (runL (rest s (a + 1)) : Int) := by omega
  have hfit1 := hfit.1; have hfit2 := hfit.2
  have hwr : IntKind.i64.wrap ((a : Int) + 1) = (a : Int) + 1 := by unfold IntKind.wrap; simp [IntKind.bits, IntKind.signed]; omega
  have ht1 : ((a : Int) + 1).toNat = a + 1 := by omega
  have ht2 : ((a : Int) + 1 + (runL (rest s (a + 1)) : Int)).toNat = a + 1 + runL (rest s (a + 1)) := by omega
  have hxs : (s.extract (a + 1) (a + 1 + runL (rest s (a + 1)))).data.toList = (rest s (a + 1)).take (runL (rest s (a + 1))) := by rw [hex, bs_list]
  have hex2 := Lib.hid hex; clear hex
  have ha1 : a + 1 ≤ s.size := ha
  have hH := heap_alloc_new w (.cells #[.int .u8 0, .string { data := #[] }, .int .i64 0] 57)
  have hW := (Below.refl w.heap.size w).alloc (Nat.le_refl _) (.cells #[.int .u8 0, .string { data := #[] }, .int .i64 0] 57)
  rw [if_neg hin] at htk
  have HT := Lib.hid htk; clear htk
  rw [← hxs] at hin
  have HIN := Lib.hid hin; clear hin hxs hg HL0 hp h37 h2
  rcases h2' with ⟨h2, e2⟩ | h2
  all_goals
    go_enter Tryz.func31, Tryz.ntmps31
    go_wp2_with (first | (go_at_call 50; refine (letter_off_f HL.out).mono ?_; rintro e w' ⟨rfl, rfl⟩) | (go_at_call 51; refine (run_r hs ha1).mono ?_; rintro e w' ⟨rfl, rfl⟩))
    go_region_with (first | (go_at_call 5; refine (words_x w).mono ?_; rintro e w2 ⟨rfl, hB2, hH2, hst2⟩) | (go_at_call 52; refine (among_f hst2 (by decide) rfl HIN.out).mono ?_; rintro e w' ⟨rfl, rfl⟩))
    all_goals
      clear hst2
      have t0 := hH2.c0; have t1 := hH2.c1; have t2 := hH2.c2; have f0 := hH2.fr 0; have f1 := hH2.fr 1; have f2 := hH2.fr 2
      go_wp2
      try simp only [Exit.inBlock, Exit.then]
      refine bodyPost_ret (res_token (tok3 hH2 _ _ _) rfl rfl rfl) rfl ?_
      exact TokR.bad HT.out rfl (((hB2.setCell (Nat.le_refl _) _).setCell (Nat.le_refl _) _).setCell (Nat.le_refl _) _)
set_option maxRecDepth 100000 in
set_option maxHeartbeats 4000000 in
theorem token_brace {s : ByteArray} {a : Nat} {w : World} (hs : s.size ≤ 1000000) (ha : a < s.size) (hl : letN (byteAt s a) = false) (h37 : byteAt s a ≠ 37) (h123 : byteAt s a = 123) :
    Calls Tryz.prog 31 #[.string s, .int .i64 (a : Int)] w (TokR s a w) := by
  have hg := RefA.get_at ha
  have j0 : (0 : Int) ≤ (a : Int) := by omega
  have j1 : (a : Int) < (s.size : Int) := by omega
  have h2 : (a : Int) + 1 < (s.size : Int) ∨ ¬ ((a : Int) + 1 < (s.size : Int)) := Classical.em _
  have hb0 := fun o => (Below.refl w.heap.size w).alloc (Nat.le_refl _) o
  have HL0 := hl
  rw [hg] at hl
  have HL := Lib.hid hl; clear hl
  have e37 : (((s[a].toNat : Nat) : Int) == 37) = false := by rw [← hg]; exact beq_eq_false_iff_ne.2 (by omega)
  have e123 : (((s[a].toNat : Nat) : Int) == 123) = true := by rw [← hg, h123]; rfl
  have htk := tok_brace ha h123
  have HB := Lib.hid h123
  clear hg HL0 h37 h123
  cases hq : aEnd s (a + 1) 1 with
  | none =>
    have HT := Lib.hid (htk.1 hq); clear htk
    have HQ := Lib.hid hq; clear hq
    rcases h2 with h2 | h2
    all_goals
      go_enter Tryz.func31, Tryz.ntmps31
      go_wp2_with (first | (go_at_call 50; refine (letter_off_f HL.out).mono ?_; rintro e w' ⟨rfl, rfl⟩) | (go_at_call 53; refine (action_no hs ha HB.out HQ.out).mono ?_; rintro e w' ⟨x, rfl, rfl⟩))
      try simp only [Exit.inBlock, Exit.then]
      refine bodyPost_ret (res_token (heap_alloc_new w _) rfl rfl rfl) rfl ?_
      exact TokR.bad HT.out rfl (hb0 _)
  | some n =>
    obtain ⟨hn1, hn2, htk2⟩ := htk.2 n hq
    obtain ⟨q, rfl⟩ : ∃ q, n = q + 1 := ⟨n - 1, by omega⟩
    have HT := Lib.hid htk2; clear htk htk2
    have HQ := Lib.hid hq; clear hq
    have hex := bs_extract s (a + 1) (q + 1 - 1 - (a + 1)) (by omega)
    rw [show a + 1 + (q + 1 - 1 - (a + 1)) = q from by omega] at hex
    have HX := Lib.hid hex; clear hex
    have k1 : (a : Int) + 1 ≤ (q : Int) := by omega
    have k2 : (q : Int) ≤ (s.size : Int) := by omega
    have k3 : (0 : Int) ≤ (a : Int) + 1 := by omega
    have ht1 : ((a : Int) + 1).toNat = a + 1 := by omega
    have h2 : (a : Int) + 1 < (s.size : Int) := by omega
    go_enter Tryz.func31, Tryz.ntmps31
    go_wp2_with (first | (go_at_call 50; refine (letter_off_f HL.out).mono ?_; rintro e w' ⟨rfl, rfl⟩) | (go_at_call 53; refine (action_yes' hs ha HB.out HQ.out).mono ?_; rintro e w' ⟨rfl, rfl⟩))
    try simp only [Exit.inBlock, Exit.then]
    refine bodyPost_ret (res_token (heap_alloc_new w _) rfl rfl rfl) rfl ?_
    exact TokR.good (k := 9) HT.out rfl HX.out (by simp <;> omega) (hb0 _)
end Go.Proofs.YtfecjoheabkloaaGreatDoor.RefC
