/- The document's lexer: its lists of texts, its tokens, walked. -/
import Derived.Test.YtghebacphjglbaaGreatM3
import Derived.Test.YtghebacphjglbaaGreatLexF
import Derived.Deep.RegionWith
import Derived.Deep.DeepMust
import Derived.Outline
import Derived.Test.YtghebacphjglbaaGreatM1
namespace Go.Proofs.YtghebacphjglbaaGreat.RefC
open Go.RowKit Go.Proofs.YtghebacphjglbaaGreat.Lexy Go.Proofs.YtghebacphjglbaaGreat.LexA Go.Proofs.YtghebacphjglbaaGreat.LexB Go.Proofs.YtghebacphjglbaaGreat.LexC Go.Proofs.YtghebacphjglbaaGreat.LexD Go.Proofs.YtghebacphjglbaaGreat.LexE Go.Proofs.YtghebacphjglbaaGreat.LexF Go.Proofs.YtghebacphjglbaaGreat.RefA Go.Proofs.YtghebacphjglbaaGreat.RefB

theorem letter_off_t {n : Nat} {w : World} (h : letN n = true) : Calls Tryz.prog 72 #[.int .u8 (n : Int), .bool false] w fun e w' => e = .returned (.bool true) ∧ w = w' := (letter_off n w).mono fun _ _ ⟨h1, h2⟩ => ⟨by rw [h1, h], h2⟩
theorem letter_off_f {n : Nat} {w : World} (h : letN n = false) : Calls Tryz.prog 72 #[.int .u8 (n : Int), .bool false] w fun e w' => e = .returned (.bool false) ∧ w = w' := (letter_off n w).mono fun _ _ ⟨h1, h2⟩ => ⟨by rw [h1, h], h2⟩

theorem str_eq (l : List UInt8) (s : ByteArray) : ((bs l).toList == s.toList) = decide (l = s.data.toList) := by
  rw [bs_toList, ByteArray.toList_eq]
  by_cases h : l = s.data.toList
  · rw [decide_eq_true h]; exact beq_iff_eq.2 h
  · rw [decide_eq_false h]; exact beq_eq_false_iff_ne.2 h

/-- texts lie in a block -/
def IsStrs (w : World) (g : Nat) (L : List (List UInt8)) : Prop := ∀ i, i < L.length → w.cell? ⟨g, i, none⟩ = some (.string (bs (L.getD i [])))
theorem among_r {s : ByteArray} {w : World} {g c : Nat} {L : List (List UInt8)} (h : IsStrs w g L) (hl : L.length ≤ 1000) :
    Calls Tryz.prog 100 #[.string s, .slice (some ⟨g, 0, none⟩) L.length c] w fun e w' => e = .returned (.bool (decide (s.data.toList ∈ L))) ∧ w = w' := by
  have H := Lib.hid h; clear h
  go_enter Tryz.func100, Tryz.ntmps100
  go_wp2
  go_loopg [5] L.length (fun gk i wr => ∃ k : Nat, k ≤ L.length ∧ gk = L.length - k ∧ i = .int .i64 (k : Int) ∧ (∀ j, j < k → L.getD j [] ≠ s.data.toList) ∧ wr = w)
  case atStart => exact ⟨0, by omega, by omega, rfl, by omega, rfl⟩
  case round =>
    obtain ⟨k, hk, rfl, rfl, hno, rfl⟩ := hrel
    have HNO := Lib.hid hno; clear hno
    by_cases hlt : k < L.length
    · have a1 := H.out k hlt
      have j0 : (0 : Int) ≤ (k : Int) := by omega
      have j1 : (k : Int) < (L.length : Int) := by omega
      obtain ⟨x, hx⟩ : ∃ x, L.getD k [] = x := ⟨_, rfl⟩
      rw [hx] at a1
      by_cases he : x = s.data.toList
      · have e1 : ((bs x).toList == s.toList) = true := by rw [str_eq]; exact decide_eq_true he
        have HE := Lib.hid (hx.trans he); clear he hx
        go_wp2
        go_ret
        refine ⟨ret_bool (decide_eq_true ?_).symm, rfl⟩
        rw [← HE.out, List.getD_eq_getElem?_getD, List.getElem?_eq_getElem hlt]
        exact List.getElem_mem hlt
      · have e1 : ((bs x).toList == s.toList) = false := by rw [str_eq]; exact decide_eq_false he
        have HE := Lib.hid (fun h : L.getD k [] = s.data.toList => he (hx.symm.trans h)); clear he hx
        go_wp2
        go_roundg (L.length - (k + 1))
        case measure => omega
        case rel => exact ⟨k + 1, by omega, rfl, by go_num, fun j hj => (Nat.lt_succ_iff_lt_or_eq.1 hj).elim (fun h => HNO.out j h) (fun h => h ▸ HE.out), rfl⟩
    · go_wp2
      go_ret
      refine ⟨ret_bool (decide_eq_false ?_).symm, rfl⟩
      intro hm
      obtain ⟨j, hj, e⟩ := List.getElem_of_mem hm
      exact HNO.out j (by omega) (by rw [List.getD_eq_getElem?_getD, List.getElem?_eq_getElem hj]; exact e)
theorem among_t {s : ByteArray} {w : World} {g c n : Nat} {L : List (List UInt8)} (h : IsStrs w g L) (hl : L.length ≤ 1000) (hn : L.length = n) (hin : s.data.toList ∈ L) :
    Calls Tryz.prog 100 #[.string s, .slice (some ⟨g, 0, none⟩) n c] w fun e w' => e = .returned (.bool true) ∧ w = w' := by
  subst hn; exact (among_r h hl).mono fun _ _ ⟨h1, h2⟩ => ⟨by rw [h1, decide_eq_true hin], h2⟩
theorem among_f {s : ByteArray} {w : World} {g c n : Nat} {L : List (List UInt8)} (h : IsStrs w g L) (hl : L.length ≤ 1000) (hn : L.length = n) (hin : s.data.toList ∉ L) :
    Calls Tryz.prog 100 #[.string s, .slice (some ⟨g, 0, none⟩) n c] w fun e w' => e = .returned (.bool false) ∧ w = w' := by
  subst hn; exact (among_r h hl).mono fun _ _ ⟨h1, h2⟩ => ⟨by rw [h1, decide_eq_false hin], h2⟩

theorem words_r (w : World) :
    Calls Tryz.prog 101 #[] w fun e w' => e = .returned (.slice (some ⟨w.heap.size, 0, none⟩) 7 7) ∧ Below w.heap.size w w' ∧ IsStrs w' w.heap.size wordsL := by
  go_enter Tryz.func101, Tryz.ntmps101
  go_wp2
  go_ret
  refine ⟨rfl, (Below.refl _ _).alloc (Nat.le_refl _) _, ?_⟩
  intro i hi
  have hi7 : i < 7 := hi
  have h0 := heap_alloc_new w (.cells #[.string (bs [116, 111, 107, 101, 110]), .string (bs [116, 121, 112, 101]), .string (bs [108, 101, 102, 116]), .string (bs [114, 105, 103, 104, 116]), .string (bs [110, 111, 110, 97, 115, 115, 111, 99]), .string (bs [115, 116, 97, 114, 116]), .string (bs [112, 114, 101, 99])] 9)
  rcases (show i = 0 ∨ i = 1 ∨ i = 2 ∨ i = 3 ∨ i = 4 ∨ i = 5 ∨ i = 6 by omega) with rfl | rfl | rfl | rfl | rfl | rfl | rfl
  all_goals exact cell_of_row _ w.heap.size _ _ _ (0, 0) h0
/-- the same, behind the result's new cell -/
theorem words_x (w : World) :
    Calls Tryz.prog 101 #[] (w.alloc (.cells #[.int .u8 0, .string { data := #[] }, .int .i64 0] 121)).drew fun e w' =>
      e = .returned (.slice (some ⟨w.heap.size + 1, 0, none⟩) 7 7) ∧ Below w.heap.size w w' ∧ Tk w' w.heap.size 0 { data := #[] } 0 ∧ IsStrs w' (w.heap.size + 1) wordsL := by
  have hH := heap_alloc_new w (.cells #[.int .u8 0, .string { data := #[] }, .int .i64 0] 121)
  have hW := ((Below.refl w.heap.size w).alloc (Nat.le_refl _) (.cells #[.int .u8 0, .string { data := #[] }, .int .i64 0] 121)).drewN 1
  have hz : (w.alloc (.cells #[.int .u8 0, .string { data := #[] }, .int .i64 0] 121)).drew.heap.size = w.heap.size + 1 := by simp
  refine (words_r _).mono ?_
  rintro e w' ⟨he, hb, hs⟩
  rw [hz] at he hb hs
  exact ⟨he, hW.trans (hb.mono (by omega)), (hb.block w.heap.size (by omega)).trans hH, hs⟩
/-- the result's cell -/
theorem res_token {w : World} {H : Nat} {v0 v1 v2 v5 v6 : Value} {tmps : Array Value} (hH : w.heap[H]? = some (.cells #[v0, v1, v2] 121 (0, 0)))
    (h4 : tmps[4]?.getD undef = .pointer (some ⟨H, 0, none⟩)) (h5 : tmps[5]?.getD undef = v5) (h6 : tmps[6]?.getD undef = v6) : (results Tryz.f88 tmps).run Tryz.prog w = .ok (.tuple #[.agg #[v0, v1, v2], v5, v6]) w := by
  have a0 : w.cell? ⟨H, 0, none⟩ = some v0 := by simp [World.cell?, hH]
  have a1 : w.cell? ⟨H, 1, none⟩ = some v1 := by simp [World.cell?, hH]
  have a2 : w.cell? ⟨H, 2, none⟩ = some v2 := by simp [World.cell?, hH]
  simp [results, Tryz.results88, go_sem, h4, h5, h6, a0, a1, a2]

theorem tok3 {w : World} {T k a : Nat} {x : ByteArray} (h : Tk w T k x a) (v0 v1 v2 : Value) :
    (((w.setCell ⟨T, 0, none⟩ v0).setCell ⟨T, 1, none⟩ v1).setCell ⟨T, 2, none⟩ v2).heap[T]? = some (.cells #[v0, v1, v2] 121 (0, 0)) :=
  heap_setCell_same _ T 2 _ _ v2 (heap_setCell_same _ T 1 _ _ v1 (heap_setCell_same w T 0 _ _ v0 h))
/-- the signs, each a text -/
def signsL : List (List UInt8) := [[58], [59], [124], [40], [41], [44], [60], [62]]
theorem sign_mem (c : UInt8) : [c] ∈ signsL ↔ signN c.toNat = true := by
  have h : ∀ n : Fin 256, ([UInt8.ofNat n.val] ∈ signsL ↔ signN n.val = true) := by decide +kernel
  have := h ⟨c.toNat, c.toNat_lt⟩
  simpa using this
theorem sign_in {s : ByteArray} {a : Nat} (ha : a < s.size) : (s.extract a (a + 1)).data.toList ∈ signsL ↔ signN (byteAt s a) = true := by
  obtain ⟨c, e1, e2⟩ := rest_cons ha
  rw [bs_extract s a 1 ha, bs_list, e1, e2]
  exact sign_mem c
theorem signs_lie (w : World) : IsStrs (w.alloc (.cells #[.string { data := #[58] }, .string { data := #[59] }, .string { data := #[124] }, .string { data := #[40] }, .string { data := #[41] }, .string { data := #[44] }, .string { data := #[60] }, .string { data := #[62] }] 9)) w.heap.size signsL := by
  intro i hi
  have hi8 : i < 8 := hi
  have h0 := heap_alloc_new w (.cells #[.string { data := #[58] }, .string { data := #[59] }, .string { data := #[124] }, .string { data := #[40] }, .string { data := #[41] }, .string { data := #[44] }, .string { data := #[60] }, .string { data := #[62] }] 9)
  rcases (show i = 0 ∨ i = 1 ∨ i = 2 ∨ i = 3 ∨ i = 4 ∨ i = 5 ∨ i = 6 ∨ i = 7 by omega) with rfl | rfl | rfl | rfl | rfl | rfl | rfl | rfl
  all_goals exact cell_of_row _ w.heap.size _ _ _ (0, 0) h0
theorem action_yes' {s : ByteArray} {a q : Nat} {w : World} (hs : s.size ≤ 1000000) (ha : a < s.size) (h123 : byteAt s a = 123) (h : aEnd s (a + 1) 1 = some (q + 1)) :
    Calls Tryz.prog 102 #[.string s, .int .i64 (a : Int)] w fun e w' => e = .returned (.tuple #[.int .i64 (q : Int), .bool true]) ∧ w = w' := action_yes hs ha h123 h

/-- what comes of a token -/
def TokR (s : ByteArray) (a : Nat) (w : World) (e : Ending) (w' : World) : Prop :=
  Below w.heap.size w w' ∧ match tokL (rest s a) with
  | .bad x => ∃ (z0 : Int) (z1 : ByteArray) (z2 y : Int), e = .returned (.tuple #[.agg #[.int .u8 z0, .string z1, .int .i64 z2], .int .i64 y, .int .i64 (x : Int)])
  | .good k t n => e = .returned (.tuple #[.agg #[.int .u8 (k : Int), .string (bs t), .int .i64 (a : Int)], .int .i64 ((a + n : Nat) : Int), .int .i64 0])
theorem TokR.bad {s : ByteArray} {a x : Nat} {w w' : World} {z0 z2 y : Int} {z1 : ByteArray} {z : Int} (h : tokL (rest s a) = .bad x) (hz : z = (x : Int)) (hb : Below w.heap.size w w') : TokR s a w (.returned (.tuple #[.agg #[.int .u8 z0, .string z1, .int .i64 z2], .int .i64 y, .int .i64 z])) w' := by
  unfold TokR; rw [h, hz]; exact ⟨hb, z0, z1, z2, y, rfl⟩
theorem TokR.good {s : ByteArray} {a k n : Nat} {t : List UInt8} {w w' : World} {x : ByteArray} {z y : Int} (h : tokL (rest s a) = .good k t n) (hz : z = (k : Int)) (hx : x = bs t) (hy : y = ((a + n : Nat) : Int)) (hb : Below w.heap.size w w') :
    TokR s a w (.returned (.tuple #[.agg #[.int .u8 z, .string x, .int .i64 (a : Int)], .int .i64 y, .int .i64 0])) w' := by
  unfold TokR; rw [h, hz, hx, hy]; exact ⟨hb, rfl⟩

set_option maxRecDepth 100000 in
set_option maxHeartbeats 4000000 in
theorem token_letter {s : ByteArray} {a : Nat} {w : World} (hs : s.size ≤ 1000000) (ha : a < s.size) (hl : letN (byteAt s a) = true) :
    Calls Tryz.prog 88 #[.string s, .int .i64 (a : Int)] w (TokR s a w) := by
  have hg := RefA.get_at ha
  have j0 : (0 : Int) ≤ (a : Int) := by omega
  have j1 : (a : Int) < (s.size : Int) := by omega
  have h2 : (a : Int) + 1 < (s.size : Int) ∨ ¬ ((a : Int) + 1 < (s.size : Int)) := Classical.em _
  have hb0 := fun o => (Below.refl w.heap.size w).alloc (Nat.le_refl _) o
  have htk := tok_letter ha hl
  have hrl := run_le s a
  rw [hg] at hl
  have HL := Lib.hid hl; clear hl
  have hsub : (a : Int) + (runL (rest s a) : Int) - (a : Int) = (runL (rest s a) : Int) := by omega
  have hex := Lib.hid (bs_extract s a (runL (rest s a)) (by omega))
  have hfit : 0 ≤ (a : Int) + (runL (rest s a) : Int) ∧ (a : Int) + (runL (rest s a) : Int) ≤ (s.size : Int) := by omega
  have hle : (a : Int) ≤ (a : Int) + (runL (rest s a) : Int) := by omega
  by_cases h40 : 40 < runL (rest s a)
  · rw [if_pos h40] at htk
    have HT := Lib.hid htk; clear htk hg
    have e40 : (40 : Int) < (runL (rest s a) : Int) := by omega
    have h2 : (a : Int) + 1 < (s.size : Int) := by omega
    all_goals
      go_enter Tryz.func88, Tryz.ntmps88
      go_wp2_with (first | (go_at_call 72; refine (letter_off_t HL.out).mono ?_; rintro e w' ⟨rfl, rfl⟩) | (go_at_call 99; refine (run_r hs (Nat.le_of_lt ha)).mono ?_; rintro e w' ⟨rfl, rfl⟩))
      try simp only [Exit.inBlock, Exit.then]
      refine bodyPost_ret (res_token (heap_alloc_new w _) rfl rfl rfl) rfl ?_
      exact TokR.bad HT.out rfl (hb0 _)
  · rw [if_neg h40] at htk
    have HT := Lib.hid htk; clear htk hg
    have e40 : (runL (rest s a) : Int) ≤ 40 := by omega
    rcases h2 with h2 | h2
    all_goals
      go_enter Tryz.func88, Tryz.ntmps88
      go_wp2_with (first | (go_at_call 72; refine (letter_off_t HL.out).mono ?_; rintro e w' ⟨rfl, rfl⟩) | (go_at_call 99; refine (run_r hs (Nat.le_of_lt ha)).mono ?_; rintro e w' ⟨rfl, rfl⟩))
      try simp only [Exit.inBlock, Exit.then]
      refine bodyPost_ret (res_token (heap_alloc_new w _) rfl rfl rfl) rfl ?_
      exact TokR.good HT.out rfl hex.out (by simp) (hb0 _)
set_option maxRecDepth 100000 in
set_option maxHeartbeats 4000000 in
theorem token_pct2 {s : ByteArray} {a : Nat} {w : World} (hs : s.size ≤ 1000000) (ha : a < s.size) (hl : letN (byteAt s a) = false) (h37 : byteAt s a = 37) (hp : byteAt s (a + 1) = 37) :
    Calls Tryz.prog 88 #[.string s, .int .i64 (a : Int)] w (TokR s a w) := by
  have hg := RefA.get_at ha
  have j0 : (0 : Int) ≤ (a : Int) := by omega
  have j1 : (a : Int) < (s.size : Int) := by omega
  have h2 : (a : Int) + 1 < (s.size : Int) ∨ ¬ ((a : Int) + 1 < (s.size : Int)) := Classical.em _
  have hb0 := fun o => (Below.refl w.heap.size w).alloc (Nat.le_refl _) o
  have HL0 := hl
  rw [hg] at hl
  have HL := Lib.hid hl; clear hl
  have e37 : (((s[a].toNat : Nat) : Int) == 37) = true := by rw [← hg, h37]; rfl
  have ha1 : a + 1 < s.size := by
    rcases Nat.lt_or_ge (a + 1) s.size with h | h
    · exact h
    · rw [(rest_nil h).2] at hp; omega
  have e2 : (((s[a + 1].toNat : Nat) : Int) == 37) = true := by rw [← RefA.get_at ha1, hp]; rfl
  have j2 : (a : Int) + 1 < (s.size : Int) := by omega
  have HT := Lib.hid (tok_pct2 ha h37 hp); clear h2 h37 hp hg HL0
  go_enter Tryz.func88, Tryz.ntmps88
  go_wp2_with (go_at_call 72; refine (letter_off_f HL.out).mono ?_; rintro e w' ⟨rfl, rfl⟩)
  try simp only [Exit.inBlock, Exit.then]
  refine bodyPost_ret (res_token (heap_alloc_new w _) rfl rfl rfl) rfl ?_
  exact TokR.good (k := 6) HT.out rfl rfl (by simp) (hb0 _)
set_option maxRecDepth 100000 in
set_option maxHeartbeats 4000000 in
theorem token_word {s : ByteArray} {a : Nat} {w : World} (hs : s.size ≤ 1000000) (ha : a < s.size) (hl : letN (byteAt s a) = false) (h37 : byteAt s a = 37) (hp : byteAt s (a + 1) ≠ 37) (hin : (rest s (a + 1)).take (runL (rest s (a + 1))) ∈ wordsL) :
    Calls Tryz.prog 88 #[.string s, .int .i64 (a : Int)] w (TokR s a w) := by
  have hg := RefA.get_at ha
  have j0 : (0 : Int) ≤ (a : Int) := by omega
  have j1 : (a : Int) < (s.size : Int) := by omega
  have h2 : (a : Int) + 1 < (s.size : Int) ∨ ¬ ((a : Int) + 1 < (s.size : Int)) := Classical.em _
  have hb0 := fun o => (Below.refl w.heap.size w).alloc (Nat.le_refl _) o
  have HL0 := hl
  rw [hg] at hl
  have HL := Lib.hid hl; clear hl
  have e37 : (((s[a].toNat : Nat) : Int) == 37) = true := by rw [← hg, h37]; rfl
  have htk := tok_pct1 ha h37 hp
  have h2' : (((a : Int) + 1 < (s.size : Int)) ∧ ∀ h : a + 1 < s.size, (((s[a + 1].toNat : Nat) : Int) == 37) = false) ∨ ¬ ((a : Int) + 1 < (s.size : Int)) := by
    by_cases h : a + 1 < s.size
    · exact .inl ⟨by omega, fun _ => by rw [← RefA.get_at h]; exact beq_eq_false_iff_ne.2 (by omega)⟩
    · exact .inr (by omega)
  have hrl := run_le s (a + 1)
  have hex := bs_extract s (a + 1) (runL (rest s (a + 1))) (by omega)
  have hfit : 0 ≤ (a : Int) + 1 + (runL (rest s (a + 1)) : Int) ∧ (a : Int) + 1 + (runL (rest s (a + 1)) : Int) ≤ (s.size : Int) := by omega
  have hle : (a : Int) + 1 ≤ (a : Int) + 1 + (runL (rest s (a + 1)) : Int) := by omega
  have hp0 : (0 : Int) ≤ (a : Int) + 1 := by omega
  have hle2 : (0 : Int) ≤ (a : Int) + 1 ∧ (a : Int) + 1 ≤ (a : Int) + 1 + (runL (rest s (a + 1)) : Int) := by omega
  have hfit1 := hfit.1; have hfit2 := hfit.2
  have hwr : IntKind.i64.wrap ((a : Int) + 1) = (a : Int) + 1 := by unfold IntKind.wrap; simp [IntKind.bits, IntKind.signed]; omega
  have ht1 : ((a : Int) + 1).toNat = a + 1 := by omega
  have ht2 : ((a : Int) + 1 + (runL (rest s (a + 1)) : Int)).toNat = a + 1 + runL (rest s (a + 1)) := by omega
  have hxs : (s.extract (a + 1) (a + 1 + runL (rest s (a + 1)))).data.toList = (rest s (a + 1)).take (runL (rest s (a + 1))) := by rw [hex, bs_list]
  have hex2 := Lib.hid hex; clear hex
  have ha1 : a + 1 ≤ s.size := ha
  have hH := heap_alloc_new w (.cells #[.int .u8 0, .string { data := #[] }, .int .i64 0] 121)
  have hW := (Below.refl w.heap.size w).alloc (Nat.le_refl _) (.cells #[.int .u8 0, .string { data := #[] }, .int .i64 0] 121)
  rw [if_pos hin] at htk
  have HT := Lib.hid htk; clear htk
  rw [← hxs] at hin
  have HIN := Lib.hid hin; clear hin hxs hg HL0 hp h37 h2
  rcases h2' with ⟨h2, e2⟩ | h2
  all_goals
    go_enter Tryz.func88, Tryz.ntmps88
    go_wp2_with (first | (go_at_call 72; refine (letter_off_f HL.out).mono ?_; rintro e w' ⟨rfl, rfl⟩) | (go_at_call 99; refine (run_r hs ha1).mono ?_; rintro e w' ⟨rfl, rfl⟩))
    go_region_with (first | (go_at_call 101; refine (words_x w).mono ?_; rintro e w2 ⟨rfl, hB2, hH2, hst2⟩) | (go_at_call 100; refine (among_t hst2 (by decide) rfl HIN.out).mono ?_; rintro e w' ⟨rfl, rfl⟩))
    all_goals
      clear hst2
      have t0 := hH2.c0; have t1 := hH2.c1; have t2 := hH2.c2; have f0 := hH2.fr 0; have f1 := hH2.fr 1; have f2 := hH2.fr 2
      go_wp2
      try simp only [Exit.inBlock, Exit.then]
      refine bodyPost_ret (res_token (tok3 hH2 _ _ _) rfl rfl rfl) rfl ?_
      exact TokR.good (k := 1) HT.out rfl hex2.out (by simp <;> omega) (((hB2.setCell (Nat.le_refl _) _).setCell (Nat.le_refl _) _).setCell (Nat.le_refl _) _)
set_option maxRecDepth 100000 in
set_option maxHeartbeats 4000000 in
theorem token_noword {s : ByteArray} {a : Nat} {w : World} (hs : s.size ≤ 1000000) (ha : a < s.size) (hl : letN (byteAt s a) = false) (h37 : byteAt s a = 37) (hp : byteAt s (a + 1) ≠ 37) (hin : (rest s (a + 1)).take (runL (rest s (a + 1))) ∉ wordsL) :
    Calls Tryz.prog 88 #[.string s, .int .i64 (a : Int)] w (TokR s a w) := by
  have hg := RefA.get_at ha
  have j0 : (0 : Int) ≤ (a : Int) := by omega
  have j1 : (a : Int) < (s.size : Int) := by omega
  have h2 : (a : Int) + 1 < (s.size : Int) ∨ ¬ ((a : Int) + 1 < (s.size : Int)) := Classical.em _
  have hb0 := fun o => (Below.refl w.heap.size w).alloc (Nat.le_refl _) o
  have HL0 := hl
  rw [hg] at hl
  have HL := Lib.hid hl; clear hl
  have e37 : (((s[a].toNat : Nat) : Int) == 37) = true := by rw [← hg, h37]; rfl
  have htk := tok_pct1 ha h37 hp
  have h2' : (((a : Int) + 1 < (s.size : Int)) ∧ ∀ h : a + 1 < s.size, (((s[a + 1].toNat : Nat) : Int) == 37) = false) ∨ ¬ ((a : Int) + 1 < (s.size : Int)) := by
    by_cases h : a + 1 < s.size
    · exact .inl ⟨by omega, fun _ => by rw [← RefA.get_at h]; exact beq_eq_false_iff_ne.2 (by omega)⟩
    · exact .inr (by omega)
  have hrl := run_le s (a + 1)
  have hex := bs_extract s (a + 1) (runL (rest s (a + 1))) (by omega)
  have hfit : 0 ≤ (a : Int) + 1 + (runL (rest s (a + 1)) : Int) ∧ (a : Int) + 1 + (runL (rest s (a + 1)) : Int) ≤ (s.size : Int) := by omega
  have hle : (a : Int) + 1 ≤ (a : Int) + 1 + (runL (rest s (a + 1)) : Int) := by omega
  have hp0 : (0 : Int) ≤ (a : Int) + 1 := by omega
  have hle2 : (0 : Int) ≤ (a : Int) + 1 ∧ (a : Int) + 1 ≤ (a : Int) + 1 + (runL (rest s (a + 1)) : Int) := by omega
  have hfit1 := hfit.1; have hfit2 := hfit.2
  have hwr : IntKind.i64.wrap ((a : Int) + 1) = (a : Int) + 1 := by unfold IntKind.wrap; simp [IntKind.bits, IntKind.signed]; omega
  have ht1 : ((a : Int) + 1).toNat = a + 1 := by omega
  have ht2 : ((a : Int) + 1 + (runL (rest s (a + 1)) : Int)).toNat = a + 1 + runL (rest s (a + 1)) := by omega
  have hxs : (s.extract (a + 1) (a + 1 + runL (rest s (a + 1)))).data.toList = (rest s (a + 1)).take (runL (rest s (a + 1))) := by rw [hex, bs_list]
  have hex2 := Lib.hid hex; clear hex
  have ha1 : a + 1 ≤ s.size := ha
  have hH := heap_alloc_new w (.cells #[.int .u8 0, .string { data := #[] }, .int .i64 0] 121)
  have hW := (Below.refl w.heap.size w).alloc (Nat.le_refl _) (.cells #[.int .u8 0, .string { data := #[] }, .int .i64 0] 121)
  rw [if_neg hin] at htk
  have HT := Lib.hid htk; clear htk
  rw [← hxs] at hin
  have HIN := Lib.hid hin; clear hin hxs hg HL0 hp h37 h2
  rcases h2' with ⟨h2, e2⟩ | h2
  all_goals
    go_enter Tryz.func88, Tryz.ntmps88
    go_wp2_with (first | (go_at_call 72; refine (letter_off_f HL.out).mono ?_; rintro e w' ⟨rfl, rfl⟩) | (go_at_call 99; refine (run_r hs ha1).mono ?_; rintro e w' ⟨rfl, rfl⟩))
    go_region_with (first | (go_at_call 101; refine (words_x w).mono ?_; rintro e w2 ⟨rfl, hB2, hH2, hst2⟩) | (go_at_call 100; refine (among_f hst2 (by decide) rfl HIN.out).mono ?_; rintro e w' ⟨rfl, rfl⟩))
    all_goals
      clear hst2
      have t0 := hH2.c0; have t1 := hH2.c1; have t2 := hH2.c2; have f0 := hH2.fr 0; have f1 := hH2.fr 1; have f2 := hH2.fr 2
      go_wp2
      try simp only [Exit.inBlock, Exit.then]
      refine bodyPost_ret (res_token (tok3 hH2 _ _ _) rfl rfl rfl) rfl ?_
      exact TokR.bad HT.out rfl (((hB2.setCell (Nat.le_refl _) _).setCell (Nat.le_refl _) _).setCell (Nat.le_refl _) _)
set_option maxRecDepth 100000 in
set_option maxHeartbeats 4000000 in
theorem token_brace {s : ByteArray} {a : Nat} {w : World} (hs : s.size ≤ 1000000) (ha : a < s.size) (hl : letN (byteAt s a) = false) (_h37 : byteAt s a ≠ 37) (h123 : byteAt s a = 123) :
    Calls Tryz.prog 88 #[.string s, .int .i64 (a : Int)] w (TokR s a w) := by
  have hg := RefA.get_at ha
  have j0 : (0 : Int) ≤ (a : Int) := by omega
  have j1 : (a : Int) < (s.size : Int) := by omega
  have h2 : (a : Int) + 1 < (s.size : Int) ∨ ¬ ((a : Int) + 1 < (s.size : Int)) := Classical.em _
  have hb0 := fun o => (Below.refl w.heap.size w).alloc (Nat.le_refl _) o
  have HL0 := hl
  rw [hg] at hl
  have HL := Lib.hid hl; clear hl
  have e37 : (((s[a].toNat : Nat) : Int) == 37) = false := by rw [← hg]; exact beq_eq_false_iff_ne.2 (by omega)
  have e123 : (((s[a].toNat : Nat) : Int) == 123) = true := by rw [← hg, h123]; rfl
  have htk := tok_brace ha h123
  have HB := Lib.hid h123
  clear hg HL0 _h37 h123
  cases hq : aEnd s (a + 1) 1 with
  | none =>
    have HT := Lib.hid (htk.1 hq); clear htk
    have HQ := Lib.hid hq; clear hq
    rcases h2 with h2 | h2
    all_goals
      go_enter Tryz.func88, Tryz.ntmps88
      go_wp2_with (first | (go_at_call 72; refine (letter_off_f HL.out).mono ?_; rintro e w' ⟨rfl, rfl⟩) | (go_at_call 102; refine (action_no hs ha HB.out HQ.out).mono ?_; rintro e w' ⟨x, rfl, rfl⟩))
      try simp only [Exit.inBlock, Exit.then]
      refine bodyPost_ret (res_token (heap_alloc_new w _) rfl rfl rfl) rfl ?_
      exact TokR.bad HT.out rfl (hb0 _)
  | some n =>
    obtain ⟨hn1, hn2, htk2⟩ := htk.2 n hq
    obtain ⟨q, rfl⟩ : ∃ q, n = q + 1 := ⟨n - 1, by omega⟩
    have HT := Lib.hid htk2; clear htk htk2
    have HQ := Lib.hid hq; clear hq
    have hex := bs_extract s (a + 1) (q + 1 - 1 - (a + 1)) (by omega)
    rw [show a + 1 + (q + 1 - 1 - (a + 1)) = q from by omega] at hex
    have HX := Lib.hid hex; clear hex
    have k1 : (a : Int) + 1 ≤ (q : Int) := by omega
    have k2 : (q : Int) ≤ (s.size : Int) := by omega
    have k3 : (0 : Int) ≤ (a : Int) + 1 := by omega
    have ht1 : ((a : Int) + 1).toNat = a + 1 := by omega
    have h2 : (a : Int) + 1 < (s.size : Int) := by omega
    go_enter Tryz.func88, Tryz.ntmps88
    go_wp2_with (first | (go_at_call 72; refine (letter_off_f HL.out).mono ?_; rintro e w' ⟨rfl, rfl⟩) | (go_at_call 102; refine (action_yes' hs ha HB.out HQ.out).mono ?_; rintro e w' ⟨rfl, rfl⟩))
    try simp only [Exit.inBlock, Exit.then]
    refine bodyPost_ret (res_token (heap_alloc_new w _) rfl rfl rfl) rfl ?_
    exact TokR.good (k := 9) HT.out rfl HX.out (by simp <;> omega) (hb0 _)
end Go.Proofs.YtghebacphjglbaaGreat.RefC
/- The document's lexer: its signs; its tokens joined. -/
namespace Go.Proofs.YtghebacphjglbaaGreat.RefC
open Go.RowKit Go.Proofs.YtghebacphjglbaaGreat.Lexy Go.Proofs.YtghebacphjglbaaGreat.LexA Go.Proofs.YtghebacphjglbaaGreat.LexB Go.Proofs.YtghebacphjglbaaGreat.LexC Go.Proofs.YtghebacphjglbaaGreat.LexD Go.Proofs.YtghebacphjglbaaGreat.LexE Go.Proofs.YtghebacphjglbaaGreat.LexF Go.Proofs.YtghebacphjglbaaGreat.RefA Go.Proofs.YtghebacphjglbaaGreat.RefB

theorem sign_world (w : World) : IsStrs ((w.alloc (.cells #[.int .u8 0, .string { data := #[] }, .int .i64 0] 121)).alloc (.cells #[.string { data := #[58] }, .string { data := #[59] }, .string { data := #[124] }, .string { data := #[40] }, .string { data := #[41] }, .string { data := #[44] }, .string { data := #[60] }, .string { data := #[62] }] 9)) (w.heap.size + 1) signsL ∧ Tk ((w.alloc (.cells #[.int .u8 0, .string { data := #[] }, .int .i64 0] 121)).alloc (.cells #[.string { data := #[58] }, .string { data := #[59] }, .string { data := #[124] }, .string { data := #[40] }, .string { data := #[41] }, .string { data := #[44] }, .string { data := #[60] }, .string { data := #[62] }] 9)) w.heap.size 0 { data := #[] } 0 ∧ Below w.heap.size w ((w.alloc (.cells #[.int .u8 0, .string { data := #[] }, .int .i64 0] 121)).alloc (.cells #[.string { data := #[58] }, .string { data := #[59] }, .string { data := #[124] }, .string { data := #[40] }, .string { data := #[41] }, .string { data := #[44] }, .string { data := #[60] }, .string { data := #[62] }] 9)) := by
  have hz : (w.alloc (.cells #[.int .u8 0, .string { data := #[] }, .int .i64 0] 121)).heap.size = w.heap.size + 1 := by simp
  have h := signs_lie (w.alloc (.cells #[.int .u8 0, .string { data := #[] }, .int .i64 0] 121))
  rw [hz] at h
  exact ⟨h, (Below.heap_alloc _ _ _ (by rw [hz]; omega)).trans (heap_alloc_new w _), ((Below.refl _ _).alloc (Nat.le_refl _) _).alloc (by rw [hz]; omega) _⟩
theorem among_sign_t {s : ByteArray} {w : World} (hin : s.data.toList ∈ signsL) :
    Calls Tryz.prog 100 #[.string s, .slice (some ⟨w.heap.size + 1, 0, none⟩) 8 8] ((w.alloc (.cells #[.int .u8 0, .string { data := #[] }, .int .i64 0] 121)).alloc (.cells #[.string { data := #[58] }, .string { data := #[59] }, .string { data := #[124] }, .string { data := #[40] }, .string { data := #[41] }, .string { data := #[44] }, .string { data := #[60] }, .string { data := #[62] }] 9)) fun e w' => e = .returned (.bool true) ∧ Tk w' w.heap.size 0 { data := #[] } 0 ∧ Below w.heap.size w w' :=
  (among_t (sign_world w).1 (by decide) rfl hin).mono fun e w' ⟨h1, h2⟩ => ⟨h1, h2 ▸ (sign_world w).2⟩
theorem among_sign_f {s : ByteArray} {w : World} (hin : s.data.toList ∉ signsL) :
    Calls Tryz.prog 100 #[.string s, .slice (some ⟨w.heap.size + 1, 0, none⟩) 8 8] ((w.alloc (.cells #[.int .u8 0, .string { data := #[] }, .int .i64 0] 121)).alloc (.cells #[.string { data := #[58] }, .string { data := #[59] }, .string { data := #[124] }, .string { data := #[40] }, .string { data := #[41] }, .string { data := #[44] }, .string { data := #[60] }, .string { data := #[62] }] 9)) fun e w' => e = .returned (.bool false) ∧ Tk w' w.heap.size 0 { data := #[] } 0 ∧ Below w.heap.size w w' :=
  (among_f (sign_world w).1 (by decide) rfl hin).mono fun e w' ⟨h1, h2⟩ => ⟨h1, h2 ▸ (sign_world w).2⟩
set_option maxRecDepth 100000 in
set_option maxHeartbeats 4000000 in
theorem token_sign {s : ByteArray} {a : Nat} {w : World} (hs : s.size ≤ 1000000) (ha : a < s.size) (hl : letN (byteAt s a) = false) (h37 : byteAt s a ≠ 37) (h123 : byteAt s a ≠ 123) :
    Calls Tryz.prog 88 #[.string s, .int .i64 (a : Int)] w (TokR s a w) := by
  have hg := RefA.get_at ha
  have j0 : (0 : Int) ≤ (a : Int) := by omega
  have j1 : (a : Int) < (s.size : Int) := by omega
  have h2 : (a : Int) + 1 < (s.size : Int) ∨ ¬ ((a : Int) + 1 < (s.size : Int)) := Classical.em _
  have hb0 := fun o => (Below.refl w.heap.size w).alloc (Nat.le_refl _) o
  have HL0 := hl
  rw [hg] at hl
  have HL := Lib.hid hl; clear hl
  have e37 : (((s[a].toNat : Nat) : Int) == 37) = false := by rw [← hg]; exact beq_eq_false_iff_ne.2 (by omega)
  have e123 : (((s[a].toNat : Nat) : Int) == 123) = false := by rw [← hg]; exact beq_eq_false_iff_ne.2 (by omega)
  have k2 : (a : Int) + 1 ≤ (s.size : Int) := by omega
  have k3 : (0 : Int) ≤ (a : Int) + 1 := by omega
  have k4 : (a : Int) ≤ (a : Int) + 1 := by omega
  have ht1 : ((a : Int) + 1).toNat = a + 1 := by omega
  by_cases hsg : signN (byteAt s a) = true
  · have HT := Lib.hid (tok_sign ha HL0 h37 h123 hsg)
    have HS := Lib.hid ((sign_in ha).2 hsg)
    have HX := Lib.hid (bs_extract s a 1 ha)
    clear hsg hg HL0 h37 h123
    rcases h2 with h2 | h2
    all_goals
      go_enter Tryz.func88, Tryz.ntmps88
      go_wp2_with (first | (go_at_call 72; refine (letter_off_f HL.out).mono ?_; rintro e w' ⟨rfl, rfl⟩) | (go_at_call 100; go_must ((with_reducible refine (among_sign_t HS.out).mono ?_)); rintro e w2 ⟨rfl, hH2, hB2⟩; have t0 := hH2.c0; have t1 := hH2.c1; have t2 := hH2.c2; have f0 := hH2.fr 0; have f1 := hH2.fr 1; have f2 := hH2.fr 2))
      try simp only [Exit.inBlock, Exit.then]
      refine bodyPost_ret (res_token (tok3 hH2 _ _ _) rfl rfl rfl) rfl ?_
      exact TokR.good (k := 6) HT.out rfl HX.out (by simp <;> omega) (((hB2.setCell (Nat.le_refl _) _).setCell (Nat.le_refl _) _).setCell (Nat.le_refl _) _)
  · have hsg' : signN (byteAt s a) = false := by simpa using hsg
    have HT := Lib.hid (tok_else ha HL0 h37 h123 hsg')
    have HS := Lib.hid (fun h => hsg ((sign_in ha).1 h))
    clear hsg hsg' hg HL0 h37 h123
    rcases h2 with h2 | h2
    all_goals
      go_enter Tryz.func88, Tryz.ntmps88
      go_wp2_with (first | (go_at_call 72; refine (letter_off_f HL.out).mono ?_; rintro e w' ⟨rfl, rfl⟩) | (go_at_call 100; go_must ((with_reducible refine (among_sign_f HS.out).mono ?_)); rintro e w2 ⟨rfl, hH2, hB2⟩; have t0 := hH2.c0; have t1 := hH2.c1; have t2 := hH2.c2; have f0 := hH2.fr 0; have f1 := hH2.fr 1; have f2 := hH2.fr 2))
      try simp only [Exit.inBlock, Exit.then]
      refine bodyPost_ret (res_token (tok3 hH2 _ _ _) rfl rfl rfl) rfl ?_
      exact TokR.bad HT.out rfl (((hB2.setCell (Nat.le_refl _) _).setCell (Nat.le_refl _) _).setCell (Nat.le_refl _) _)
theorem token_r {s : ByteArray} {a : Nat} {w : World} (hs : s.size ≤ 1000000) (ha : a < s.size) :
    Calls Tryz.prog 88 #[.string s, .int .i64 (a : Int)] w (TokR s a w) := by
  cases hl : letN (byteAt s a) with
  | true => exact token_letter hs ha hl
  | false =>
    by_cases h37 : byteAt s a = 37
    · by_cases hp : byteAt s (a + 1) = 37
      · exact token_pct2 hs ha hl h37 hp
      · by_cases hin : (rest s (a + 1)).take (runL (rest s (a + 1))) ∈ wordsL
        · exact token_word hs ha hl h37 hp hin
        · exact token_noword hs ha hl h37 hp hin
    · by_cases h123 : byteAt s a = 123
      · exact token_brace hs ha hl h37 h123
      · exact token_sign hs ha hl h37 h123
end Go.Proofs.YtghebacphjglbaaGreat.RefC
/- The document's lexer, walked whole: it tells of any source what the lexer tells. -/
namespace Go.Proofs.YtghebacphjglbaaGreat.RefD
open Go.RowKit Go.Proofs.YtghebacphjglbaaGreat Go.Proofs.YtghebacphjglbaaGreat.Lexy Go.Proofs.YtghebacphjglbaaGreat.LexA Go.Proofs.YtghebacphjglbaaGreat.LexB Go.Proofs.YtghebacphjglbaaGreat.LexC Go.Proofs.YtghebacphjglbaaGreat.LexD Go.Proofs.YtghebacphjglbaaGreat.LexE Go.Proofs.YtghebacphjglbaaGreat.LexF Go.Proofs.YtghebacphjglbaaGreat.RefA Go.Proofs.YtghebacphjglbaaGreat.RefB Go.Proofs.YtghebacphjglbaaGreat.RefC

/-- the two results -/
theorem res_r {w : World} {q : Nat} {v f0 f1 : Value} {tmps : Array Value} (hq : w.heap[q]? = some (.cells #[f0, f1] 117 (0, 0)))
    (h2 : tmps[2]?.getD undef = v) (h3 : tmps[3]?.getD undef = .pointer (some ⟨q, 0, none⟩)) : (results Tryz.f74 tmps).run Tryz.prog w = .ok (.tuple #[v, .agg #[f0, f1]]) w := by
  obtain ⟨b1, b2, _, _⟩ := cells2 hq
  simp [results, Tryz.results74, go_sem, h2, h3, b1, b2]
theorem tokens_long_r {s : ByteArray} {w : World} (hs : s.size ≤ 140737488351232) (hl : 65536 < s.size) :
    Calls Tryz.prog 74 #[.string s] w (TokensPost s w) := by
  have ht : toks s.data.toList = .bad 3 0 := by unfold toks; rw [if_pos (by simpa using hl)]
  have HT := Lib.hid ht; clear ht
  have hb := (Below.refl w.heap.size w).alloc (Nat.le_refl _) (.cells #[.int .i64 0, .int .i64 0] 117)
  go_enter Tryz.func74, Tryz.ntmps74
  go_wp2
  try simp only [Exit.inBlock, Exit.then]
  refine bodyPost_ret (res_r (heap_alloc_new w _) rfl rfl) rfl ?_
  unfold TokensPost
  rw [HT.out]
  exact ⟨(Below.refl _ _).alloc (Nat.le_refl _) _, rfl⟩
theorem token_r_ok {s : ByteArray} {a k n : Nat} {t : List UInt8} {w : World} (hs : s.size ≤ 1000000) (ha : a < s.size) (h : tokL (rest s a) = .good k t n) :
    Calls Tryz.prog 88 #[.string s, .int .i64 (a : Int)] w fun e w' => e = .returned (.tuple #[.agg #[.int .u8 (k : Int), .string (bs t), .int .i64 (a : Int)], .int .i64 ((a + n : Nat) : Int), .int .i64 0]) ∧ Below w.heap.size w w' :=
  (token_r hs ha).mono fun e w' hp => by unfold TokR at hp; rw [h] at hp; exact ⟨hp.2, hp.1⟩
theorem token_r_no {s : ByteArray} {a x : Nat} {w : World} (hs : s.size ≤ 1000000) (ha : a < s.size) (h : tokL (rest s a) = .bad x) :
    Calls Tryz.prog 88 #[.string s, .int .i64 (a : Int)] w fun e w' => ∃ (z0 : Int) (z1 : ByteArray) (z2 y : Int), e = .returned (.tuple #[.agg #[.int .u8 z0, .string z1, .int .i64 z2], .int .i64 y, .int .i64 (x : Int)]) ∧ Below w.heap.size w w' :=
  (token_r hs ha).mono fun e w' hp => by
    unfold TokR at hp; rw [h] at hp
    obtain ⟨hb, z0, z1, z2, y, he⟩ := hp
    exact ⟨z0, z1, z2, y, he, hb⟩
theorem tokL_bad_pos {l : List UInt8} {x : Nat} (h : tokL l = .bad x) : 0 < x := by
  cases l with
  | nil => simp [tokL] at h; omega
  | cons c r =>
    simp only [tokL] at h
    repeat' (split at h)
    all_goals first | (cases h; done) | (cases h; omega)

set_option maxRecDepth 100000 in
set_option maxHeartbeats 4000000 in
theorem tokens_short_r {s : ByteArray} {w : World} (hs : s.size ≤ 65536) :
    Calls Tryz.prog 74 #[.string s] w (TokensPost s w) := by
  obtain ⟨ti0, hi0, hz0, hz1, hz2⟩ := info_parts tokInfo
  go_enter Tryz.func74, Tryz.ntmps74
  go_wp2
  have hW1 : (w.alloc (.cells #[.int .i64 0, .int .i64 0] 117)).heap[w.heap.size]? = some (.cells #[.int .i64 0, .int .i64 0] 117 (0, 0)) := heap_alloc_new w _
  have hW2 := (Below.refl w.heap.size w).alloc (Nat.le_refl _) (.cells #[.int .i64 0, .int .i64 0] 117)
  have hW3 : w.heap.size < (w.alloc (.cells #[.int .i64 0, .int .i64 0] 117)).heap.size := by simp
  generalize w.alloc (.cells #[.int .i64 0, .int .i64 0] 117) = W at *
  obtain ⟨H, hH⟩ : ∃ H, H = w.heap.size := ⟨_, rfl⟩
  rw [← hH] at hW1 hW2 hW3 ⊢
  have HH := Lib.hid hH; clear hH
  go_loopg [4, 5] s.size (fun gk t4 t5 wr => ∃ (k : Nat) (l : Value) (d : List Tok), k ≤ s.size ∧ gk = s.size - k ∧ l = t4 ∧ t5 = .int .i64 (k : Int) ∧ lexA (rest s 0) 0 0 = app d (lexA (rest s k) 0 k) ∧ d.length ≤ k ∧ wr.ownsRow (H + 1) 121 3 l d.length (cellsT d) ∧
    wr.heap[H]? = some (.cells #[.int .i64 0, .int .i64 0] 117 (0, 0)) ∧ H < wr.heap.size ∧ Below H w wr)
  case atStart => exact ⟨0, .slice none 0 0, [], by omega, by omega, rfl, rfl, by simp [app]; cases lexA (rest s 0) 0 0 <;> rfl, by simp, World.ownsRow_nil _ _ _ _, hW1, hW3, hW2⟩
  case round =>
    clear hW1 hW2 hW3
    obtain ⟨k, l, d, hk2, rfl, rfl, rfl, hsp, hdk, hown, hr2, hgs, hbel⟩ := hrel
    have HS := Lib.hid hsp; clear hsp
    have R2 := Lib.hid hr2
    obtain ⟨z3, z4, z5, z6⟩ := cells2 hr2
    clear hr2
    by_cases hlt : k < s.size
    case neg =>
      obtain rfl : k = s.size := by omega
      have hfin : toks s.data.toList = .good (d ++ [⟨7, [], s.size⟩]) := by
        unfold toks
        rw [if_neg (by simp; omega), ← rest_zero, HS.out, (rest_nil (Nat.le_refl _)).1]; rfl
      have HF := Lib.hid hfin; clear hfin
      have nH : ¬ some H = l.ownBlock := fun e => by have := (hown.lt _ e.symm).1; omega
      go_wp2_with (at_builtin; go_must (refine wpList_append_lies _ rfl _ _ _ rfl (H + 1) 121 ti0 _ 3 32 Tryz.underlying115 hi0 hz0 hz1 hz2 rfl (by omega) l d.length (cellsT d) rfl (hown.alloc _) ⟨wr.heap.size, 0, none⟩ 1 1 [.int .u8 7, .string { data := #[] }, .int .i64 (s.size : Int)] rfl rfl (by exact World.news_of_block (cs := #[.int .u8 7, .string { data := #[] }, .int .i64 (s.size : Int)]) (t := 121) (fr := (0, 0)) (heap_alloc_new wr _)) (by simp [Value.oneCell']) (by omega) (by unfold maxLen; omega) (by omega) (by simp; omega) (wr.heap.size + 1) (by simp) ?_; intro gg cap w1 hown1 hgrow hat hlt2; have a3 : w1.cell? ⟨H, 0, none⟩ = some (.int .i64 0) := (by rw [hgrow.cell_far _ (by simp; omega) nH]; exact (World.cell?_alloc_past _ _ _ hgs).trans z3); have a4 : w1.cell? ⟨H, 1, none⟩ = some (.int .i64 0) := (by rw [hgrow.cell_far _ (by simp; omega) nH]; exact (World.cell?_alloc_past _ _ _ hgs).trans z4); have a5 : w1.frozen? ⟨H, 0, none⟩ = false := (by rw [hgrow.frozen_far _ (by simp; omega) nH]; exact (World.frozen?_of_block (Below.heap_alloc _ _ _ hgs)).trans z5); have a6 : w1.frozen? ⟨H, 1, none⟩ = false := (by rw [hgrow.frozen_far _ (by simp; omega) nH]; exact (World.frozen?_of_block (Below.heap_alloc _ _ _ hgs)).trans z6)))
      try simp only [Exit.inBlock, Exit.then]
      have R1 := ((hgrow.block H (by simp; omega) nH).trans (Below.heap_alloc _ _ _ hgs)).trans R2.out
      have f3 := heap_setCell_same w1 H 0 _ _ (.int .i64 0) R1
      have f4 := heap_setCell_same _ H 1 _ _ (.int .i64 0) f3
      have hbf : Below H w w1 := ((hbel.alloc (by omega) _)).grown hgrow (by simp; omega) (fun j hj => by have := (hown.lt _ hj).1; omega)
      have hgH : (Value.slice (some ⟨gg, 0, none⟩) (d.length + 1) cap).ownBlock ≠ some H := by have := (hown1.lt gg rfl).1; simp [Value.ownBlock]; omega
      have hof := own_base (own_set (own_set hown1 hgH 0 (.int .i64 0)) hgH 1 (.int .i64 0)) (show H ≤ H + 1 by omega)
      refine bodyPost_ret (res_r f4 rfl rfl) rfl ?_
      unfold TokensPost
      rw [HF.out]
      refine ⟨by rw [← HH.out]; exact (hbf.setCell (by simp) _).setCell (by simp) _, _, rfl, ?_⟩
      rw [cellsT_snoc, List.length_append, ← HH.out]
      exact hof
    have hget := RefA.get_at hlt
    have j0 : (0 : Int) ≤ (k : Int) := by omega
    have j1 : (k : Int) < (s.size : Int) := by omega
    have hne : rest s k ≠ [] := by obtain ⟨c, h1, _⟩ := rest_cons hlt; rw [h1]; simp
    by_cases hws : wsN (byteAt s k) = true
    · have hor : byteAt s k = 9 ∨ byteAt s k = 10 ∨ byteAt s k = 13 ∨ byteAt s k = 32 := by simp [wsN] at hws; omega
      have HWS := Lib.hid hws; clear hws
      have key : ∀ v, byteAt s k = v → ∀ u : Int, (((s[k].toNat : Nat) : Int) == u) = ((v : Int) == u) := fun v hv u => by rw [← hget, hv]
      rcases hor with hv | hv | hv | hv
      all_goals
        have e9 := key _ hv 9
        have e10 := key _ hv 10
        have e13 := key _ hv 13
        have e32 := key _ hv 32
        simp only [show ((9 : Nat) : Int) = 9 from rfl, show ((10 : Nat) : Int) = 10 from rfl, show ((13 : Nat) : Int) = 13 from rfl, show ((32 : Nat) : Int) = 32 from rfl, Int.reduceBEq] at e9 e10 e13 e32
        clear key hv hget
        go_wp2
        go_roundg (s.size - (k + 1))
        case measure => omega
        case rel => exact ⟨k + 1, l, d, by omega, rfl, rfl, by go_num, by rw [HS.out, lexA_ws _ _ hne (by rw [head_rest0]; exact HWS.out), rest_drop], by omega, hown, R2.out, hgs, hbel⟩
    · have e9 : (((s[k].toNat : Nat) : Int) == 9) = false := by rw [← hget]; exact beq_eq_false_iff_ne.2 (by simp [wsN] at hws; omega)
      have e10 : (((s[k].toNat : Nat) : Int) == 10) = false := by rw [← hget]; exact beq_eq_false_iff_ne.2 (by simp [wsN] at hws; omega)
      have e13 : (((s[k].toNat : Nat) : Int) == 13) = false := by rw [← hget]; exact beq_eq_false_iff_ne.2 (by simp [wsN] at hws; omega)
      have e32 : (((s[k].toNat : Nat) : Int) == 32) = false := by rw [← hget]; exact beq_eq_false_iff_ne.2 (by simp [wsN] at hws; omega)
      have HWS := Lib.hid (show wsN (byteAt s k) = false by simpa using hws); clear hws hget
      cases hcm : comL (rest s k) with
      | true =>
        have hov := over_pos hcm
        have hlx := lexA_com (rest s k) k (by rw [head_rest0]; exact HWS.out) hcm
        rw [rest_drop] at hlx
        have HL := Lib.hid hlx; clear hlx
        have HC := Lib.hid hcm; clear hcm
        go_wp2_with (first | (go_at_call 86; refine (comment_t (by omega) hlt HC.out).mono ?_; rintro e w' ⟨rfl, rfl⟩) | (go_at_call 87; refine (over_r (by omega) (Nat.le_of_lt hlt)).mono ?_; rintro e w' ⟨rfl, rfl⟩))
        go_roundg (s.size - (k + overL (rest s k)))
        case measure => omega
        case rel => exact ⟨k + overL (rest s k), l, d, by omega, rfl, rfl, by go_num, by rw [HS.out, HL.out], by omega, hown, R2.out, hgs, hbel⟩
      | false =>
        have hlx := lexA_tok (rest s k) k hne (by rw [head_rest0]; exact HWS.out) hcm
        have HL := Lib.hid hlx; clear hlx
        have HC := Lib.hid hcm; clear hcm
        cases htk : tokL (rest s k) with
        | good kk t n =>
          have hn := tokL_le _ _ _ _ htk
          rw [rest_len] at hn
          have HT := Lib.hid htk; clear htk
          go_wp2_with (first | (go_at_call 86; refine (comment_f (by omega) hlt HC.out).mono ?_; rintro e w' ⟨rfl, rfl⟩) | (go_at_call 88; go_must ((with_reducible refine (token_r_ok (by omega) hlt HT.out).mono ?_)); rintro e w2 ⟨rfl, hb2⟩; have ho2 := (Heap.own_new hown hb2).alloc (.cells #[.int .u8 (kk : Int), .string (bs t), .int .i64 (k : Int)] 121); have hg2 := hb2.size) | (at_builtin; go_must (refine wpList_append_lies _ rfl _ _ _ rfl (H + 1) 121 ti0 _ 3 32 Tryz.underlying115 hi0 hz0 hz1 hz2 rfl (by omega) l d.length (cellsT d) rfl (ho2.alloc _) ⟨w2.heap.size + 1, 0, none⟩ 1 1 [.int .u8 (kk : Int), .string (bs t), .int .i64 (k : Int)] rfl rfl (by exact World.news_of_block (cs := #[.int .u8 (kk : Int), .string (bs t), .int .i64 (k : Int)]) (t := 121) (fr := (0, 0)) (by have := heap_alloc_new (w2.alloc (.cells #[.int .u8 (kk : Int), .string (bs t), .int .i64 (k : Int)] 121)) (.cells #[.int .u8 (kk : Int), .string (bs t), .int .i64 (k : Int)] 121); simpa using this)) (by simp [Value.oneCell']) (by omega) (by unfold maxLen; omega) (by omega) (by simp; omega) (w2.heap.size + 1 + 1) (by simp) ?_; intro gg cap w1 hown1 hgrow hat hlt2)))
          go_roundg (s.size - (k + n))
          case measure => omega
          case rel =>
            have hb3 : Below H w ((w2.alloc (.cells #[.int .u8 (kk : Int), .string (bs t), .int .i64 (k : Int)] 121)).alloc (.cells #[.int .u8 (kk : Int), .string (bs t), .int .i64 (k : Int)] 121)) := ((hbel.trans (hb2.mono (by omega))).alloc (by omega) _).alloc (by simp; omega) _
            have hr3 : ((w2.alloc (.cells #[.int .u8 (kk : Int), .string (bs t), .int .i64 (k : Int)] 121)).alloc (.cells #[.int .u8 (kk : Int), .string (bs t), .int .i64 (k : Int)] 121)).heap[H]? = some (.cells #[.int .i64 0, .int .i64 0] 117 (0, 0)) :=
              ((Below.heap_alloc _ _ _ (by simp; omega)).trans (Below.heap_alloc _ _ _ (by omega))).trans ((hb2.block H hgs).trans R2.out)
            have nH : ¬ some H = l.ownBlock := fun e => by have := (hown.lt _ e.symm).1; omega
            have hs3 := hgrow.size
            refine ⟨k + n, _, d ++ [⟨kk, t, k⟩], by omega, rfl, rfl, rfl, ?_, by simp; omega, ?_, (hgrow.block H (by simp; omega) nH).trans hr3, by simp at hs3; omega, hb3.grown hgrow (by simp; omega) (fun j hj => by have := (hown.lt _ hj).1; omega)⟩
            · rw [HS.out, HL.out, HT.out]; simp only; rw [app_cons, rest_drop]
            · rw [cellsT_snoc, List.length_append]; exact hown1
        | bad x =>
          have hx0 := tokL_bad_pos htk
          have hne0 : ((x : Int) != 0) = true := bne_iff_ne.2 (by omega)
          have hne1 : ((x : Int) == 0) = false := beq_eq_false_iff_ne.2 (by omega)
          have HT := Lib.hid htk; clear htk
          have hfin : toks s.data.toList = .bad x k := by
            unfold toks
            rw [if_neg (by simp; omega), ← rest_zero, HS.out, HL.out, HT.out]; rfl
          have HF := Lib.hid hfin; clear hfin
          go_wp2_with (first | (go_at_call 86; refine (comment_f (by omega) hlt HC.out).mono ?_; rintro e w' ⟨rfl, rfl⟩) | (go_at_call 88; go_must ((with_reducible refine (token_r_no (by omega) hlt HT.out).mono ?_)); rintro e w2 ⟨y0, y1, y2, y3, rfl, hb2⟩; have R3 := (hb2.block H hgs).trans R2.out; have R4 := (Below.heap_alloc w2 (.cells #[.int .u8 y0, .string y1, .int .i64 y2] 121) H (by have := hb2.size; omega)).trans R3; obtain ⟨z3, z4, z5, z6⟩ := cells2 R4; have hg2 := hb2.size; have R5 := Lib.hid R4; clear R4 R3; have hb3 := (hbel.trans (hb2.mono (by omega))).alloc (by omega) (.cells #[.int .u8 y0, .string y1, .int .i64 y2] 121); have hnb : w2.heap.size ≠ H := (by omega)))
          try simp only [Exit.inBlock, Exit.then]
          have f3 := heap_setCell_same _ H 0 _ _ (.int .i64 (x : Int)) R5.out
          have f4 := heap_setCell_same _ H 1 _ _ (.int .i64 (k : Int)) f3
          refine bodyPost_ret (res_r f4 rfl rfl) rfl ?_
          unfold TokensPost
          rw [HF.out]
          exact ⟨by rw [← HH.out]; exact (hb3.setCell (Nat.le_refl _) _).setCell (Nat.le_refl _) _, rfl⟩
/-- THE DOCUMENT's LEXER: it tells what the lexer tells -/
theorem tokens_r {s : ByteArray} {w : World} (hs : s.size ≤ 140737488351232) : Calls Tryz.prog 74 #[.string s] w (TokensPost s w) := by
  by_cases h : s.size ≤ 65536
  · exact tokens_short_r h
  · exact tokens_long_r hs (by omega)
end Go.Proofs.YtghebacphjglbaaGreat.RefD
