/- The document's token, walked arm by arm. (Printed by rf_u.py.) -/
import Derived.Test.YtopbhopblpfjpaaGreatDoorRfT
namespace Go.Proofs.YtopbhopblpfjpaaGreatDoor.RfU
open Go.RowKit Go.Proofs.YtopbhopblpfjpaaGreatDoor.Lexy Go.Proofs.YtopbhopblpfjpaaGreatDoor.Heap Go.Proofs.YtopbhopblpfjpaaGreatDoor.Base Go.Proofs.YtopbhopblpfjpaaGreatDoor.Scany Go.Proofs.YtopbhopblpfjpaaGreatDoor.ScanC Go.Proofs.YtopbhopblpfjpaaGreatDoor.ScanD Go.Proofs.YtopbhopblpfjpaaGreatDoor.ScanE Go.Proofs.YtopbhopblpfjpaaGreatDoor.ScanF Go.Proofs.YtopbhopblpfjpaaGreatDoor.ScanG Go.Proofs.YtopbhopblpfjpaaGreatDoor.RfA Go.Proofs.YtopbhopblpfjpaaGreatDoor.RfB Go.Proofs.YtopbhopblpfjpaaGreatDoor.RfC Go.Proofs.YtopbhopblpfjpaaGreatDoor.RfN Go.Proofs.YtopbhopblpfjpaaGreatDoor.RfT

theorem len_w : wordsS.length = 16 := rfl
theorem len_f : foreignS.length = 11 := rfl
theorem len_s : signsS.length = 26 := rfl
theorem len_o : oddS.length = 12 := rfl
theorem le_w : wordsS.length ≤ 1000 := by decide
theorem le_f : foreignS.length ≤ 1000 := by decide
theorem le_s : signsS.length ≤ 1000 := by decide
theorem le_o : oddS.length ≤ 1000 := by decide
theorem el_s : ∀ p ∈ signsS, p.length ≤ 1000 := by decide
theorem el_o : ∀ p ∈ oddS, p.length ≤ 1000 := by decide
/-- the two blocks, behind a call -/
theorem behind {w w2 : World} {O1 O2 : Obj} {B : Nat} (hb : Below B ((w.alloc O1).alloc O2) w2) (hB : B = w.heap.size + 1 + 1) :
    w2.heap[w.heap.size]? = some O1 ∧ w2.heap[w.heap.size + 1]? = some O2 ∧ Below w.heap.size w w2 := by
  subst hB
  refine ⟨(hb.block _ (by omega)).trans (two_heap w _ _), (hb.block _ (by omega)).trans ?_, (two_below w _ _).trans (hb.mono (by omega))⟩
  have := heap_alloc_new (w.alloc O1) O2
  simpa using this
theorem hsz (w : World) (O1 O2 : Obj) : ((w.alloc O1).alloc O2).heap.size = w.heap.size + 1 + 1 := by simp

set_option maxRecDepth 100000 in
set_option maxHeartbeats 4000000 in
theorem token_digit_good {s : ByteArray} {a : Nat} {w : World} (hs : s.size ≤ 1000000) (ha : a < s.size) (hl : letN (byteAt s a) = false) (hd : digN (byteAt s a) = true) (hb : numBad (rest s a) = false) :
    Calls Tryz.prog 22 #[.string s, .int .i64 (a : Int)] w (TokR s a w) := by
  have hg := RfA.get_at ha
  have j0 : (0 : Int) ≤ (a : Int) := by omega
  have j1 : (a : Int) < (s.size : Int) := by omega
  have HT := Lib.hid (tok_num_good ha hd hb rfl rfl rfl)
  have HB := Lib.hid hb
  rw [hg] at hl hd
  have HL := Lib.hid hl; have HD := Lib.hid hd; clear hl hd hb hg
  go_enter Tryz.func22, Tryz.ntmps22
  go_wp2_with (first | (go_at_call 35; (with_reducible refine (letter_is HL.out).mono ?_); rintro e w' ⟨rfl, rfl⟩) | (go_at_call 39; (with_reducible refine (digit_is HD.out).mono ?_); rintro e w' ⟨rfl, rfl⟩) | (go_at_call 40; (with_reducible refine (number_good hs ha HB.out).mono ?_); rintro e w2 ⟨⟨k, t, y, rfl, hk, ht, hy⟩, hb2⟩; have HK := Lib.hid hk; have HTT := Lib.hid ht; have HY := Lib.hid hy; clear hk ht hy; obtain ⟨R4, R7, hbw⟩ := behind hb2 (by simp); obtain ⟨z0, z1, z2, z3, z4, z5⟩ := cells3 R4; obtain ⟨y0, y1, y2, y3, y4, y5⟩ := cells3 R7; have R4 := Lib.hid R4; clear R7))
  try simp only [Exit.inBlock, Exit.then]
  refine bodyPost_ret (res_tok (tok6 R4.out (by omega) _ _ _ _ _ _) rfl rfl rfl) rfl ?_
  exact TokR.good HT.out (by rw [HK.out]) HTT.out HY.out (below6 hbw (by omega) (by omega) _ _ _ _ _ _)
set_option maxRecDepth 100000 in
set_option maxHeartbeats 4000000 in
theorem token_digit_bad {s : ByteArray} {a : Nat} {w : World} (hs : s.size ≤ 1000000) (ha : a < s.size) (hl : letN (byteAt s a) = false) (hd : digN (byteAt s a) = true) (hb : numBad (rest s a) = true) :
    Calls Tryz.prog 22 #[.string s, .int .i64 (a : Int)] w (TokR s a w) := by
  have hg := RfA.get_at ha
  have j0 : (0 : Int) ≤ (a : Int) := by omega
  have j1 : (a : Int) < (s.size : Int) := by omega
  have HT := Lib.hid (tok_num_bad ha hd hb)
  have HB := Lib.hid hb
  rw [hg] at hl hd
  have HL := Lib.hid hl; have HD := Lib.hid hd; clear hl hd hb hg
  go_enter Tryz.func22, Tryz.ntmps22
  go_wp2_with (first | (go_at_call 35; (with_reducible refine (letter_is HL.out).mono ?_); rintro e w' ⟨rfl, rfl⟩) | (go_at_call 39; (with_reducible refine (digit_is HD.out).mono ?_); rintro e w' ⟨rfl, rfl⟩) | (go_at_call 40; (with_reducible refine (number_bad hs ha HB.out).mono ?_); rintro e w2 ⟨⟨k, t, y, rfl⟩, hb2⟩; obtain ⟨R4, R7, hbw⟩ := behind hb2 (by simp); obtain ⟨z0, z1, z2, z3, z4, z5⟩ := cells3 R4; obtain ⟨y0, y1, y2, y3, y4, y5⟩ := cells3 R7; have R4 := Lib.hid R4; clear R7))
  try simp only [Exit.inBlock, Exit.then]
  refine bodyPost_ret (res_tok (tok6 R4.out (by omega) _ _ _ _ _ _) rfl rfl rfl) rfl ?_
  exact TokR.bad HT.out rfl (below6 hbw (by omega) (by omega) _ _ _ _ _ _)
set_option maxRecDepth 100000 in
set_option maxHeartbeats 4000000 in
theorem token_text_good {s : ByteArray} {a : Nat} {w : World} (hs : s.size ≤ 1000000) (ha : a < s.size) {t : List UInt8} {n : Nat} (hl : letN (byteAt s a) = false) (hd : digN (byteAt s a) = false) (hc : byteAt s a = 34) (hb : strL (rest s (a + 1)) 0 = some (t, n)) :
    Calls Tryz.prog 22 #[.string s, .int .i64 (a : Int)] w (TokR s a w) := by
  have hg := RfA.get_at ha
  have j0 : (0 : Int) ≤ (a : Int) := by omega
  have j1 : (a : Int) < (s.size : Int) := by omega
  have HT := Lib.hid (show tokS (rest s a) = .good 5 t (n + 1) by rw [tok_str ha hc, hb])
  have HB := Lib.hid hb
  have e34 : (((s[a].toNat : Nat) : Int) == 34) = true := by rw [← hg, hc]; rfl
  rw [hg] at hl hd
  have HL := Lib.hid hl; have HD := Lib.hid hd; clear hl hd hb hg hc
  go_enter Tryz.func22, Tryz.ntmps22
  go_wp2_with (first | (go_at_call 35; (with_reducible refine (letter_is HL.out).mono ?_); rintro e w' ⟨rfl, rfl⟩) | (go_at_call 39; (with_reducible refine (digit_is HD.out).mono ?_); rintro e w' ⟨rfl, rfl⟩) | (go_at_call 41; (with_reducible refine (text_good hs ha HB.out).mono ?_); rintro e w2 ⟨rfl, hb2⟩; obtain ⟨R4, R7, hbw⟩ := behind hb2 (by simp); obtain ⟨z0, z1, z2, z3, z4, z5⟩ := cells3 R4; obtain ⟨y0, y1, y2, y3, y4, y5⟩ := cells3 R7; have R4 := Lib.hid R4; clear R7))
  try simp only [Exit.inBlock, Exit.then]
  refine bodyPost_ret (res_tok (tok6 R4.out (by omega) _ _ _ _ _ _) rfl rfl rfl) rfl ?_
  exact TokR.good HT.out rfl rfl (by push_cast; omega) (below6 hbw (by omega) (by omega) _ _ _ _ _ _)
set_option maxRecDepth 100000 in
set_option maxHeartbeats 4000000 in
theorem token_text_bad {s : ByteArray} {a : Nat} {w : World} (hs : s.size ≤ 1000000) (ha : a < s.size) (hl : letN (byteAt s a) = false) (hd : digN (byteAt s a) = false) (hc : byteAt s a = 34) (hb : strL (rest s (a + 1)) 0 = none) :
    Calls Tryz.prog 22 #[.string s, .int .i64 (a : Int)] w (TokR s a w) := by
  have hg := RfA.get_at ha
  have j0 : (0 : Int) ≤ (a : Int) := by omega
  have j1 : (a : Int) < (s.size : Int) := by omega
  have HT := Lib.hid (show tokS (rest s a) = .bad 101 by rw [tok_str ha hc, hb])
  have HB := Lib.hid hb
  have e34 : (((s[a].toNat : Nat) : Int) == 34) = true := by rw [← hg, hc]; rfl
  rw [hg] at hl hd
  have HL := Lib.hid hl; have HD := Lib.hid hd; clear hl hd hb hg hc
  go_enter Tryz.func22, Tryz.ntmps22
  go_wp2_with (first | (go_at_call 35; (with_reducible refine (letter_is HL.out).mono ?_); rintro e w' ⟨rfl, rfl⟩) | (go_at_call 39; (with_reducible refine (digit_is HD.out).mono ?_); rintro e w' ⟨rfl, rfl⟩) | (go_at_call 41; (with_reducible refine (text_bad hs ha HB.out).mono ?_); rintro e w2 ⟨rfl, hb2⟩; obtain ⟨R4, R7, hbw⟩ := behind hb2 (by simp); obtain ⟨z0, z1, z2, z3, z4, z5⟩ := cells3 R4; obtain ⟨y0, y1, y2, y3, y4, y5⟩ := cells3 R7; have R4 := Lib.hid R4; clear R7))
  try simp only [Exit.inBlock, Exit.then]
  refine bodyPost_ret (res_tok (tok6 R4.out (by omega) _ _ _ _ _ _) rfl rfl rfl) rfl ?_
  exact TokR.bad HT.out rfl (below6 hbw (by omega) (by omega) _ _ _ _ _ _)
set_option maxRecDepth 100000 in
set_option maxHeartbeats 4000000 in
theorem token_dollar_good {s : ByteArray} {a : Nat} {w : World} (hs : s.size ≤ 1000000) (ha : a < s.size) {t : List UInt8} {n : Nat} (hl : letN (byteAt s a) = false) (hd : digN (byteAt s a) = false) (hc : byteAt s a = 36) (hb : dolL (rest s (a + 1)) = some (t, n)) :
    Calls Tryz.prog 22 #[.string s, .int .i64 (a : Int)] w (TokR s a w) := by
  have hg := RfA.get_at ha
  have j0 : (0 : Int) ≤ (a : Int) := by omega
  have j1 : (a : Int) < (s.size : Int) := by omega
  have HT := Lib.hid (show tokS (rest s a) = .good 8 t (n) by rw [tok_dol ha hc, hb])
  have HB := Lib.hid hb
  have e34 : (((s[a].toNat : Nat) : Int) == 34) = false := by rw [← hg, hc]; rfl
  have e36 : (((s[a].toNat : Nat) : Int) == 36) = true := by rw [← hg, hc]; rfl
  rw [hg] at hl hd
  have HL := Lib.hid hl; have HD := Lib.hid hd; clear hl hd hb hg hc
  go_enter Tryz.func22, Tryz.ntmps22
  go_wp2_with (first | (go_at_call 35; (with_reducible refine (letter_is HL.out).mono ?_); rintro e w' ⟨rfl, rfl⟩) | (go_at_call 39; (with_reducible refine (digit_is HD.out).mono ?_); rintro e w' ⟨rfl, rfl⟩) | (go_at_call 42; (with_reducible refine (dollar_good hs ha HB.out).mono ?_); rintro e w2 ⟨rfl, hb2⟩; obtain ⟨R4, R7, hbw⟩ := behind hb2 (by simp); obtain ⟨z0, z1, z2, z3, z4, z5⟩ := cells3 R4; obtain ⟨y0, y1, y2, y3, y4, y5⟩ := cells3 R7; have R4 := Lib.hid R4; clear R7))
  try simp only [Exit.inBlock, Exit.then]
  refine bodyPost_ret (res_tok (tok6 R4.out (by omega) _ _ _ _ _ _) rfl rfl rfl) rfl ?_
  exact TokR.good HT.out rfl rfl (by push_cast; omega) (below6 hbw (by omega) (by omega) _ _ _ _ _ _)
set_option maxRecDepth 100000 in
set_option maxHeartbeats 4000000 in
theorem token_dollar_bad {s : ByteArray} {a : Nat} {w : World} (hs : s.size ≤ 1000000) (ha : a < s.size) (hl : letN (byteAt s a) = false) (hd : digN (byteAt s a) = false) (hc : byteAt s a = 36) (hb : dolL (rest s (a + 1)) = none) :
    Calls Tryz.prog 22 #[.string s, .int .i64 (a : Int)] w (TokR s a w) := by
  have hg := RfA.get_at ha
  have j0 : (0 : Int) ≤ (a : Int) := by omega
  have j1 : (a : Int) < (s.size : Int) := by omega
  have HT := Lib.hid (show tokS (rest s a) = .bad 101 by rw [tok_dol ha hc, hb])
  have HB := Lib.hid hb
  have e34 : (((s[a].toNat : Nat) : Int) == 34) = false := by rw [← hg, hc]; rfl
  have e36 : (((s[a].toNat : Nat) : Int) == 36) = true := by rw [← hg, hc]; rfl
  rw [hg] at hl hd
  have HL := Lib.hid hl; have HD := Lib.hid hd; clear hl hd hb hg hc
  go_enter Tryz.func22, Tryz.ntmps22
  go_wp2_with (first | (go_at_call 35; (with_reducible refine (letter_is HL.out).mono ?_); rintro e w' ⟨rfl, rfl⟩) | (go_at_call 39; (with_reducible refine (digit_is HD.out).mono ?_); rintro e w' ⟨rfl, rfl⟩) | (go_at_call 42; (with_reducible refine (dollar_bad hs ha HB.out).mono ?_); rintro e w2 ⟨rfl, hb2⟩; obtain ⟨R4, R7, hbw⟩ := behind hb2 (by simp); obtain ⟨z0, z1, z2, z3, z4, z5⟩ := cells3 R4; obtain ⟨y0, y1, y2, y3, y4, y5⟩ := cells3 R7; have R4 := Lib.hid R4; clear R7))
  try simp only [Exit.inBlock, Exit.then]
  refine bodyPost_ret (res_tok (tok6 R4.out (by omega) _ _ _ _ _ _) rfl rfl rfl) rfl ?_
  exact TokR.bad HT.out rfl (below6 hbw (by omega) (by omega) _ _ _ _ _ _)
set_option maxRecDepth 100000 in
set_option maxHeartbeats 4000000 in
theorem token_sign_odd {s : ByteArray} {a : Nat} {w : World} (hs : s.size ≤ 1000000) (ha : a < s.size) (hl : letN (byteAt s a) = false) (hd : digN (byteAt s a) = false) (h34 : byteAt s a ≠ 34) (h36 : byteAt s a ≠ 36) (ho : firstL oddS (rest s a) ≠ []) :
    Calls Tryz.prog 22 #[.string s, .int .i64 (a : Int)] w (TokR s a w) := by
  have hg := RfA.get_at ha
  have j0 : (0 : Int) ≤ (a : Int) := by omega
  have j1 : (a : Int) < (s.size : Int) := by omega
  have la := Nat.le_of_lt ha
  have HT := Lib.hid (show tokS (rest s a) = .bad 101 by rw [tok_sign ha hl hd h34 h36, if_pos ho])
  obtain ⟨X, hX⟩ : ∃ X, bs (firstL oddS (rest s a)) = X := ⟨_, rfl⟩
  have HX := Lib.hid hX
  have hXf : X.toList.isEmpty = false := by rw [← hX, bs_toList]; cases h : firstL oddS (rest s a) with | nil => exact absurd h ho | cons x y => rfl
  clear hX ho
  have e34 : (((s[a].toNat : Nat) : Int) == 34) = false := by rw [← hg]; exact beq_eq_false_iff_ne.2 (by omega)
  have e36 : (((s[a].toNat : Nat) : Int) == 36) = false := by rw [← hg]; exact beq_eq_false_iff_ne.2 (by omega)
  rw [hg] at hl hd
  have HL := Lib.hid hl; have HD := Lib.hid hd; clear hl hd h34 h36 hg
  go_enter Tryz.func22, Tryz.ntmps22
  go_wp2_with (first | (go_at_call 35; (with_reducible refine (letter_is HL.out).mono ?_); rintro e w' ⟨rfl, rfl⟩) | (go_at_call 39; (with_reducible refine (digit_is HD.out).mono ?_); rintro e w' ⟨rfl, rfl⟩) | (go_at_call 44; (with_reducible refine (odd_r _).mono ?_); rintro e w2 ⟨g2, rfl, hb2, hst2⟩; have HST2 := Lib.hid hst2; clear hst2; obtain ⟨R4, R7, hbw⟩ := behind hb2 (by simp); obtain ⟨z0, z1, z2, z3, z4, z5⟩ := cells3 R4; obtain ⟨y0, y1, y2, y3, y4, y5⟩ := cells3 R7; have R4 := Lib.hid R4; clear R7) | (go_at_call 43; (with_reducible refine (stands_is hs la HST2.out le_o el_o len_o HX.out).mono ?_); rintro e w' ⟨rfl, n2, rfl⟩))
  try simp only [Exit.inBlock, Exit.then]
  refine bodyPost_ret (res_tok (tok3h R4.out _ _ _) rfl rfl rfl) rfl ?_
  exact TokR.bad HT.out rfl (((hbw.drewN _).setCell (Nat.le_refl _) _).setCell (Nat.le_refl _) _ |>.setCell (Nat.le_refl _) _)
set_option maxRecDepth 100000 in
set_option maxHeartbeats 4000000 in
theorem token_sign_none {s : ByteArray} {a : Nat} {w : World} (hs : s.size ≤ 1000000) (ha : a < s.size) (hl : letN (byteAt s a) = false) (hd : digN (byteAt s a) = false) (h34 : byteAt s a ≠ 34) (h36 : byteAt s a ≠ 36) (ho : ¬ firstL oddS (rest s a) ≠ []) (hn : firstL signsS (rest s a) = []) :
    Calls Tryz.prog 22 #[.string s, .int .i64 (a : Int)] w (TokR s a w) := by
  have hg := RfA.get_at ha
  have j0 : (0 : Int) ≤ (a : Int) := by omega
  have j1 : (a : Int) < (s.size : Int) := by omega
  have la := Nat.le_of_lt ha
  have HT := Lib.hid (show tokS (rest s a) = .bad 100 by rw [tok_sign ha hl hd h34 h36, if_neg ho, if_pos hn])
  have hX : bs (firstL oddS (rest s a)) = { data := #[] } := by rw [Classical.byContradiction fun h => ho h]; rfl
  have HX := Lib.hid hX
  clear hX ho
  have HY := Lib.hid (show bs (firstL signsS (rest s a)) = { data := #[] } by rw [hn]; rfl)
  clear hn
  have e34 : (((s[a].toNat : Nat) : Int) == 34) = false := by rw [← hg]; exact beq_eq_false_iff_ne.2 (by omega)
  have e36 : (((s[a].toNat : Nat) : Int) == 36) = false := by rw [← hg]; exact beq_eq_false_iff_ne.2 (by omega)
  rw [hg] at hl hd
  have HL := Lib.hid hl; have HD := Lib.hid hd; clear hl hd h34 h36 hg
  go_enter Tryz.func22, Tryz.ntmps22
  go_wp2_with (first | (go_at_call 35; (with_reducible refine (letter_is HL.out).mono ?_); rintro e w' ⟨rfl, rfl⟩) | (go_at_call 39; (with_reducible refine (digit_is HD.out).mono ?_); rintro e w' ⟨rfl, rfl⟩) | (go_at_call 44; (with_reducible refine (odd_r _).mono ?_); rintro e w2 ⟨g2, rfl, hb2, hst2⟩; have HST2 := Lib.hid hst2; clear hst2; obtain ⟨R4, R7, hbw⟩ := behind hb2 (by simp); obtain ⟨z0, z1, z2, z3, z4, z5⟩ := cells3 R4; obtain ⟨y0, y1, y2, y3, y4, y5⟩ := cells3 R7; have R4 := Lib.hid R4; clear R7) | (go_at_call 43; (with_reducible refine (stands_is hs la HST2.out le_o el_o len_o HX.out).mono ?_); rintro e w' ⟨rfl, n2, rfl⟩) | (go_at_call 45; (with_reducible refine (signs_r _).mono ?_); rintro e w3 ⟨g3, rfl, hb3, hst3⟩; have HST3 := Lib.hid hst3; clear hst3; have R5 := Lib.hid ((hb3.block w.heap.size (by have := (Array.getElem?_eq_some_iff.1 R4.out).1; simpa using this)).trans R4.out); obtain ⟨x0, x1, x2, x3, x4, x5⟩ := cells3 R5.out; have hbx := (hbw.drewN n2).trans (hb3.mono (by have := hbw.size; simpa using this))) | (go_at_call 43; (with_reducible refine (stands_is hs la HST3.out le_s el_s len_s HY.out).mono ?_); rintro e w' ⟨rfl, n3, rfl⟩))
  try simp only [Exit.inBlock, Exit.then]
  refine bodyPost_ret (res_tok (tok3h R5.out _ _ _) rfl rfl rfl) rfl ?_
  exact TokR.bad HT.out rfl (((hbx.drewN _).setCell (Nat.le_refl _) _).setCell (Nat.le_refl _) _ |>.setCell (Nat.le_refl _) _)
set_option maxRecDepth 100000 in
set_option maxHeartbeats 4000000 in
theorem token_sign_good {s : ByteArray} {a : Nat} {w : World} (hs : s.size ≤ 1000000) (ha : a < s.size) (hl : letN (byteAt s a) = false) (hd : digN (byteAt s a) = false) (h34 : byteAt s a ≠ 34) (h36 : byteAt s a ≠ 36) (ho : ¬ firstL oddS (rest s a) ≠ []) (hn : firstL signsS (rest s a) ≠ []) :
    Calls Tryz.prog 22 #[.string s, .int .i64 (a : Int)] w (TokR s a w) := by
  have hg := RfA.get_at ha
  have j0 : (0 : Int) ≤ (a : Int) := by omega
  have j1 : (a : Int) < (s.size : Int) := by omega
  have la := Nat.le_of_lt ha
  have HT := Lib.hid (show tokS (rest s a) = .good 6 (firstL signsS (rest s a)) (firstL signsS (rest s a)).length by rw [tok_sign ha hl hd h34 h36, if_neg ho, if_neg hn])
  have hX : bs (firstL oddS (rest s a)) = { data := #[] } := by rw [Classical.byContradiction fun h => ho h]; rfl
  have HX := Lib.hid hX
  clear hX ho
  obtain ⟨Y, hY⟩ : ∃ Y, bs (firstL signsS (rest s a)) = Y := ⟨_, rfl⟩
  have HY := Lib.hid hY
  have hYf : Y.toList.isEmpty = false := by rw [← hY, bs_toList]; cases h : firstL signsS (rest s a) with | nil => exact absurd h hn | cons x y => rfl
  have HYS := Lib.hid (show Y.size = (firstL signsS (rest s a)).length by rw [← hY, RfA.bs_size])
  have hfl := firstL_le signsS (rest s a) hn
  rw [rest_len] at hfl
  have hYs : Y.size ≤ 1000000 := by rw [HYS.out]; omega
  clear hY hn hfl
  have e34 : (((s[a].toNat : Nat) : Int) == 34) = false := by rw [← hg]; exact beq_eq_false_iff_ne.2 (by omega)
  have e36 : (((s[a].toNat : Nat) : Int) == 36) = false := by rw [← hg]; exact beq_eq_false_iff_ne.2 (by omega)
  rw [hg] at hl hd
  have HL := Lib.hid hl; have HD := Lib.hid hd; clear hl hd h34 h36 hg
  go_enter Tryz.func22, Tryz.ntmps22
  go_wp2_with (first | (go_at_call 35; (with_reducible refine (letter_is HL.out).mono ?_); rintro e w' ⟨rfl, rfl⟩) | (go_at_call 39; (with_reducible refine (digit_is HD.out).mono ?_); rintro e w' ⟨rfl, rfl⟩) | (go_at_call 44; (with_reducible refine (odd_r _).mono ?_); rintro e w2 ⟨g2, rfl, hb2, hst2⟩; have HST2 := Lib.hid hst2; clear hst2; obtain ⟨R4, R7, hbw⟩ := behind hb2 (by simp); obtain ⟨z0, z1, z2, z3, z4, z5⟩ := cells3 R4; obtain ⟨y0, y1, y2, y3, y4, y5⟩ := cells3 R7; have R4 := Lib.hid R4; clear R7) | (go_at_call 43; (with_reducible refine (stands_is hs la HST2.out le_o el_o len_o HX.out).mono ?_); rintro e w' ⟨rfl, n2, rfl⟩) | (go_at_call 45; (with_reducible refine (signs_r _).mono ?_); rintro e w3 ⟨g3, rfl, hb3, hst3⟩; have HST3 := Lib.hid hst3; clear hst3; have R5 := Lib.hid ((hb3.block w.heap.size (by have := (Array.getElem?_eq_some_iff.1 R4.out).1; simpa using this)).trans R4.out); obtain ⟨x0, x1, x2, x3, x4, x5⟩ := cells3 R5.out; have hbx := (hbw.drewN n2).trans (hb3.mono (by have := hbw.size; simpa using this))) | (go_at_call 43; (with_reducible refine (stands_is hs la HST3.out le_s el_s len_s HY.out).mono ?_); rintro e w' ⟨rfl, n3, rfl⟩))
  try simp only [Exit.inBlock, Exit.then]
  refine bodyPost_ret (res_tok (tok3h R5.out _ _ _) rfl rfl rfl) rfl ?_
  exact TokR.good HT.out rfl HY.out.symm (by rw [← HYS.out]; push_cast; rfl) (((hbx.drewN _).setCell (Nat.le_refl _) _).setCell (Nat.le_refl _) _ |>.setCell (Nat.le_refl _) _)
set_option maxRecDepth 100000 in
set_option maxHeartbeats 4000000 in
theorem token_name_N {s : ByteArray} {a r : Nat} {X : ByteArray} {w : World} (hs : s.size ≤ 1000000) (ha : a < s.size) (hl : letN (byteAt s a) = true) (hr : runL (rest s a) = r) (hX : X = s.extract a (a + r)) (hN : (decide (X.data.toList ≠ [95]) && decide (X.size ≤ 40)) = false) (hW : decide (X.data.toList ∈ wordsS) = false) (hT : tokS (rest s a) = .bad 101) :
    Calls Tryz.prog 22 #[.string s, .int .i64 (a : Int)] w (TokR s a w) := by
  have hg := RfA.get_at ha
  have j0 : (0 : Int) ≤ (a : Int) := by omega
  have j1 : (a : Int) < (s.size : Int) := by omega
  have hrl := run_le s a; rw [hr] at hrl
  have hXb : X = bs ((rest s a).take r) := by rw [hX]; exact bs_extract s a r (by omega)
  obtain ⟨n1, n2, n3, n4⟩ := name_bytes ha hl hr hXb
  have hXs : X.size ≤ 1000000 := by omega
  have la := Nat.le_of_lt ha
  have k2 : (a : Int) ≤ (a : Int) + (r : Int) := by omega
  have k3 : (a : Int) + (r : Int) ≤ (s.size : Int) := by omega
  have k4 : (0 : Int) ≤ (a : Int) + (r : Int) := by omega
  rw [hg] at hl
  have HL := Lib.hid hl; have HX := Lib.hid hX.symm; have HXB := Lib.hid hXb; have HT := Lib.hid hT; have N2 := Lib.hid n2; have N3 := Lib.hid n3; have HN := Lib.hid hN; have HW := Lib.hid hW
  have HRE := Lib.hid (show a + runL (rest s a) = a + r by rw [hr])
  have hx := hX.symm
  clear hl hX hXb hT n1 n2 n3 n4 hN hW hg hr
  go_enter Tryz.func22, Tryz.ntmps22
  go_wp2_with (first | (go_at_call 35; (with_reducible refine (letter_is HL.out).mono ?_); rintro e w' ⟨rfl, rfl⟩) | (go_at_call 36; go_must (refine (run_at hs la HRE.out).mono ?_); rintro e w' ⟨rfl, rfl⟩))
  go_quiet ((go_at_call 37; exact Calls.quiet_of_same ((Name_r hXs N2.out N3.out HN.out).mono fun _ _ h => ⟨h.1, h.2.symm⟩)))
  all_goals
    go_wp2_with fail
    go_region_with (first | (go_at_call 14; (with_reducible refine (words_r _).mono ?_); rintro e w4 ⟨g4, rfl, hb4, hst4⟩; have HST4 := Lib.hid hst4; clear hst4; obtain ⟨P4, P7, hbz⟩ := behind (O1 := .cells #[.int .u8 0, .string { data := #[] }, .int .i64 0] 50) (O2 := .cells #[.int .u8 2, .string X, .int .i64 (a : Int)] 50) (((Below.refl _ _).drewN _).trans hb4) (by simp); obtain ⟨x0, x1, x2, x3, x4, x5⟩ := cells3 P7; obtain ⟨z0, z1, z2, z3, z4, z5⟩ := cells3 P4; have P4 := Lib.hid P4; clear P7) | (go_at_call 34; (with_reducible refine (among_is HST4.out le_w len_w HW.out).mono ?_); rintro e w' ⟨rfl, rfl⟩))
    all_goals
      go_wp2
      try simp only [Exit.inBlock, Exit.then]
      refine bodyPost_ret (res_tok (tok3h P4.out _ _ _) rfl rfl rfl) rfl ?_
      exact TokR.bad HT.out rfl (((hbz.setCell (Nat.le_refl _) _).setCell (Nat.le_refl _) _).setCell (Nat.le_refl _) _)
set_option maxRecDepth 100000 in
set_option maxHeartbeats 4000000 in
theorem token_name_F {s : ByteArray} {a r : Nat} {X : ByteArray} {w : World} (hs : s.size ≤ 1000000) (ha : a < s.size) (hl : letN (byteAt s a) = true) (hr : runL (rest s a) = r) (hX : X = s.extract a (a + r)) (hN : (decide (X.data.toList ≠ [95]) && decide (X.size ≤ 40)) = true) (hF : decide (X.data.toList ∈ foreignS) = true) (hW : decide (X.data.toList ∈ wordsS) = false) (hT : tokS (rest s a) = .bad 101) :
    Calls Tryz.prog 22 #[.string s, .int .i64 (a : Int)] w (TokR s a w) := by
  have hg := RfA.get_at ha
  have j0 : (0 : Int) ≤ (a : Int) := by omega
  have j1 : (a : Int) < (s.size : Int) := by omega
  have hrl := run_le s a; rw [hr] at hrl
  have hXb : X = bs ((rest s a).take r) := by rw [hX]; exact bs_extract s a r (by omega)
  obtain ⟨n1, n2, n3, n4⟩ := name_bytes ha hl hr hXb
  have hXs : X.size ≤ 1000000 := by omega
  have la := Nat.le_of_lt ha
  have k2 : (a : Int) ≤ (a : Int) + (r : Int) := by omega
  have k3 : (a : Int) + (r : Int) ≤ (s.size : Int) := by omega
  have k4 : (0 : Int) ≤ (a : Int) + (r : Int) := by omega
  rw [hg] at hl
  have HL := Lib.hid hl; have HX := Lib.hid hX.symm; have HXB := Lib.hid hXb; have HT := Lib.hid hT; have N2 := Lib.hid n2; have N3 := Lib.hid n3; have HN := Lib.hid hN; have HW := Lib.hid hW; have HF := Lib.hid hF
  have HRE := Lib.hid (show a + runL (rest s a) = a + r by rw [hr])
  have hx := hX.symm
  clear hl hX hXb hT n1 n2 n3 n4 hN hW hg hr hF
  go_enter Tryz.func22, Tryz.ntmps22
  go_wp2_with (first | (go_at_call 35; (with_reducible refine (letter_is HL.out).mono ?_); rintro e w' ⟨rfl, rfl⟩) | (go_at_call 36; go_must (refine (run_at hs la HRE.out).mono ?_); rintro e w' ⟨rfl, rfl⟩))
  go_region_with (first | (go_at_call 37; (with_reducible refine (Name_r hXs N2.out N3.out HN.out).mono ?_); rintro e w' ⟨rfl, rfl⟩) | (go_at_call 38; (with_reducible refine (foreign_r _).mono ?_); rintro e w2 ⟨g2, rfl, hb2, hst2⟩; have HST2 := Lib.hid hst2; clear hst2; obtain ⟨R4, R7, hbw⟩ := behind (O1 := .cells #[.int .u8 0, .string { data := #[] }, .int .i64 0] 50) (O2 := .cells #[.int .u8 2, .string X, .int .i64 (a : Int)] 50) ((Below.refl _ _).drew.trans hb2) (by simp); obtain ⟨y0, y1, y2, y3, y4, y5⟩ := cells3 R7) | (go_at_call 34; (with_reducible refine (among_is HST2.out le_f len_f HF.out).mono ?_); rintro e w' ⟨rfl, rfl⟩))
  all_goals
    go_wp2_with fail
    go_region_with (first | (go_at_call 14; (with_reducible refine (words_r _).mono ?_); rintro e w4 ⟨g4, rfl, hb4, hst4⟩; have HST4 := Lib.hid hst4; clear hst4; obtain ⟨P4, P7, hbz⟩ := behind (O1 := .cells #[.int .u8 0, .string { data := #[] }, .int .i64 0] 50) (O2 := .cells #[.int .u8 2, .string X, .int .i64 (a : Int)] 50) ((((Below.refl _ _).drew.trans hb2).drew).trans (hb4.mono (by have := hb2.size; simpa using this))) (by simp); obtain ⟨x0, x1, x2, x3, x4, x5⟩ := cells3 P7; obtain ⟨z0, z1, z2, z3, z4, z5⟩ := cells3 P4; have P4 := Lib.hid P4; clear P7) | (go_at_call 34; (with_reducible refine (among_is HST4.out le_w len_w HW.out).mono ?_); rintro e w' ⟨rfl, rfl⟩))
    all_goals
      go_wp2
      try simp only [Exit.inBlock, Exit.then]
      refine bodyPost_ret (res_tok (tok3h P4.out _ _ _) rfl rfl rfl) rfl ?_
      exact TokR.bad HT.out rfl (((hbz.setCell (Nat.le_refl _) _).setCell (Nat.le_refl _) _).setCell (Nat.le_refl _) _)
set_option maxRecDepth 100000 in
set_option maxHeartbeats 4000000 in
theorem token_name_W {s : ByteArray} {a r : Nat} {X : ByteArray} {w : World} (hs : s.size ≤ 1000000) (ha : a < s.size) (hl : letN (byteAt s a) = true) (hr : runL (rest s a) = r) (hX : X = s.extract a (a + r)) (hN : (decide (X.data.toList ≠ [95]) && decide (X.size ≤ 40)) = true) (hF : decide (X.data.toList ∈ foreignS) = false) (hW : decide (X.data.toList ∈ wordsS) = true) (hT : tokS (rest s a) = .good 1 ((rest s a).take r) r) :
    Calls Tryz.prog 22 #[.string s, .int .i64 (a : Int)] w (TokR s a w) := by
  have hg := RfA.get_at ha
  have j0 : (0 : Int) ≤ (a : Int) := by omega
  have j1 : (a : Int) < (s.size : Int) := by omega
  have hrl := run_le s a; rw [hr] at hrl
  have hXb : X = bs ((rest s a).take r) := by rw [hX]; exact bs_extract s a r (by omega)
  obtain ⟨n1, n2, n3, n4⟩ := name_bytes ha hl hr hXb
  have hXs : X.size ≤ 1000000 := by omega
  have la := Nat.le_of_lt ha
  have k2 : (a : Int) ≤ (a : Int) + (r : Int) := by omega
  have k3 : (a : Int) + (r : Int) ≤ (s.size : Int) := by omega
  have k4 : (0 : Int) ≤ (a : Int) + (r : Int) := by omega
  rw [hg] at hl
  have HL := Lib.hid hl; have HX := Lib.hid hX.symm; have HXB := Lib.hid hXb; have HT := Lib.hid hT; have N2 := Lib.hid n2; have N3 := Lib.hid n3; have HN := Lib.hid hN; have HW := Lib.hid hW; have HF := Lib.hid hF
  have HRE := Lib.hid (show a + runL (rest s a) = a + r by rw [hr])
  have hx := hX.symm
  clear hl hX hXb hT n1 n2 n3 n4 hN hW hg hr hF
  go_enter Tryz.func22, Tryz.ntmps22
  go_wp2_with (first | (go_at_call 35; (with_reducible refine (letter_is HL.out).mono ?_); rintro e w' ⟨rfl, rfl⟩) | (go_at_call 36; go_must (refine (run_at hs la HRE.out).mono ?_); rintro e w' ⟨rfl, rfl⟩))
  go_region_with (first | (go_at_call 37; (with_reducible refine (Name_r hXs N2.out N3.out HN.out).mono ?_); rintro e w' ⟨rfl, rfl⟩) | (go_at_call 38; (with_reducible refine (foreign_r _).mono ?_); rintro e w2 ⟨g2, rfl, hb2, hst2⟩; have HST2 := Lib.hid hst2; clear hst2; obtain ⟨R4, R7, hbw⟩ := behind (O1 := .cells #[.int .u8 0, .string { data := #[] }, .int .i64 0] 50) (O2 := .cells #[.int .u8 2, .string X, .int .i64 (a : Int)] 50) ((Below.refl _ _).drew.trans hb2) (by simp); obtain ⟨y0, y1, y2, y3, y4, y5⟩ := cells3 R7) | (go_at_call 34; (with_reducible refine (among_is HST2.out le_f len_f HF.out).mono ?_); rintro e w' ⟨rfl, rfl⟩))
  all_goals
    go_wp2_with fail
    go_region_with (first | (go_at_call 14; (with_reducible refine (words_r _).mono ?_); rintro e w4 ⟨g4, rfl, hb4, hst4⟩; have HST4 := Lib.hid hst4; clear hst4; obtain ⟨P4, P7, hbz⟩ := behind (O1 := .cells #[.int .u8 0, .string { data := #[] }, .int .i64 0] 50) (O2 := .cells #[.int .u8 2, .string X, .int .i64 (a : Int)] 50) ((((Below.refl _ _).drew.trans hb2).drew).trans (hb4.mono (by have := hb2.size; simpa using this))) (by simp); obtain ⟨x0, x1, x2, x3, x4, x5⟩ := cells3 P7; obtain ⟨z0, z1, z2, z3, z4, z5⟩ := cells3 P4; have P4 := Lib.hid P4; clear P7) | (go_at_call 34; (with_reducible refine (among_is HST4.out le_w len_w HW.out).mono ?_); rintro e w' ⟨rfl, rfl⟩))
    all_goals
      go_wp2
      try simp only [Exit.inBlock, Exit.then]
      refine bodyPost_ret (res_tok (tok3h ((Below.heap_setCell _ _ _ _ (show w.heap.size ≠ w.heap.size + 1 by omega)).trans P4.out) _ _ _) rfl rfl rfl) rfl ?_
      exact TokR.good HT.out rfl HXB.out (by push_cast; omega) ((((hbz.setCell (by simp) _).setCell (Nat.le_refl _) _).setCell (Nat.le_refl _) _).setCell (Nat.le_refl _) _)
set_option maxRecDepth 100000 in
set_option maxHeartbeats 4000000 in
theorem token_name_G {s : ByteArray} {a r : Nat} {X : ByteArray} {w : World} (hs : s.size ≤ 1000000) (ha : a < s.size) (hl : letN (byteAt s a) = true) (hr : runL (rest s a) = r) (hX : X = s.extract a (a + r)) (hN : (decide (X.data.toList ≠ [95]) && decide (X.size ≤ 40)) = true) (hF : decide (X.data.toList ∈ foreignS) = false) (hW : decide (X.data.toList ∈ wordsS) = false) (hT : tokS (rest s a) = .good 2 ((rest s a).take r) r) :
    Calls Tryz.prog 22 #[.string s, .int .i64 (a : Int)] w (TokR s a w) := by
  have hg := RfA.get_at ha
  have j0 : (0 : Int) ≤ (a : Int) := by omega
  have j1 : (a : Int) < (s.size : Int) := by omega
  have hrl := run_le s a; rw [hr] at hrl
  have hXb : X = bs ((rest s a).take r) := by rw [hX]; exact bs_extract s a r (by omega)
  obtain ⟨n1, n2, n3, n4⟩ := name_bytes ha hl hr hXb
  have hXs : X.size ≤ 1000000 := by omega
  have la := Nat.le_of_lt ha
  have k2 : (a : Int) ≤ (a : Int) + (r : Int) := by omega
  have k3 : (a : Int) + (r : Int) ≤ (s.size : Int) := by omega
  have k4 : (0 : Int) ≤ (a : Int) + (r : Int) := by omega
  rw [hg] at hl
  have HL := Lib.hid hl; have HX := Lib.hid hX.symm; have HXB := Lib.hid hXb; have HT := Lib.hid hT; have N2 := Lib.hid n2; have N3 := Lib.hid n3; have HN := Lib.hid hN; have HW := Lib.hid hW; have HF := Lib.hid hF
  have HRE := Lib.hid (show a + runL (rest s a) = a + r by rw [hr])
  have hx := hX.symm
  clear hl hX hXb hT n1 n2 n3 n4 hN hW hg hr hF
  go_enter Tryz.func22, Tryz.ntmps22
  go_wp2_with (first | (go_at_call 35; (with_reducible refine (letter_is HL.out).mono ?_); rintro e w' ⟨rfl, rfl⟩) | (go_at_call 36; go_must (refine (run_at hs la HRE.out).mono ?_); rintro e w' ⟨rfl, rfl⟩))
  go_region_with (first | (go_at_call 37; (with_reducible refine (Name_r hXs N2.out N3.out HN.out).mono ?_); rintro e w' ⟨rfl, rfl⟩) | (go_at_call 38; (with_reducible refine (foreign_r _).mono ?_); rintro e w2 ⟨g2, rfl, hb2, hst2⟩; have HST2 := Lib.hid hst2; clear hst2; obtain ⟨R4, R7, hbw⟩ := behind (O1 := .cells #[.int .u8 0, .string { data := #[] }, .int .i64 0] 50) (O2 := .cells #[.int .u8 2, .string X, .int .i64 (a : Int)] 50) ((Below.refl _ _).drew.trans hb2) (by simp); obtain ⟨y0, y1, y2, y3, y4, y5⟩ := cells3 R7) | (go_at_call 34; (with_reducible refine (among_is HST2.out le_f len_f HF.out).mono ?_); rintro e w' ⟨rfl, rfl⟩))
  all_goals
    go_wp2_with fail
    go_region_with (first | (go_at_call 14; (with_reducible refine (words_r _).mono ?_); rintro e w4 ⟨g4, rfl, hb4, hst4⟩; have HST4 := Lib.hid hst4; clear hst4; obtain ⟨P4, P7, hbz⟩ := behind (O1 := .cells #[.int .u8 0, .string { data := #[] }, .int .i64 0] 50) (O2 := .cells #[.int .u8 2, .string X, .int .i64 (a : Int)] 50) ((((Below.refl _ _).drew.trans hb2).drew).trans (hb4.mono (by have := hb2.size; simpa using this))) (by simp); obtain ⟨x0, x1, x2, x3, x4, x5⟩ := cells3 P7; obtain ⟨z0, z1, z2, z3, z4, z5⟩ := cells3 P4; have P4 := Lib.hid P4; clear P7) | (go_at_call 34; (with_reducible refine (among_is HST4.out le_w len_w HW.out).mono ?_); rintro e w' ⟨rfl, rfl⟩))
    all_goals
      go_wp2
      try simp only [Exit.inBlock, Exit.then]
      refine bodyPost_ret (res_tok (tok3h P4.out _ _ _) rfl rfl rfl) rfl ?_
      exact TokR.good HT.out rfl HXB.out (by push_cast; omega) (((hbz.setCell (Nat.le_refl _) _).setCell (Nat.le_refl _) _).setCell (Nat.le_refl _) _)
end Go.Proofs.YtopbhopblpfjpaaGreatDoor.RfU
