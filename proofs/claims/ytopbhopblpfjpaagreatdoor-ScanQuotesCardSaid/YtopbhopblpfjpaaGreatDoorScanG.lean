/- The scanner's dollars, walked; its tokens. (Printed by scan_g.py.) -/
import Derived.Test.YtopbhopblpfjpaaGreatDoorScanF
namespace Go.Proofs.YtopbhopblpfjpaaGreatDoor.ScanG
open Go.RowKit Go.Proofs.YtopbhopblpfjpaaGreatDoor.Lexy Go.Proofs.YtopbhopblpfjpaaGreatDoor.Heap Go.Proofs.YtopbhopblpfjpaaGreatDoor.Base Go.Proofs.YtopbhopblpfjpaaGreatDoor.Scany Go.Proofs.YtopbhopblpfjpaaGreatDoor.ScanA Go.Proofs.YtopbhopblpfjpaaGreatDoor.ScanB Go.Proofs.YtopbhopblpfjpaaGreatDoor.ScanC Go.Proofs.YtopbhopblpfjpaaGreatDoor.ScanD Go.Proofs.YtopbhopblpfjpaaGreatDoor.ScanE Go.Proofs.YtopbhopblpfjpaaGreatDoor.ScanF

theorem tok_dol {s : ByteArray} {a : Nat} (ha : a < s.size) (h : byteAt s a = 36) : tokS (rest s a) = match dolL (rest s (a + 1)) with | none => .bad 101 | some (t, n) => .good 8 t n := by
  obtain ⟨c, e1, e2⟩ := rest_cons ha
  have hc : c.toNat = 36 := by omega
  rw [e1, tokS, hc]; rfl
theorem dol_rest {s : ByteArray} {a d : Nat} (hd : digL (rest s a) = d) : dolL (rest s a) = if byteAt s a = 36 then some ([36], 2) else if d = 0 ∨ 2 < d ∨ byteAt s a = 48 ∨ letN (byteAt s (a + d)) = true then none else some ((rest s a).take d, d + 1) := by
  unfold dolL; rw [hd, head_byte, rest_drop, head_byte]
set_option maxRecDepth 100000 in
set_option maxHeartbeats 2000000 in
theorem dol_two {b : Nat} {s : ByteArray} {a : Nat} {l : Value} {w : World} (hr : Sc w b s a l) (hs : s.size ≤ 1000000) (ha : a < s.size) (h36 : byteAt s a = 36) (h2 : byteAt s (a + 1) = 36) :
    Calls Tryz.prog 83 #[.pointer (some ⟨b, 0, none⟩)] w (PartPost b s a l w) := by
  have HT := Lib.hid (show tokS (rest s a) = .good 8 [36] 2 by rw [tok_dol ha h36, dol_rest rfl, if_pos h2])
  have HC := Lib.hid h2; clear h36 h2
  have c1 := hr.c1; have f1 := hr.fr 1
  have hr1 : Sc (w.setCell ⟨b, 1, none⟩ (.int .i64 ((a : Int) + 1))) b s (a + 1) l := hr.set1 (by simp)
  have hg1 := grown_set w ⟨b, 1, none⟩ (.int .i64 ((a : Int) + 1))
  go_enter Tryz.func83, Tryz.ntmps83
  go_wp2_with fail
  clear c1 f1
  generalize w.setCell ⟨b, 1, none⟩ (.int .i64 ((a : Int) + 1)) = W1 at *
  have c1 := hr1.c1; have f1 := hr1.fr 1
  go_wp2_with (go_at_call 28; go_must ((with_reducible refine (now0 hr1 hs (by omega) HC.out).mono ?_)); rintro e w' ⟨rfl, n0, rfl⟩)
  go_ret2
  exact PartPost.good HT.out rfl rfl (grown_trans (grown_trans hg1 (grown_drewN _ _ _)) (grown_set _ ⟨b, 1, none⟩ _)) ((hr1.drewN _).set1 (by simp <;> omega))

set_option maxRecDepth 100000 in
set_option maxHeartbeats 2000000 in
theorem dol_none {b : Nat} {s : ByteArray} {a d c : Nat} {l : Value} {w : World} (hr : Sc w b s a l) (hs : s.size ≤ 1000000) (ha : a < s.size) (h36 : byteAt s a = 36) (hc : byteAt s (a + 1) = c) (hc36 : c ≠ 36) (hd : digL (rest s (a + 1)) = d) (h0 : d = 0) :
    Calls Tryz.prog 83 #[.pointer (some ⟨b, 0, none⟩)] w (PartPost b s a l w) := by
  have hdl := digL_le (rest s (a + 1)); rw [rest_len, hd] at hdl
  have HT := Lib.hid (show tokS (rest s a) = .bad 101 by rw [tok_dol ha h36, dol_rest hd, if_neg (by rw [hc]; exact hc36)]; simp [h0])
  obtain ⟨X, hX⟩ : ∃ X : ByteArray, X = bs ((rest s (a + 1)).take d) := ⟨_, rfl⟩
  have hXl : X = { data := #[] } := by rw [hX, h0]; rfl
  subst hXl
  have e36 : ((c : Int) == 36) = false := beq_eq_false_iff_ne.2 (by omega)
  have HX := Lib.hid hX; have HC := Lib.hid hc; have HD := Lib.hid hd; clear hX hc hd h36 hc36
  have H0 := Lib.hid h0; clear h0
  have c1 := hr.c1; have f1 := hr.fr 1
  have hr1 : Sc (w.setCell ⟨b, 1, none⟩ (.int .i64 ((a : Int) + 1))) b s (a + 1) l := hr.set1 (by simp)
  have hg1 := grown_set w ⟨b, 1, none⟩ (.int .i64 ((a : Int) + 1))
  go_enter Tryz.func83, Tryz.ntmps83
  go_wp2_with fail
  clear c1 f1
  generalize w.setCell ⟨b, 1, none⟩ (.int .i64 ((a : Int) + 1)) = W1 at *
  go_wp2_with (first | (go_at_call 28; (with_reducible refine (now0 hr1 hs (by omega) HC.out).mono ?_); rintro e w' ⟨rfl, n0, rfl⟩) | (go_at_call 29; go_must (refine (run_digit_is (hr1.drewN _) hs (by omega) HD.out HX.out).mono ?_); rintro e w3 ⟨rfl, hr3, hg3⟩) | (go_at_call 138; refine (no_any _).mono ?_; rintro e w' ⟨rfl, rfl⟩))
  exact ⟨rfl, PartPost.bad HT.out rfl (grown_trans (grown_trans hg1 (grown_drewN _ _ _)) hg3)⟩
set_option maxRecDepth 100000 in
set_option maxHeartbeats 2000000 in
theorem dol_many {b : Nat} {s : ByteArray} {a d c : Nat} {l : Value} {w : World} (hr : Sc w b s a l) (hs : s.size ≤ 1000000) (ha : a < s.size) (h36 : byteAt s a = 36) (hc : byteAt s (a + 1) = c) (hc36 : c ≠ 36) (hd : digL (rest s (a + 1)) = d) (h0 : 2 < d) :
    Calls Tryz.prog 83 #[.pointer (some ⟨b, 0, none⟩)] w (PartPost b s a l w) := by
  have hdl := digL_le (rest s (a + 1)); rw [rest_len, hd] at hdl
  have HT := Lib.hid (show tokS (rest s a) = .bad 101 by rw [tok_dol ha h36, dol_rest hd, if_neg (by rw [hc]; exact hc36)]; simp [h0])
  obtain ⟨X, hX⟩ : ∃ X : ByteArray, X = bs ((rest s (a + 1)).take d) := ⟨_, rfl⟩
  have hXs : X.size = d := by rw [hX]; exact take_size (by omega)
  have hlt1 : a + 1 < s.size := by omega
  have hXe : X.toList.isEmpty = false := by rw [hX]; refine ne_empty (fun h => ?_); have := congrArg List.length h; rw [List.length_take, rest_len] at this; simp at this; omega
  have g2 : (2 : Int) < (d : Int) := by omega
  have e36 : ((c : Int) == 36) = false := beq_eq_false_iff_ne.2 (by omega)
  have HX := Lib.hid hX; have HC := Lib.hid hc; have HD := Lib.hid hd; clear hX hc hd h36 hc36
  have c1 := hr.c1; have f1 := hr.fr 1
  have hr1 : Sc (w.setCell ⟨b, 1, none⟩ (.int .i64 ((a : Int) + 1))) b s (a + 1) l := hr.set1 (by simp)
  have hg1 := grown_set w ⟨b, 1, none⟩ (.int .i64 ((a : Int) + 1))
  go_enter Tryz.func83, Tryz.ntmps83
  go_wp2_with fail
  clear c1 f1
  generalize w.setCell ⟨b, 1, none⟩ (.int .i64 ((a : Int) + 1)) = W1 at *
  go_wp2_with (first | (go_at_call 28; (with_reducible refine (now0 hr1 hs (by omega) HC.out).mono ?_); rintro e w' ⟨rfl, n0, rfl⟩) | (go_at_call 29; go_must (refine (run_digit_is (hr1.drewN _) hs (by omega) HD.out HX.out).mono ?_); rintro e w3 ⟨rfl, hr3, hg3⟩) | (go_at_call 138; refine (no_any _).mono ?_; rintro e w' ⟨rfl, rfl⟩))
  exact ⟨rfl, PartPost.bad HT.out rfl (grown_trans (grown_trans hg1 (grown_drewN _ _ _)) hg3)⟩
set_option maxRecDepth 100000 in
set_option maxHeartbeats 2000000 in
theorem dol_zero {b : Nat} {s : ByteArray} {a d c : Nat} {l : Value} {w : World} (hr : Sc w b s a l) (hs : s.size ≤ 1000000) (ha : a < s.size) (h36 : byteAt s a = 36) (hc : byteAt s (a + 1) = c) (hc36 : c ≠ 36) (hd : digL (rest s (a + 1)) = d) (h0 : d ≠ 0) (h2 : ¬ 2 < d) (h48 : byteAt s (a + 1) = 48) :
    Calls Tryz.prog 83 #[.pointer (some ⟨b, 0, none⟩)] w (PartPost b s a l w) := by
  have hdl := digL_le (rest s (a + 1)); rw [rest_len, hd] at hdl
  have HT := Lib.hid (show tokS (rest s a) = .bad 101 by rw [tok_dol ha h36, dol_rest hd, if_neg (by rw [hc]; exact hc36)]; simp [h48])
  obtain ⟨X, hX⟩ : ∃ X : ByteArray, X = bs ((rest s (a + 1)).take d) := ⟨_, rfl⟩
  have hXs : X.size = d := by rw [hX]; exact take_size (by omega)
  have hlt1 : a + 1 < s.size := by omega
  have hXe : X.toList.isEmpty = false := by rw [hX]; refine ne_empty (fun h => ?_); have := congrArg List.length h; rw [List.length_take, rest_len] at this; simp at this; omega
  have g2 : decide ((2 : Int) < (d : Int)) = false := by simp; omega
  have g0 : (0 : Int) < (d : Int) := by omega
  have g48 : ∀ h : 0 < X.size, (((X[0].toNat : Nat) : Int) == 48) = true := fun h => by rw [bs_first hX hlt1 h, h48]; rfl
  have e36 : ((c : Int) == 36) = false := beq_eq_false_iff_ne.2 (by omega)
  have HX := Lib.hid hX; have HC := Lib.hid hc; have HD := Lib.hid hd; clear hX hc hd h36 hc36
  have H48 := Lib.hid h48; clear h48
  have c1 := hr.c1; have f1 := hr.fr 1
  have hr1 : Sc (w.setCell ⟨b, 1, none⟩ (.int .i64 ((a : Int) + 1))) b s (a + 1) l := hr.set1 (by simp)
  have hg1 := grown_set w ⟨b, 1, none⟩ (.int .i64 ((a : Int) + 1))
  go_enter Tryz.func83, Tryz.ntmps83
  go_wp2_with fail
  clear c1 f1
  generalize w.setCell ⟨b, 1, none⟩ (.int .i64 ((a : Int) + 1)) = W1 at *
  go_wp2_with (first | (go_at_call 28; (with_reducible refine (now0 hr1 hs (by omega) HC.out).mono ?_); rintro e w' ⟨rfl, n0, rfl⟩) | (go_at_call 29; go_must (refine (run_digit_is (hr1.drewN _) hs (by omega) HD.out HX.out).mono ?_); rintro e w3 ⟨rfl, hr3, hg3⟩) | (go_at_call 138; refine (no_any _).mono ?_; rintro e w' ⟨rfl, rfl⟩))
  exact ⟨rfl, PartPost.bad HT.out rfl (grown_trans (grown_trans hg1 (grown_drewN _ _ _)) hg3)⟩
set_option maxRecDepth 100000 in
set_option maxHeartbeats 2000000 in
theorem dol_let {b : Nat} {s : ByteArray} {a d c : Nat} {l : Value} {w : World} (hr : Sc w b s a l) (hs : s.size ≤ 1000000) (ha : a < s.size) (h36 : byteAt s a = 36) (hc : byteAt s (a + 1) = c) (hc36 : c ≠ 36) (hd : digL (rest s (a + 1)) = d) (h0 : d ≠ 0) (h2 : ¬ 2 < d) (h48 : byteAt s (a + 1) ≠ 48) (hl : letN (byteAt s (a + 1 + d)) = true) :
    Calls Tryz.prog 83 #[.pointer (some ⟨b, 0, none⟩)] w (PartPost b s a l w) := by
  have hdl := digL_le (rest s (a + 1)); rw [rest_len, hd] at hdl
  have HT := Lib.hid (show tokS (rest s a) = .bad 101 by rw [tok_dol ha h36, dol_rest hd, if_neg (by rw [hc]; exact hc36)]; simp [hl])
  obtain ⟨X, hX⟩ : ∃ X : ByteArray, X = bs ((rest s (a + 1)).take d) := ⟨_, rfl⟩
  have hXs : X.size = d := by rw [hX]; exact take_size (by omega)
  have hlt1 : a + 1 < s.size := by omega
  have hXe : X.toList.isEmpty = false := by rw [hX]; refine ne_empty (fun h => ?_); have := congrArg List.length h; rw [List.length_take, rest_len] at this; simp at this; omega
  have g2 : decide ((2 : Int) < (d : Int)) = false := by simp; omega
  have g0 : (0 : Int) < (d : Int) := by omega
  have g48 : ∀ h : 0 < X.size, (((X[0].toNat : Nat) : Int) == 48) = false := fun h => by rw [bs_first hX hlt1 h]; exact beq_eq_false_iff_ne.2 (by omega)
  have e36 : ((c : Int) == 36) = false := beq_eq_false_iff_ne.2 (by omega)
  have HX := Lib.hid hX; have HC := Lib.hid hc; have HD := Lib.hid hd; clear hX hc hd h36 hc36
  have H48 := Lib.hid h48; clear h48
  have HL := Lib.hid hl; clear hl
  have c1 := hr.c1; have f1 := hr.fr 1
  have hr1 : Sc (w.setCell ⟨b, 1, none⟩ (.int .i64 ((a : Int) + 1))) b s (a + 1) l := hr.set1 (by simp)
  have hg1 := grown_set w ⟨b, 1, none⟩ (.int .i64 ((a : Int) + 1))
  go_enter Tryz.func83, Tryz.ntmps83
  go_wp2_with fail
  clear c1 f1
  generalize w.setCell ⟨b, 1, none⟩ (.int .i64 ((a : Int) + 1)) = W1 at *
  go_wp2_with (first | (go_at_call 28; (with_reducible refine (now0 hr1 hs (by omega) HC.out).mono ?_); rintro e w' ⟨rfl, n0, rfl⟩) | (go_at_call 29; go_must (refine (run_digit_is (hr1.drewN _) hs (by omega) HD.out HX.out).mono ?_); rintro e w3 ⟨rfl, hr3, hg3⟩) | (go_at_call 28; (with_reducible refine (now0 hr3 hs (by omega) rfl).mono ?_); rintro e w' ⟨rfl, n3, rfl⟩) | (go_at_call 78; (with_reducible refine (letter_is HL.out).mono ?_); rintro e w' ⟨rfl, rfl⟩) | (go_at_call 138; refine (no_any _).mono ?_; rintro e w' ⟨rfl, rfl⟩))
  exact ⟨rfl, PartPost.bad HT.out rfl (grown_trans (grown_trans (grown_trans hg1 (grown_drewN _ _ _)) hg3) (grown_drewN _ _ _))⟩
set_option maxRecDepth 100000 in
set_option maxHeartbeats 2000000 in
theorem dol_good {b : Nat} {s : ByteArray} {a d c : Nat} {l : Value} {w : World} (hr : Sc w b s a l) (hs : s.size ≤ 1000000) (ha : a < s.size) (h36 : byteAt s a = 36) (hc : byteAt s (a + 1) = c) (hc36 : c ≠ 36) (hd : digL (rest s (a + 1)) = d) (h0 : d ≠ 0) (h2 : ¬ 2 < d) (h48 : byteAt s (a + 1) ≠ 48) (hl : letN (byteAt s (a + 1 + d)) = false) :
    Calls Tryz.prog 83 #[.pointer (some ⟨b, 0, none⟩)] w (PartPost b s a l w) := by
  have hdl := digL_le (rest s (a + 1)); rw [rest_len, hd] at hdl
  have HT := Lib.hid (show tokS (rest s a) = .good 8 ((rest s (a + 1)).take d) (d + 1) by rw [tok_dol ha h36, dol_rest hd, if_neg (by rw [hc]; exact hc36)]; rw [if_neg (by rintro (h | h | h | h); exact h0 h; exact h2 h; exact h48 h; rw [hl] at h; cases h)])
  obtain ⟨X, hX⟩ : ∃ X : ByteArray, X = bs ((rest s (a + 1)).take d) := ⟨_, rfl⟩
  have hXs : X.size = d := by rw [hX]; exact take_size (by omega)
  have hlt1 : a + 1 < s.size := by omega
  have hXe : X.toList.isEmpty = false := by rw [hX]; refine ne_empty (fun h => ?_); have := congrArg List.length h; rw [List.length_take, rest_len] at this; simp at this; omega
  have g2 : decide ((2 : Int) < (d : Int)) = false := by simp; omega
  have g0 : (0 : Int) < (d : Int) := by omega
  have g48 : ∀ h : 0 < X.size, (((X[0].toNat : Nat) : Int) == 48) = false := fun h => by rw [bs_first hX hlt1 h]; exact beq_eq_false_iff_ne.2 (by omega)
  have e36 : ((c : Int) == 36) = false := beq_eq_false_iff_ne.2 (by omega)
  have HX := Lib.hid hX; have HC := Lib.hid hc; have HD := Lib.hid hd; clear hX hc hd h36 hc36
  have H48 := Lib.hid h48; clear h48
  have HL := Lib.hid hl; clear hl
  have c1 := hr.c1; have f1 := hr.fr 1
  have hr1 : Sc (w.setCell ⟨b, 1, none⟩ (.int .i64 ((a : Int) + 1))) b s (a + 1) l := hr.set1 (by simp)
  have hg1 := grown_set w ⟨b, 1, none⟩ (.int .i64 ((a : Int) + 1))
  go_enter Tryz.func83, Tryz.ntmps83
  go_wp2_with fail
  clear c1 f1
  generalize w.setCell ⟨b, 1, none⟩ (.int .i64 ((a : Int) + 1)) = W1 at *
  go_wp2_with (first | (go_at_call 28; (with_reducible refine (now0 hr1 hs (by omega) HC.out).mono ?_); rintro e w' ⟨rfl, n0, rfl⟩) | (go_at_call 29; go_must (refine (run_digit_is (hr1.drewN _) hs (by omega) HD.out HX.out).mono ?_); rintro e w3 ⟨rfl, hr3, hg3⟩) | (go_at_call 28; (with_reducible refine (now0 hr3 hs (by omega) rfl).mono ?_); rintro e w' ⟨rfl, n3, rfl⟩) | (go_at_call 78; (with_reducible refine (letter_is HL.out).mono ?_); rintro e w' ⟨rfl, rfl⟩))
  go_ret2
  exact PartPost.good HT.out rfl HX.out (grown_trans (grown_trans (grown_trans hg1 (grown_drewN _ _ _)) hg3) (grown_drewN _ _ _)) (by rw [show a + (d + 1) = a + 1 + d by omega]; exact hr3.drewN _)
/-- a dollar -/
theorem dollar_any {b : Nat} {s : ByteArray} {a : Nat} {l : Value} {w : World} (hr : Sc w b s a l) (hs : s.size ≤ 1000000) (ha : a < s.size) (h36 : byteAt s a = 36) :
    Calls Tryz.prog 83 #[.pointer (some ⟨b, 0, none⟩)] w (PartPost b s a l w) := by
  by_cases h2 : byteAt s (a + 1) = 36
  · exact dol_two hr hs ha h36 h2
  · obtain ⟨d, hd⟩ : ∃ d, digL (rest s (a + 1)) = d := ⟨_, rfl⟩
    by_cases h0 : d = 0
    · exact dol_none hr hs ha h36 rfl h2 hd h0
    · by_cases h3 : 2 < d
      · exact dol_many hr hs ha h36 rfl h2 hd h3
      · by_cases h48 : byteAt s (a + 1) = 48
        · exact dol_zero hr hs ha h36 rfl h2 hd h0 h3 h48
        · cases hl : letN (byteAt s (a + 1 + d)) with
          | true => exact dol_let hr hs ha h36 rfl h2 hd h0 h3 h48 hl
          | false => exact dol_good hr hs ha h36 rfl h2 hd h0 h3 h48 hl
end Go.Proofs.YtopbhopblpfjpaaGreatDoor.ScanG
