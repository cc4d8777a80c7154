/- The scanner's numbers, walked. (Printed by scan_e.py.) -/
import Derived.Test.YtopbhopblpfjpaaGreatDoorScanD
namespace Go.Proofs.YtopbhopblpfjpaaGreatDoor.ScanE
open Go.RowKit Go.Proofs.YtopbhopblpfjpaaGreatDoor.Lexy Go.Proofs.YtopbhopblpfjpaaGreatDoor.Heap Go.Proofs.YtopbhopblpfjpaaGreatDoor.Base Go.Proofs.YtopbhopblpfjpaaGreatDoor.Scany Go.Proofs.YtopbhopblpfjpaaGreatDoor.ScanA Go.Proofs.YtopbhopblpfjpaaGreatDoor.ScanB Go.Proofs.YtopbhopblpfjpaaGreatDoor.ScanC Go.Proofs.YtopbhopblpfjpaaGreatDoor.ScanD

theorem run_digit_is {b : Nat} {s : ByteArray} {a d : Nat} {l : Value} {w : World} {X : ByteArray} (hr : Sc w b s a l) (hs : s.size ≤ 1000000) (ha : a ≤ s.size) (hd : digL (rest s a) = d) (hX : X = bs ((rest s a).take d)) :
    Calls Tryz.prog 29 #[.pointer (some ⟨b, 0, none⟩), .func (.func 80) #[] #[]] w fun e w' => e = .returned (.string X) ∧ Sc w' b s (a + d) l ∧ w.grownBy w' (some b) := by
  subst hd hX; exact run_digit hr hs ha
theorem bs_size (l : List UInt8) : (bs l).size = l.length := by simp [bs, ByteArray.size]
theorem take_size {s : ByteArray} {a d : Nat} (h : a + d ≤ s.size) : (bs ((rest s a).take d)).size = d := by rw [bs_size, List.length_take, rest_len]; omega
theorem bs_first {s : ByteArray} {a d : Nat} {X : ByteArray} (hX : X = bs ((rest s a).take d)) (h : a < s.size) : ∀ h : 0 < X.size, X[0].toNat = byteAt s a := by
  subst hX
  intro h0
  obtain ⟨c, e1, e2⟩ := rest_cons h
  rw [bs_size] at h0
  have : (bs ((rest s a).take d)).data.toList[0]? = some c := by
    rw [bs_list, e1]
    cases d with
    | zero => simp at h0
    | succ d => simp
  rw [e2]
  obtain ⟨_, h4⟩ := List.getElem?_eq_some_iff.1 this
  exact congrArg UInt8.toNat h4
theorem bs_dot {s : ByteArray} {a d m : Nat} (hd : a + d < s.size) (h46 : byteAt s (a + d) = 46) : bs ((rest s a).take d) ++ { data := #[46] } ++ bs ((rest s (a + d + 1)).take m) = bs ((rest s a).take (d + 1 + m)) := by
  obtain ⟨c, e1, e2⟩ := rest_cons hd
  have hc : c = 46 := by apply UInt8.toNat_inj.1; rw [← e2, h46]; rfl
  have hl : (rest s a).take (d + 1 + m) = (rest s a).take d ++ 46 :: (rest s (a + d + 1)).take m := by
    rw [show d + 1 + m = d + (m + 1) by omega, List.take_add, rest_drop, e1, hc, List.take_succ_cons]
  rw [hl]
  apply ByteArray.ext; apply Array.ext'
  simp [bs]

/-- a number's token -/
theorem tok_num {s : ByteArray} {a : Nat} (ha : a < s.size) (hd : digN (byteAt s a) = true) : tokS (rest s a) = if numBad (rest s a) then .bad 101 else .good (if pointL ((rest s a).drop (digL (rest s a))) then 4 else 3) ((rest s a).take (numLen (rest s a))) (numLen (rest s a)) := by
  obtain ⟨c, e1, e2⟩ := rest_cons ha
  have hl : letN c.toNat = false := by
    rw [e2] at hd; unfold digN at hd; unfold letN; simp at hd ⊢; omega
  rw [e2] at hd
  rw [e1, tokS, if_neg (by simp [hl]), if_pos hd]
theorem point_rest (s : ByteArray) (a : Nat) : pointL (rest s a) = (decide (byteAt s a = 46) && digN (byteAt s (a + 1))) := by
  unfold pointL; rw [rest_drop, head_byte, head_byte]
theorem num_plain {s : ByteArray} {a d : Nat} (hd : digL (rest s a) = d) (hp : pointL (rest s (a + d)) = false) : numLen (rest s a) = d ∧ numCnt (rest s a) = d := by
  unfold numLen numCnt; rw [hd, rest_drop, hp]; exact ⟨rfl, rfl⟩
theorem num_point {s : ByteArray} {a d m : Nat} (hd : digL (rest s a) = d) (hp : pointL (rest s (a + d)) = true) (hm : digL (rest s (a + d + 1)) = m) : numLen (rest s a) = d + 1 + m ∧ numCnt (rest s a) = d + m := by
  unfold numLen numCnt; rw [hd, rest_drop, hp, rest_drop, show a + (d + 1) = a + d + 1 from rfl, hm]; exact ⟨rfl, rfl⟩
theorem bad_rest {s : ByteArray} {a d n : Nat} (hd : digL (rest s a) = d) (hn : numLen (rest s a) = n) : numBad (rest s a) = ((decide (1 < d) && decide (byteAt s a = 48)) || decide (40 < numCnt (rest s a)) || decide (byteAt s (a + n) = 46) || letN (byteAt s (a + n))) := by
  unfold numBad; rw [hd, hn, rest_drop, head_byte, head_byte]
theorem tok_num_bad {s : ByteArray} {a : Nat} (ha : a < s.size) (hd : digN (byteAt s a) = true) (h : numBad (rest s a) = true) : tokS (rest s a) = .bad 101 := by rw [tok_num ha hd, if_pos h]
theorem tok_num_good {s : ByteArray} {a d n k : Nat} (ha : a < s.size) (hd : digN (byteAt s a) = true) (h : numBad (rest s a) = false) (hl : digL (rest s a) = d) (hn : numLen (rest s a) = n) (hk : (if pointL (rest s (a + d)) then 4 else 3) = k) :
    tokS (rest s a) = .good k ((rest s a).take n) n := by rw [tok_num ha hd, h, hl, rest_drop, hk, hn]; rfl

set_option maxRecDepth 100000 in
set_option maxHeartbeats 2000000 in
theorem num_p_z1_zero {b : Nat} {s : ByteArray} {a d c0 c1 m c : Nat} {l : Value} {w : World} (hr : Sc w b s a l) (hs : s.size ≤ 1000000) (ha : a < s.size) (hdg : digN (byteAt s a) = true) (hd : digL (rest s a) = d) (hc0 : byteAt s (a + d) = c0) (h46 : c0 = 46) (hc1 : byteAt s (a + d + 1) = c1) (hdg1 : digN c1 = true) (hm : digL (rest s (a + d + 1)) = m) (hc : byteAt s (a + (d + 1 + m)) = c) (hz1 : 1 < d) (hz2 : byteAt s a = 48) :
    Calls Tryz.prog 81 #[.pointer (some ⟨b, 0, none⟩)] w (PartPost b s a l w) := by
  have hdl := digL_le (rest s a); rw [rest_len, hd] at hdl
  have hpt : pointL (rest s (a + d)) = true := by rw [point_rest, hc0, hc1, hdg1]; simp [h46]
  have hml := digL_le (rest s (a + d + 1)); rw [rest_len, hm] at hml
  have hlt1 : a + d < s.size := by
    rcases Nat.lt_or_ge (a + d) s.size with h | h
    · exact h
    · rw [(rest_nil h).2] at hc0; omega
  obtain ⟨hnl, hnc⟩ := num_point hd hpt hm
  have hnb := bad_rest hd hnl; rw [hnc, hc] at hnb
  have HT := Lib.hid (tok_num_bad ha hdg (by rw [hnb]; simp [hz1, hz2])); clear hnb
  obtain ⟨X, hX⟩ : ∃ X, X = bs ((rest s a).take d) := ⟨_, rfl⟩
  have HXB := Lib.hid hX
  have hXs : X.size = d := by rw [hX]; exact take_size (by omega)
  clear hX
  obtain ⟨Y, hY⟩ : ∃ Y, Y = bs ((rest s (a + d + 1)).take m) := ⟨_, rfl⟩
  have HYB := Lib.hid hY
  have hYs : Y.size = m := by rw [hY]; exact take_size (by omega)
  have HXY := Lib.hid (show X ++ { data := #[46] } ++ Y = bs ((rest s a).take (d + 1 + m)) by rw [HXB.out, hY]; exact bs_dot hlt1 (by omega))
  clear hY
  have g1 : (1 : Int) < (d : Int) := by omega
  have g2 : ∀ h : 0 < X.size, (((X[0].toNat : Nat) : Int) == 48) = true := fun h => by rw [bs_first HXB.out ha h, hz2]; rfl
  have e46 : ((c0 : Int) == 46) = true := by rw [h46]; rfl
  have HD := Lib.hid hd; have HC0 := Lib.hid hc0; clear hd hc0 hdg hnl hnc hpt
  have HC1 := Lib.hid hc1; have HG1 := Lib.hid hdg1; clear hc1 hdg1
  have HMM := Lib.hid hm; have HCC := Lib.hid (show byteAt s (a + d + 1 + m) = c by rw [show a + d + 1 + m = a + (d + 1 + m) by omega]; exact hc); clear hm hc
  have H46 := Lib.hid h46; clear h46
  have HZ2 := Lib.hid hz2; clear hz2
  go_enter Tryz.func81, Tryz.ntmps81
  go_wp2_with (first | (go_at_call 29; (with_reducible refine (run_digit_is hr hs (Nat.le_of_lt ha) HD.out HXB.out).mono ?_); rintro e w1 ⟨rfl, hr1, hg1⟩; have k1 := hr1.c1; have k2 := hr1.fr 1) | (go_at_call 28; (with_reducible refine (now0 hr1 hs (by omega) HC0.out).mono ?_); rintro e w' ⟨rfl, n0, rfl⟩) | (go_at_call 28; (with_reducible refine (now1 (hr1.drewN _) hs (by omega) HC1.out).mono ?_); rintro e w' ⟨rfl, n1, rfl⟩) | (go_at_call 80; (with_reducible refine (digit_is HG1.out).mono ?_); rintro e w' ⟨rfl, rfl⟩) | (go_at_call 29; go_must (refine (run_digit_is ((hr1.drewN _).set1 (a' := a + d + 1) (by simp)) hs (by omega) HMM.out HYB.out).mono ?_); rintro e w3 ⟨rfl, hr3, hg3⟩) | (go_at_call 28; (with_reducible refine (now0 hr3 hs (by omega) HCC.out).mono ?_); rintro e w' ⟨rfl, n3, rfl⟩) | (go_at_call 138; refine (no_any _).mono ?_; rintro e w' ⟨rfl, rfl⟩))
  exact ⟨rfl, PartPost.bad HT.out rfl (grown_trans (grown_trans (grown_trans hg1 (grown_trans (grown_drewN _ _ _) (grown_set _ ⟨b, 1, none⟩ _))) hg3) (grown_drewN _ _ _))⟩
set_option maxRecDepth 100000 in
set_option maxHeartbeats 2000000 in
theorem num_p_z2_many {b : Nat} {s : ByteArray} {a d c0 c1 m c : Nat} {l : Value} {w : World} (hr : Sc w b s a l) (hs : s.size ≤ 1000000) (ha : a < s.size) (hdg : digN (byteAt s a) = true) (hd : digL (rest s a) = d) (hc0 : byteAt s (a + d) = c0) (h46 : c0 = 46) (hc1 : byteAt s (a + d + 1) = c1) (hdg1 : digN c1 = true) (hm : digL (rest s (a + d + 1)) = m) (hc : byteAt s (a + (d + 1 + m)) = c) (hz1 : 1 < d) (hz2 : byteAt s a ≠ 48) (ho1 : 40 < d + m) :
    Calls Tryz.prog 81 #[.pointer (some ⟨b, 0, none⟩)] w (PartPost b s a l w) := by
  have hdl := digL_le (rest s a); rw [rest_len, hd] at hdl
  have hpt : pointL (rest s (a + d)) = true := by rw [point_rest, hc0, hc1, hdg1]; simp [h46]
  have hml := digL_le (rest s (a + d + 1)); rw [rest_len, hm] at hml
  have hlt1 : a + d < s.size := by
    rcases Nat.lt_or_ge (a + d) s.size with h | h
    · exact h
    · rw [(rest_nil h).2] at hc0; omega
  obtain ⟨hnl, hnc⟩ := num_point hd hpt hm
  have hnb := bad_rest hd hnl; rw [hnc, hc] at hnb
  have HT := Lib.hid (tok_num_bad ha hdg (by rw [hnb]; simp [hz1, hz2, ho1])); clear hnb
  obtain ⟨X, hX⟩ : ∃ X, X = bs ((rest s a).take d) := ⟨_, rfl⟩
  have HXB := Lib.hid hX
  have hXs : X.size = d := by rw [hX]; exact take_size (by omega)
  clear hX
  obtain ⟨Y, hY⟩ : ∃ Y, Y = bs ((rest s (a + d + 1)).take m) := ⟨_, rfl⟩
  have HYB := Lib.hid hY
  have hYs : Y.size = m := by rw [hY]; exact take_size (by omega)
  have HXY := Lib.hid (show X ++ { data := #[46] } ++ Y = bs ((rest s a).take (d + 1 + m)) by rw [HXB.out, hY]; exact bs_dot hlt1 (by omega))
  clear hY
  have g1 : (1 : Int) < (d : Int) := by omega
  have g2 : ∀ h : 0 < X.size, (((X[0].toNat : Nat) : Int) == 48) = false := fun h => by rw [bs_first HXB.out ha h]; exact beq_eq_false_iff_ne.2 (by omega)
  have e46 : ((c0 : Int) == 46) = true := by rw [h46]; rfl
  have g40 : (40 : Int) < (d : Int) + (m : Int) := by omega
  have HD := Lib.hid hd; have HC0 := Lib.hid hc0; clear hd hc0 hdg hnl hnc hpt
  have HC1 := Lib.hid hc1; have HG1 := Lib.hid hdg1; clear hc1 hdg1
  have HMM := Lib.hid hm; have HCC := Lib.hid (show byteAt s (a + d + 1 + m) = c by rw [show a + d + 1 + m = a + (d + 1 + m) by omega]; exact hc); clear hm hc
  have H46 := Lib.hid h46; clear h46
  go_enter Tryz.func81, Tryz.ntmps81
  go_wp2_with (first | (go_at_call 29; (with_reducible refine (run_digit_is hr hs (Nat.le_of_lt ha) HD.out HXB.out).mono ?_); rintro e w1 ⟨rfl, hr1, hg1⟩; have k1 := hr1.c1; have k2 := hr1.fr 1) | (go_at_call 28; (with_reducible refine (now0 hr1 hs (by omega) HC0.out).mono ?_); rintro e w' ⟨rfl, n0, rfl⟩) | (go_at_call 28; (with_reducible refine (now1 (hr1.drewN _) hs (by omega) HC1.out).mono ?_); rintro e w' ⟨rfl, n1, rfl⟩) | (go_at_call 80; (with_reducible refine (digit_is HG1.out).mono ?_); rintro e w' ⟨rfl, rfl⟩) | (go_at_call 29; go_must (refine (run_digit_is ((hr1.drewN _).set1 (a' := a + d + 1) (by simp)) hs (by omega) HMM.out HYB.out).mono ?_); rintro e w3 ⟨rfl, hr3, hg3⟩) | (go_at_call 28; (with_reducible refine (now0 hr3 hs (by omega) HCC.out).mono ?_); rintro e w' ⟨rfl, n3, rfl⟩) | (go_at_call 138; refine (no_any _).mono ?_; rintro e w' ⟨rfl, rfl⟩))
  exact ⟨rfl, PartPost.bad HT.out rfl (grown_trans (grown_trans (grown_trans hg1 (grown_trans (grown_drewN _ _ _) (grown_set _ ⟨b, 1, none⟩ _))) hg3) (grown_drewN _ _ _))⟩
set_option maxRecDepth 100000 in
set_option maxHeartbeats 2000000 in
theorem num_p_z2_dot {b : Nat} {s : ByteArray} {a d c0 c1 m c : Nat} {l : Value} {w : World} (hr : Sc w b s a l) (hs : s.size ≤ 1000000) (ha : a < s.size) (hdg : digN (byteAt s a) = true) (hd : digL (rest s a) = d) (hc0 : byteAt s (a + d) = c0) (h46 : c0 = 46) (hc1 : byteAt s (a + d + 1) = c1) (hdg1 : digN c1 = true) (hm : digL (rest s (a + d + 1)) = m) (hc : byteAt s (a + (d + 1 + m)) = c) (hz1 : 1 < d) (hz2 : byteAt s a ≠ 48) (ho1 : ¬ 40 < d + m) (ho2 : c = 46) :
    Calls Tryz.prog 81 #[.pointer (some ⟨b, 0, none⟩)] w (PartPost b s a l w) := by
  have hdl := digL_le (rest s a); rw [rest_len, hd] at hdl
  have hpt : pointL (rest s (a + d)) = true := by rw [point_rest, hc0, hc1, hdg1]; simp [h46]
  have hml := digL_le (rest s (a + d + 1)); rw [rest_len, hm] at hml
  have hlt1 : a + d < s.size := by
    rcases Nat.lt_or_ge (a + d) s.size with h | h
    · exact h
    · rw [(rest_nil h).2] at hc0; omega
  obtain ⟨hnl, hnc⟩ := num_point hd hpt hm
  have hnb := bad_rest hd hnl; rw [hnc, hc] at hnb
  have HT := Lib.hid (tok_num_bad ha hdg (by rw [hnb]; simp [hz1, hz2, ho1, ho2])); clear hnb
  obtain ⟨X, hX⟩ : ∃ X, X = bs ((rest s a).take d) := ⟨_, rfl⟩
  have HXB := Lib.hid hX
  have hXs : X.size = d := by rw [hX]; exact take_size (by omega)
  clear hX
  obtain ⟨Y, hY⟩ : ∃ Y, Y = bs ((rest s (a + d + 1)).take m) := ⟨_, rfl⟩
  have HYB := Lib.hid hY
  have hYs : Y.size = m := by rw [hY]; exact take_size (by omega)
  have HXY := Lib.hid (show X ++ { data := #[46] } ++ Y = bs ((rest s a).take (d + 1 + m)) by rw [HXB.out, hY]; exact bs_dot hlt1 (by omega))
  clear hY
  have g1 : (1 : Int) < (d : Int) := by omega
  have g2 : ∀ h : 0 < X.size, (((X[0].toNat : Nat) : Int) == 48) = false := fun h => by rw [bs_first HXB.out ha h]; exact beq_eq_false_iff_ne.2 (by omega)
  have e46 : ((c0 : Int) == 46) = true := by rw [h46]; rfl
  have f46 : ((c : Int) == 46) = true := by rw [ho2]; rfl
  have g40 : decide ((40 : Int) < (d : Int) + (m : Int)) = false := by simp; omega
  have HD := Lib.hid hd; have HC0 := Lib.hid hc0; clear hd hc0 hdg hnl hnc hpt
  have HC1 := Lib.hid hc1; have HG1 := Lib.hid hdg1; clear hc1 hdg1
  have HMM := Lib.hid hm; have HCC := Lib.hid (show byteAt s (a + d + 1 + m) = c by rw [show a + d + 1 + m = a + (d + 1 + m) by omega]; exact hc); clear hm hc
  have H46 := Lib.hid h46; clear h46
  have HO2 := Lib.hid ho2; clear ho2
  go_enter Tryz.func81, Tryz.ntmps81
  go_wp2_with (first | (go_at_call 29; (with_reducible refine (run_digit_is hr hs (Nat.le_of_lt ha) HD.out HXB.out).mono ?_); rintro e w1 ⟨rfl, hr1, hg1⟩; have k1 := hr1.c1; have k2 := hr1.fr 1) | (go_at_call 28; (with_reducible refine (now0 hr1 hs (by omega) HC0.out).mono ?_); rintro e w' ⟨rfl, n0, rfl⟩) | (go_at_call 28; (with_reducible refine (now1 (hr1.drewN _) hs (by omega) HC1.out).mono ?_); rintro e w' ⟨rfl, n1, rfl⟩) | (go_at_call 80; (with_reducible refine (digit_is HG1.out).mono ?_); rintro e w' ⟨rfl, rfl⟩) | (go_at_call 29; go_must (refine (run_digit_is ((hr1.drewN _).set1 (a' := a + d + 1) (by simp)) hs (by omega) HMM.out HYB.out).mono ?_); rintro e w3 ⟨rfl, hr3, hg3⟩) | (go_at_call 28; (with_reducible refine (now0 hr3 hs (by omega) HCC.out).mono ?_); rintro e w' ⟨rfl, n3, rfl⟩) | (go_at_call 138; refine (no_any _).mono ?_; rintro e w' ⟨rfl, rfl⟩))
  exact ⟨rfl, PartPost.bad HT.out rfl (grown_trans (grown_trans (grown_trans hg1 (grown_trans (grown_drewN _ _ _) (grown_set _ ⟨b, 1, none⟩ _))) hg3) (grown_drewN _ _ _))⟩
set_option maxRecDepth 100000 in
set_option maxHeartbeats 2000000 in
theorem num_p_z2_let {b : Nat} {s : ByteArray} {a d c0 c1 m c : Nat} {l : Value} {w : World} (hr : Sc w b s a l) (hs : s.size ≤ 1000000) (ha : a < s.size) (hdg : digN (byteAt s a) = true) (hd : digL (rest s a) = d) (hc0 : byteAt s (a + d) = c0) (h46 : c0 = 46) (hc1 : byteAt s (a + d + 1) = c1) (hdg1 : digN c1 = true) (hm : digL (rest s (a + d + 1)) = m) (hc : byteAt s (a + (d + 1 + m)) = c) (hz1 : 1 < d) (hz2 : byteAt s a ≠ 48) (ho1 : ¬ 40 < d + m) (ho2 : c ≠ 46) (ho3 : letN c = true) :
    Calls Tryz.prog 81 #[.pointer (some ⟨b, 0, none⟩)] w (PartPost b s a l w) := by
  have hdl := digL_le (rest s a); rw [rest_len, hd] at hdl
  have hpt : pointL (rest s (a + d)) = true := by rw [point_rest, hc0, hc1, hdg1]; simp [h46]
  have hml := digL_le (rest s (a + d + 1)); rw [rest_len, hm] at hml
  have hlt1 : a + d < s.size := by
    rcases Nat.lt_or_ge (a + d) s.size with h | h
    · exact h
    · rw [(rest_nil h).2] at hc0; omega
  obtain ⟨hnl, hnc⟩ := num_point hd hpt hm
  have hnb := bad_rest hd hnl; rw [hnc, hc] at hnb
  have HT := Lib.hid (tok_num_bad ha hdg (by rw [hnb]; simp [hz1, hz2, ho1, ho2, ho3])); clear hnb
  obtain ⟨X, hX⟩ : ∃ X, X = bs ((rest s a).take d) := ⟨_, rfl⟩
  have HXB := Lib.hid hX
  have hXs : X.size = d := by rw [hX]; exact take_size (by omega)
  clear hX
  obtain ⟨Y, hY⟩ : ∃ Y, Y = bs ((rest s (a + d + 1)).take m) := ⟨_, rfl⟩
  have HYB := Lib.hid hY
  have hYs : Y.size = m := by rw [hY]; exact take_size (by omega)
  have HXY := Lib.hid (show X ++ { data := #[46] } ++ Y = bs ((rest s a).take (d + 1 + m)) by rw [HXB.out, hY]; exact bs_dot hlt1 (by omega))
  clear hY
  have g1 : (1 : Int) < (d : Int) := by omega
  have g2 : ∀ h : 0 < X.size, (((X[0].toNat : Nat) : Int) == 48) = false := fun h => by rw [bs_first HXB.out ha h]; exact beq_eq_false_iff_ne.2 (by omega)
  have e46 : ((c0 : Int) == 46) = true := by rw [h46]; rfl
  have f46 : ((c : Int) == 46) = false := beq_eq_false_iff_ne.2 (by omega)
  have g40 : decide ((40 : Int) < (d : Int) + (m : Int)) = false := by simp; omega
  have HD := Lib.hid hd; have HC0 := Lib.hid hc0; clear hd hc0 hdg hnl hnc hpt
  have HC1 := Lib.hid hc1; have HG1 := Lib.hid hdg1; clear hc1 hdg1
  have HMM := Lib.hid hm; have HCC := Lib.hid (show byteAt s (a + d + 1 + m) = c by rw [show a + d + 1 + m = a + (d + 1 + m) by omega]; exact hc); clear hm hc
  have HL := Lib.hid ho3; clear ho3
  have H46 := Lib.hid h46; clear h46
  go_enter Tryz.func81, Tryz.ntmps81
  go_wp2_with (first | (go_at_call 29; (with_reducible refine (run_digit_is hr hs (Nat.le_of_lt ha) HD.out HXB.out).mono ?_); rintro e w1 ⟨rfl, hr1, hg1⟩; have k1 := hr1.c1; have k2 := hr1.fr 1) | (go_at_call 28; (with_reducible refine (now0 hr1 hs (by omega) HC0.out).mono ?_); rintro e w' ⟨rfl, n0, rfl⟩) | (go_at_call 28; (with_reducible refine (now1 (hr1.drewN _) hs (by omega) HC1.out).mono ?_); rintro e w' ⟨rfl, n1, rfl⟩) | (go_at_call 80; (with_reducible refine (digit_is HG1.out).mono ?_); rintro e w' ⟨rfl, rfl⟩) | (go_at_call 29; go_must (refine (run_digit_is ((hr1.drewN _).set1 (a' := a + d + 1) (by simp)) hs (by omega) HMM.out HYB.out).mono ?_); rintro e w3 ⟨rfl, hr3, hg3⟩) | (go_at_call 28; (with_reducible refine (now0 hr3 hs (by omega) HCC.out).mono ?_); rintro e w' ⟨rfl, n3, rfl⟩) | (go_at_call 78; (with_reducible refine (letter_is HL.out).mono ?_); rintro e w' ⟨rfl, rfl⟩) | (go_at_call 138; refine (no_any _).mono ?_; rintro e w' ⟨rfl, rfl⟩))
  exact ⟨rfl, PartPost.bad HT.out rfl (grown_trans (grown_trans (grown_trans hg1 (grown_trans (grown_drewN _ _ _) (grown_set _ ⟨b, 1, none⟩ _))) hg3) (grown_drewN _ _ _))⟩
set_option maxRecDepth 100000 in
set_option maxHeartbeats 2000000 in
theorem num_p_z2_good {b : Nat} {s : ByteArray} {a d c0 c1 m c : Nat} {l : Value} {w : World} (hr : Sc w b s a l) (hs : s.size ≤ 1000000) (ha : a < s.size) (hdg : digN (byteAt s a) = true) (hd : digL (rest s a) = d) (hc0 : byteAt s (a + d) = c0) (h46 : c0 = 46) (hc1 : byteAt s (a + d + 1) = c1) (hdg1 : digN c1 = true) (hm : digL (rest s (a + d + 1)) = m) (hc : byteAt s (a + (d + 1 + m)) = c) (hz1 : 1 < d) (hz2 : byteAt s a ≠ 48) (ho1 : ¬ 40 < d + m) (ho2 : c ≠ 46) (ho3 : letN c = false) :
    Calls Tryz.prog 81 #[.pointer (some ⟨b, 0, none⟩)] w (PartPost b s a l w) := by
  have hdl := digL_le (rest s a); rw [rest_len, hd] at hdl
  have hpt : pointL (rest s (a + d)) = true := by rw [point_rest, hc0, hc1, hdg1]; simp [h46]
  have hml := digL_le (rest s (a + d + 1)); rw [rest_len, hm] at hml
  have hlt1 : a + d < s.size := by
    rcases Nat.lt_or_ge (a + d) s.size with h | h
    · exact h
    · rw [(rest_nil h).2] at hc0; omega
  obtain ⟨hnl, hnc⟩ := num_point hd hpt hm
  have hnb := bad_rest hd hnl; rw [hnc, hc] at hnb
  have HT := Lib.hid (tok_num_good (k := 4) ha hdg (by rw [hnb]; simp [hz1, hz2, ho1, ho2, ho3]) hd hnl (by rw [hpt]; rfl)); clear hnb
  obtain ⟨X, hX⟩ : ∃ X, X = bs ((rest s a).take d) := ⟨_, rfl⟩
  have HXB := Lib.hid hX
  have hXs : X.size = d := by rw [hX]; exact take_size (by omega)
  clear hX
  obtain ⟨Y, hY⟩ : ∃ Y, Y = bs ((rest s (a + d + 1)).take m) := ⟨_, rfl⟩
  have HYB := Lib.hid hY
  have hYs : Y.size = m := by rw [hY]; exact take_size (by omega)
  have HXY := Lib.hid (show X ++ { data := #[46] } ++ Y = bs ((rest s a).take (d + 1 + m)) by rw [HXB.out, hY]; exact bs_dot hlt1 (by omega))
  clear hY
  have g1 : (1 : Int) < (d : Int) := by omega
  have g2 : ∀ h : 0 < X.size, (((X[0].toNat : Nat) : Int) == 48) = false := fun h => by rw [bs_first HXB.out ha h]; exact beq_eq_false_iff_ne.2 (by omega)
  have e46 : ((c0 : Int) == 46) = true := by rw [h46]; rfl
  have f46 : ((c : Int) == 46) = false := beq_eq_false_iff_ne.2 (by omega)
  have g40 : decide ((40 : Int) < (d : Int) + (m : Int)) = false := by simp; omega
  have HD := Lib.hid hd; have HC0 := Lib.hid hc0; clear hd hc0 hdg hnl hnc hpt
  have HC1 := Lib.hid hc1; have HG1 := Lib.hid hdg1; clear hc1 hdg1
  have HMM := Lib.hid hm; have HCC := Lib.hid (show byteAt s (a + d + 1 + m) = c by rw [show a + d + 1 + m = a + (d + 1 + m) by omega]; exact hc); clear hm hc
  have HL := Lib.hid ho3; clear ho3
  have H46 := Lib.hid h46; clear h46
  go_enter Tryz.func81, Tryz.ntmps81
  go_wp2_with (first | (go_at_call 29; (with_reducible refine (run_digit_is hr hs (Nat.le_of_lt ha) HD.out HXB.out).mono ?_); rintro e w1 ⟨rfl, hr1, hg1⟩; have k1 := hr1.c1; have k2 := hr1.fr 1) | (go_at_call 28; (with_reducible refine (now0 hr1 hs (by omega) HC0.out).mono ?_); rintro e w' ⟨rfl, n0, rfl⟩) | (go_at_call 28; (with_reducible refine (now1 (hr1.drewN _) hs (by omega) HC1.out).mono ?_); rintro e w' ⟨rfl, n1, rfl⟩) | (go_at_call 80; (with_reducible refine (digit_is HG1.out).mono ?_); rintro e w' ⟨rfl, rfl⟩) | (go_at_call 29; go_must (refine (run_digit_is ((hr1.drewN _).set1 (a' := a + d + 1) (by simp)) hs (by omega) HMM.out HYB.out).mono ?_); rintro e w3 ⟨rfl, hr3, hg3⟩) | (go_at_call 28; (with_reducible refine (now0 hr3 hs (by omega) HCC.out).mono ?_); rintro e w' ⟨rfl, n3, rfl⟩) | (go_at_call 78; (with_reducible refine (letter_is HL.out).mono ?_); rintro e w' ⟨rfl, rfl⟩))
  go_ret2
  exact PartPost.good HT.out rfl HXY.out (grown_trans (grown_trans (grown_trans hg1 (grown_trans (grown_drewN _ _ _) (grown_set _ ⟨b, 1, none⟩ _))) hg3) (grown_drewN _ _ _)) (by rw [show a + (d + 1 + m) = a + d + 1 + m by omega]; exact hr3.drewN _)
set_option maxRecDepth 100000 in
set_option maxHeartbeats 2000000 in
theorem num_p_z3_many {b : Nat} {s : ByteArray} {a d c0 c1 m c : Nat} {l : Value} {w : World} (hr : Sc w b s a l) (hs : s.size ≤ 1000000) (ha : a < s.size) (hdg : digN (byteAt s a) = true) (hd : digL (rest s a) = d) (hc0 : byteAt s (a + d) = c0) (h46 : c0 = 46) (hc1 : byteAt s (a + d + 1) = c1) (hdg1 : digN c1 = true) (hm : digL (rest s (a + d + 1)) = m) (hc : byteAt s (a + (d + 1 + m)) = c) (hz1 : ¬ 1 < d) (ho1 : 40 < d + m) :
    Calls Tryz.prog 81 #[.pointer (some ⟨b, 0, none⟩)] w (PartPost b s a l w) := by
  have hdl := digL_le (rest s a); rw [rest_len, hd] at hdl
  have hpt : pointL (rest s (a + d)) = true := by rw [point_rest, hc0, hc1, hdg1]; simp [h46]
  have hml := digL_le (rest s (a + d + 1)); rw [rest_len, hm] at hml
  have hlt1 : a + d < s.size := by
    rcases Nat.lt_or_ge (a + d) s.size with h | h
    · exact h
    · rw [(rest_nil h).2] at hc0; omega
  obtain ⟨hnl, hnc⟩ := num_point hd hpt hm
  have hnb := bad_rest hd hnl; rw [hnc, hc] at hnb
  have HT := Lib.hid (tok_num_bad ha hdg (by rw [hnb]; simp [hz1, ho1])); clear hnb
  obtain ⟨X, hX⟩ : ∃ X, X = bs ((rest s a).take d) := ⟨_, rfl⟩
  have HXB := Lib.hid hX
  have hXs : X.size = d := by rw [hX]; exact take_size (by omega)
  clear hX
  obtain ⟨Y, hY⟩ : ∃ Y, Y = bs ((rest s (a + d + 1)).take m) := ⟨_, rfl⟩
  have HYB := Lib.hid hY
  have hYs : Y.size = m := by rw [hY]; exact take_size (by omega)
  have HXY := Lib.hid (show X ++ { data := #[46] } ++ Y = bs ((rest s a).take (d + 1 + m)) by rw [HXB.out, hY]; exact bs_dot hlt1 (by omega))
  clear hY
  have g1 : decide ((1 : Int) < (d : Int)) = false := by simp; omega
  have e46 : ((c0 : Int) == 46) = true := by rw [h46]; rfl
  have g40 : (40 : Int) < (d : Int) + (m : Int) := by omega
  have HD := Lib.hid hd; have HC0 := Lib.hid hc0; clear hd hc0 hdg hnl hnc hpt
  have HC1 := Lib.hid hc1; have HG1 := Lib.hid hdg1; clear hc1 hdg1
  have HMM := Lib.hid hm; have HCC := Lib.hid (show byteAt s (a + d + 1 + m) = c by rw [show a + d + 1 + m = a + (d + 1 + m) by omega]; exact hc); clear hm hc
  have H46 := Lib.hid h46; clear h46
  go_enter Tryz.func81, Tryz.ntmps81
  go_wp2_with (first | (go_at_call 29; (with_reducible refine (run_digit_is hr hs (Nat.le_of_lt ha) HD.out HXB.out).mono ?_); rintro e w1 ⟨rfl, hr1, hg1⟩; have k1 := hr1.c1; have k2 := hr1.fr 1) | (go_at_call 28; (with_reducible refine (now0 hr1 hs (by omega) HC0.out).mono ?_); rintro e w' ⟨rfl, n0, rfl⟩) | (go_at_call 28; (with_reducible refine (now1 (hr1.drewN _) hs (by omega) HC1.out).mono ?_); rintro e w' ⟨rfl, n1, rfl⟩) | (go_at_call 80; (with_reducible refine (digit_is HG1.out).mono ?_); rintro e w' ⟨rfl, rfl⟩) | (go_at_call 29; go_must (refine (run_digit_is ((hr1.drewN _).set1 (a' := a + d + 1) (by simp)) hs (by omega) HMM.out HYB.out).mono ?_); rintro e w3 ⟨rfl, hr3, hg3⟩) | (go_at_call 28; (with_reducible refine (now0 hr3 hs (by omega) HCC.out).mono ?_); rintro e w' ⟨rfl, n3, rfl⟩) | (go_at_call 138; refine (no_any _).mono ?_; rintro e w' ⟨rfl, rfl⟩))
  exact ⟨rfl, PartPost.bad HT.out rfl (grown_trans (grown_trans (grown_trans hg1 (grown_trans (grown_drewN _ _ _) (grown_set _ ⟨b, 1, none⟩ _))) hg3) (grown_drewN _ _ _))⟩
set_option maxRecDepth 100000 in
set_option maxHeartbeats 2000000 in
theorem num_p_z3_dot {b : Nat} {s : ByteArray} {a d c0 c1 m c : Nat} {l : Value} {w : World} (hr : Sc w b s a l) (hs : s.size ≤ 1000000) (ha : a < s.size) (hdg : digN (byteAt s a) = true) (hd : digL (rest s a) = d) (hc0 : byteAt s (a + d) = c0) (h46 : c0 = 46) (hc1 : byteAt s (a + d + 1) = c1) (hdg1 : digN c1 = true) (hm : digL (rest s (a + d + 1)) = m) (hc : byteAt s (a + (d + 1 + m)) = c) (hz1 : ¬ 1 < d) (ho1 : ¬ 40 < d + m) (ho2 : c = 46) :
    Calls Tryz.prog 81 #[.pointer (some ⟨b, 0, none⟩)] w (PartPost b s a l w) := by
  have hdl := digL_le (rest s a); rw [rest_len, hd] at hdl
  have hpt : pointL (rest s (a + d)) = true := by rw [point_rest, hc0, hc1, hdg1]; simp [h46]
  have hml := digL_le (rest s (a + d + 1)); rw [rest_len, hm] at hml
  have hlt1 : a + d < s.size := by
    rcases Nat.lt_or_ge (a + d) s.size with h | h
    · exact h
    · rw [(rest_nil h).2] at hc0; omega
  obtain ⟨hnl, hnc⟩ := num_point hd hpt hm
  have hnb := bad_rest hd hnl; rw [hnc, hc] at hnb
  have HT := Lib.hid (tok_num_bad ha hdg (by rw [hnb]; simp [hz1, ho1, ho2])); clear hnb
  obtain ⟨X, hX⟩ : ∃ X, X = bs ((rest s a).take d) := ⟨_, rfl⟩
  have HXB := Lib.hid hX
  have hXs : X.size = d := by rw [hX]; exact take_size (by omega)
  clear hX
  obtain ⟨Y, hY⟩ : ∃ Y, Y = bs ((rest s (a + d + 1)).take m) := ⟨_, rfl⟩
  have HYB := Lib.hid hY
  have hYs : Y.size = m := by rw [hY]; exact take_size (by omega)
  have HXY := Lib.hid (show X ++ { data := #[46] } ++ Y = bs ((rest s a).take (d + 1 + m)) by rw [HXB.out, hY]; exact bs_dot hlt1 (by omega))
  clear hY
  have g1 : decide ((1 : Int) < (d : Int)) = false := by simp; omega
  have e46 : ((c0 : Int) == 46) = true := by rw [h46]; rfl
  have f46 : ((c : Int) == 46) = true := by rw [ho2]; rfl
  have g40 : decide ((40 : Int) < (d : Int) + (m : Int)) = false := by simp; omega
  have HD := Lib.hid hd; have HC0 := Lib.hid hc0; clear hd hc0 hdg hnl hnc hpt
  have HC1 := Lib.hid hc1; have HG1 := Lib.hid hdg1; clear hc1 hdg1
  have HMM := Lib.hid hm; have HCC := Lib.hid (show byteAt s (a + d + 1 + m) = c by rw [show a + d + 1 + m = a + (d + 1 + m) by omega]; exact hc); clear hm hc
  have H46 := Lib.hid h46; clear h46
  have HO2 := Lib.hid ho2; clear ho2
  go_enter Tryz.func81, Tryz.ntmps81
  go_wp2_with (first | (go_at_call 29; (with_reducible refine (run_digit_is hr hs (Nat.le_of_lt ha) HD.out HXB.out).mono ?_); rintro e w1 ⟨rfl, hr1, hg1⟩; have k1 := hr1.c1; have k2 := hr1.fr 1) | (go_at_call 28; (with_reducible refine (now0 hr1 hs (by omega) HC0.out).mono ?_); rintro e w' ⟨rfl, n0, rfl⟩) | (go_at_call 28; (with_reducible refine (now1 (hr1.drewN _) hs (by omega) HC1.out).mono ?_); rintro e w' ⟨rfl, n1, rfl⟩) | (go_at_call 80; (with_reducible refine (digit_is HG1.out).mono ?_); rintro e w' ⟨rfl, rfl⟩) | (go_at_call 29; go_must (refine (run_digit_is ((hr1.drewN _).set1 (a' := a + d + 1) (by simp)) hs (by omega) HMM.out HYB.out).mono ?_); rintro e w3 ⟨rfl, hr3, hg3⟩) | (go_at_call 28; (with_reducible refine (now0 hr3 hs (by omega) HCC.out).mono ?_); rintro e w' ⟨rfl, n3, rfl⟩) | (go_at_call 138; refine (no_any _).mono ?_; rintro e w' ⟨rfl, rfl⟩))
  exact ⟨rfl, PartPost.bad HT.out rfl (grown_trans (grown_trans (grown_trans hg1 (grown_trans (grown_drewN _ _ _) (grown_set _ ⟨b, 1, none⟩ _))) hg3) (grown_drewN _ _ _))⟩
set_option maxRecDepth 100000 in
set_option maxHeartbeats 2000000 in
theorem num_p_z3_let {b : Nat} {s : ByteArray} {a d c0 c1 m c : Nat} {l : Value} {w : World} (hr : Sc w b s a l) (hs : s.size ≤ 1000000) (ha : a < s.size) (hdg : digN (byteAt s a) = true) (hd : digL (rest s a) = d) (hc0 : byteAt s (a + d) = c0) (h46 : c0 = 46) (hc1 : byteAt s (a + d + 1) = c1) (hdg1 : digN c1 = true) (hm : digL (rest s (a + d + 1)) = m) (hc : byteAt s (a + (d + 1 + m)) = c) (hz1 : ¬ 1 < d) (ho1 : ¬ 40 < d + m) (ho2 : c ≠ 46) (ho3 : letN c = true) :
    Calls Tryz.prog 81 #[.pointer (some ⟨b, 0, none⟩)] w (PartPost b s a l w) := by
  have hdl := digL_le (rest s a); rw [rest_len, hd] at hdl
  have hpt : pointL (rest s (a + d)) = true := by rw [point_rest, hc0, hc1, hdg1]; simp [h46]
  have hml := digL_le (rest s (a + d + 1)); rw [rest_len, hm] at hml
  have hlt1 : a + d < s.size := by
    rcases Nat.lt_or_ge (a + d) s.size with h | h
    · exact h
    · rw [(rest_nil h).2] at hc0; omega
  obtain ⟨hnl, hnc⟩ := num_point hd hpt hm
  have hnb := bad_rest hd hnl; rw [hnc, hc] at hnb
  have HT := Lib.hid (tok_num_bad ha hdg (by rw [hnb]; simp [hz1, ho1, ho2, ho3])); clear hnb
  obtain ⟨X, hX⟩ : ∃ X, X = bs ((rest s a).take d) := ⟨_, rfl⟩
  have HXB := Lib.hid hX
  have hXs : X.size = d := by rw [hX]; exact take_size (by omega)
  clear hX
  obtain ⟨Y, hY⟩ : ∃ Y, Y = bs ((rest s (a + d + 1)).take m) := ⟨_, rfl⟩
  have HYB := Lib.hid hY
  have hYs : Y.size = m := by rw [hY]; exact take_size (by omega)
  have HXY := Lib.hid (show X ++ { data := #[46] } ++ Y = bs ((rest s a).take (d + 1 + m)) by rw [HXB.out, hY]; exact bs_dot hlt1 (by omega))
  clear hY
  have g1 : decide ((1 : Int) < (d : Int)) = false := by simp; omega
  have e46 : ((c0 : Int) == 46) = true := by rw [h46]; rfl
  have f46 : ((c : Int) == 46) = false := beq_eq_false_iff_ne.2 (by omega)
  have g40 : decide ((40 : Int) < (d : Int) + (m : Int)) = false := by simp; omega
  have HD := Lib.hid hd; have HC0 := Lib.hid hc0; clear hd hc0 hdg hnl hnc hpt
  have HC1 := Lib.hid hc1; have HG1 := Lib.hid hdg1; clear hc1 hdg1
  have HMM := Lib.hid hm; have HCC := Lib.hid (show byteAt s (a + d + 1 + m) = c by rw [show a + d + 1 + m = a + (d + 1 + m) by omega]; exact hc); clear hm hc
  have HL := Lib.hid ho3; clear ho3
  have H46 := Lib.hid h46; clear h46
  go_enter Tryz.func81, Tryz.ntmps81
  go_wp2_with (first | (go_at_call 29; (with_reducible refine (run_digit_is hr hs (Nat.le_of_lt ha) HD.out HXB.out).mono ?_); rintro e w1 ⟨rfl, hr1, hg1⟩; have k1 := hr1.c1; have k2 := hr1.fr 1) | (go_at_call 28; (with_reducible refine (now0 hr1 hs (by omega) HC0.out).mono ?_); rintro e w' ⟨rfl, n0, rfl⟩) | (go_at_call 28; (with_reducible refine (now1 (hr1.drewN _) hs (by omega) HC1.out).mono ?_); rintro e w' ⟨rfl, n1, rfl⟩) | (go_at_call 80; (with_reducible refine (digit_is HG1.out).mono ?_); rintro e w' ⟨rfl, rfl⟩) | (go_at_call 29; go_must (refine (run_digit_is ((hr1.drewN _).set1 (a' := a + d + 1) (by simp)) hs (by omega) HMM.out HYB.out).mono ?_); rintro e w3 ⟨rfl, hr3, hg3⟩) | (go_at_call 28; (with_reducible refine (now0 hr3 hs (by omega) HCC.out).mono ?_); rintro e w' ⟨rfl, n3, rfl⟩) | (go_at_call 78; (with_reducible refine (letter_is HL.out).mono ?_); rintro e w' ⟨rfl, rfl⟩) | (go_at_call 138; refine (no_any _).mono ?_; rintro e w' ⟨rfl, rfl⟩))
  exact ⟨rfl, PartPost.bad HT.out rfl (grown_trans (grown_trans (grown_trans hg1 (grown_trans (grown_drewN _ _ _) (grown_set _ ⟨b, 1, none⟩ _))) hg3) (grown_drewN _ _ _))⟩
set_option maxRecDepth 100000 in
set_option maxHeartbeats 2000000 in
theorem num_p_z3_good {b : Nat} {s : ByteArray} {a d c0 c1 m c : Nat} {l : Value} {w : World} (hr : Sc w b s a l) (hs : s.size ≤ 1000000) (ha : a < s.size) (hdg : digN (byteAt s a) = true) (hd : digL (rest s a) = d) (hc0 : byteAt s (a + d) = c0) (h46 : c0 = 46) (hc1 : byteAt s (a + d + 1) = c1) (hdg1 : digN c1 = true) (hm : digL (rest s (a + d + 1)) = m) (hc : byteAt s (a + (d + 1 + m)) = c) (hz1 : ¬ 1 < d) (ho1 : ¬ 40 < d + m) (ho2 : c ≠ 46) (ho3 : letN c = false) :
    Calls Tryz.prog 81 #[.pointer (some ⟨b, 0, none⟩)] w (PartPost b s a l w) := by
  have hdl := digL_le (rest s a); rw [rest_len, hd] at hdl
  have hpt : pointL (rest s (a + d)) = true := by rw [point_rest, hc0, hc1, hdg1]; simp [h46]
  have hml := digL_le (rest s (a + d + 1)); rw [rest_len, hm] at hml
  have hlt1 : a + d < s.size := by
    rcases Nat.lt_or_ge (a + d) s.size with h | h
    · exact h
    · rw [(rest_nil h).2] at hc0; omega
  obtain ⟨hnl, hnc⟩ := num_point hd hpt hm
  have hnb := bad_rest hd hnl; rw [hnc, hc] at hnb
  have HT := Lib.hid (tok_num_good (k := 4) ha hdg (by rw [hnb]; simp [hz1, ho1, ho2, ho3]) hd hnl (by rw [hpt]; rfl)); clear hnb
  obtain ⟨X, hX⟩ : ∃ X, X = bs ((rest s a).take d) := ⟨_, rfl⟩
  have HXB := Lib.hid hX
  have hXs : X.size = d := by rw [hX]; exact take_size (by omega)
  clear hX
  obtain ⟨Y, hY⟩ : ∃ Y, Y = bs ((rest s (a + d + 1)).take m) := ⟨_, rfl⟩
  have HYB := Lib.hid hY
  have hYs : Y.size = m := by rw [hY]; exact take_size (by omega)
  have HXY := Lib.hid (show X ++ { data := #[46] } ++ Y = bs ((rest s a).take (d + 1 + m)) by rw [HXB.out, hY]; exact bs_dot hlt1 (by omega))
  clear hY
  have g1 : decide ((1 : Int) < (d : Int)) = false := by simp; omega
  have e46 : ((c0 : Int) == 46) = true := by rw [h46]; rfl
  have f46 : ((c : Int) == 46) = false := beq_eq_false_iff_ne.2 (by omega)
  have g40 : decide ((40 : Int) < (d : Int) + (m : Int)) = false := by simp; omega
  have HD := Lib.hid hd; have HC0 := Lib.hid hc0; clear hd hc0 hdg hnl hnc hpt
  have HC1 := Lib.hid hc1; have HG1 := Lib.hid hdg1; clear hc1 hdg1
  have HMM := Lib.hid hm; have HCC := Lib.hid (show byteAt s (a + d + 1 + m) = c by rw [show a + d + 1 + m = a + (d + 1 + m) by omega]; exact hc); clear hm hc
  have HL := Lib.hid ho3; clear ho3
  have H46 := Lib.hid h46; clear h46
  go_enter Tryz.func81, Tryz.ntmps81
  go_wp2_with (first | (go_at_call 29; (with_reducible refine (run_digit_is hr hs (Nat.le_of_lt ha) HD.out HXB.out).mono ?_); rintro e w1 ⟨rfl, hr1, hg1⟩; have k1 := hr1.c1; have k2 := hr1.fr 1) | (go_at_call 28; (with_reducible refine (now0 hr1 hs (by omega) HC0.out).mono ?_); rintro e w' ⟨rfl, n0, rfl⟩) | (go_at_call 28; (with_reducible refine (now1 (hr1.drewN _) hs (by omega) HC1.out).mono ?_); rintro e w' ⟨rfl, n1, rfl⟩) | (go_at_call 80; (with_reducible refine (digit_is HG1.out).mono ?_); rintro e w' ⟨rfl, rfl⟩) | (go_at_call 29; go_must (refine (run_digit_is ((hr1.drewN _).set1 (a' := a + d + 1) (by simp)) hs (by omega) HMM.out HYB.out).mono ?_); rintro e w3 ⟨rfl, hr3, hg3⟩) | (go_at_call 28; (with_reducible refine (now0 hr3 hs (by omega) HCC.out).mono ?_); rintro e w' ⟨rfl, n3, rfl⟩) | (go_at_call 78; (with_reducible refine (letter_is HL.out).mono ?_); rintro e w' ⟨rfl, rfl⟩))
  go_ret2
  exact PartPost.good HT.out rfl HXY.out (grown_trans (grown_trans (grown_trans hg1 (grown_trans (grown_drewN _ _ _) (grown_set _ ⟨b, 1, none⟩ _))) hg3) (grown_drewN _ _ _)) (by rw [show a + (d + 1 + m) = a + d + 1 + m by omega]; exact hr3.drewN _)
set_option maxRecDepth 100000 in
set_option maxHeartbeats 2000000 in
theorem num_q1_z1_zero {b : Nat} {s : ByteArray} {a d c0 : Nat} {l : Value} {w : World} (hr : Sc w b s a l) (hs : s.size ≤ 1000000) (ha : a < s.size) (hdg : digN (byteAt s a) = true) (hd : digL (rest s a) = d) (hc0 : byteAt s (a + d) = c0) (h46 : c0 ≠ 46) (hz1 : 1 < d) (hz2 : byteAt s a = 48) :
    Calls Tryz.prog 81 #[.pointer (some ⟨b, 0, none⟩)] w (PartPost b s a l w) := by
  have hdl := digL_le (rest s a); rw [rest_len, hd] at hdl
  have hpt : pointL (rest s (a + d)) = false := by rw [point_rest, hc0]; simp [h46]
  obtain ⟨hnl, hnc⟩ := num_plain hd hpt
  have hnb := bad_rest hd hnl; rw [hnc, hc0] at hnb
  have HT := Lib.hid (tok_num_bad ha hdg (by rw [hnb]; simp [hz1, hz2, h46])); clear hnb
  obtain ⟨X, hX⟩ : ∃ X, X = bs ((rest s a).take d) := ⟨_, rfl⟩
  have HXB := Lib.hid hX
  have hXs : X.size = d := by rw [hX]; exact take_size (by omega)
  clear hX
  have g1 : (1 : Int) < (d : Int) := by omega
  have g2 : ∀ h : 0 < X.size, (((X[0].toNat : Nat) : Int) == 48) = true := fun h => by rw [bs_first HXB.out ha h, hz2]; rfl
  have e46 : ((c0 : Int) == 46) = false := beq_eq_false_iff_ne.2 (by omega)
  have HD := Lib.hid hd; have HC0 := Lib.hid hc0; clear hd hc0 hdg hnl hnc hpt
  have H46 := Lib.hid h46; clear h46
  have HZ2 := Lib.hid hz2; clear hz2
  go_enter Tryz.func81, Tryz.ntmps81
  go_wp2_with (first | (go_at_call 29; (with_reducible refine (run_digit_is hr hs (Nat.le_of_lt ha) HD.out HXB.out).mono ?_); rintro e w1 ⟨rfl, hr1, hg1⟩; have k1 := hr1.c1; have k2 := hr1.fr 1) | (go_at_call 28; (with_reducible refine (now0 hr1 hs (by omega) HC0.out).mono ?_); rintro e w' ⟨rfl, n0, rfl⟩) | (go_at_call 28; (with_reducible refine (now0 (hr1.drewN _) hs (by omega) HC0.out).mono ?_); rintro e w' ⟨rfl, n3, rfl⟩) | (go_at_call 138; refine (no_any _).mono ?_; rintro e w' ⟨rfl, rfl⟩))
  exact ⟨rfl, PartPost.bad HT.out rfl (grown_trans hg1 (grown_drewN _ _ _))⟩
set_option maxRecDepth 100000 in
set_option maxHeartbeats 2000000 in
theorem num_q1_z2_many {b : Nat} {s : ByteArray} {a d c0 : Nat} {l : Value} {w : World} (hr : Sc w b s a l) (hs : s.size ≤ 1000000) (ha : a < s.size) (hdg : digN (byteAt s a) = true) (hd : digL (rest s a) = d) (hc0 : byteAt s (a + d) = c0) (h46 : c0 ≠ 46) (hz1 : 1 < d) (hz2 : byteAt s a ≠ 48) (ho1 : 40 < d) :
    Calls Tryz.prog 81 #[.pointer (some ⟨b, 0, none⟩)] w (PartPost b s a l w) := by
  have hdl := digL_le (rest s a); rw [rest_len, hd] at hdl
  have hpt : pointL (rest s (a + d)) = false := by rw [point_rest, hc0]; simp [h46]
  obtain ⟨hnl, hnc⟩ := num_plain hd hpt
  have hnb := bad_rest hd hnl; rw [hnc, hc0] at hnb
  have HT := Lib.hid (tok_num_bad ha hdg (by rw [hnb]; simp [hz1, hz2, ho1, h46])); clear hnb
  obtain ⟨X, hX⟩ : ∃ X, X = bs ((rest s a).take d) := ⟨_, rfl⟩
  have HXB := Lib.hid hX
  have hXs : X.size = d := by rw [hX]; exact take_size (by omega)
  clear hX
  have g1 : (1 : Int) < (d : Int) := by omega
  have g2 : ∀ h : 0 < X.size, (((X[0].toNat : Nat) : Int) == 48) = false := fun h => by rw [bs_first HXB.out ha h]; exact beq_eq_false_iff_ne.2 (by omega)
  have e46 : ((c0 : Int) == 46) = false := beq_eq_false_iff_ne.2 (by omega)
  have g40 : (40 : Int) < (d : Int) := by omega
  have HD := Lib.hid hd; have HC0 := Lib.hid hc0; clear hd hc0 hdg hnl hnc hpt
  have H46 := Lib.hid h46; clear h46
  go_enter Tryz.func81, Tryz.ntmps81
  go_wp2_with (first | (go_at_call 29; (with_reducible refine (run_digit_is hr hs (Nat.le_of_lt ha) HD.out HXB.out).mono ?_); rintro e w1 ⟨rfl, hr1, hg1⟩; have k1 := hr1.c1; have k2 := hr1.fr 1) | (go_at_call 28; (with_reducible refine (now0 hr1 hs (by omega) HC0.out).mono ?_); rintro e w' ⟨rfl, n0, rfl⟩) | (go_at_call 28; (with_reducible refine (now0 (hr1.drewN _) hs (by omega) HC0.out).mono ?_); rintro e w' ⟨rfl, n3, rfl⟩) | (go_at_call 138; refine (no_any _).mono ?_; rintro e w' ⟨rfl, rfl⟩))
  exact ⟨rfl, PartPost.bad HT.out rfl (grown_trans hg1 (grown_drewN _ _ _))⟩
set_option maxRecDepth 100000 in
set_option maxHeartbeats 2000000 in
theorem num_q1_z2_let {b : Nat} {s : ByteArray} {a d c0 : Nat} {l : Value} {w : World} (hr : Sc w b s a l) (hs : s.size ≤ 1000000) (ha : a < s.size) (hdg : digN (byteAt s a) = true) (hd : digL (rest s a) = d) (hc0 : byteAt s (a + d) = c0) (h46 : c0 ≠ 46) (hz1 : 1 < d) (hz2 : byteAt s a ≠ 48) (ho1 : ¬ 40 < d) (ho3 : letN c0 = true) :
    Calls Tryz.prog 81 #[.pointer (some ⟨b, 0, none⟩)] w (PartPost b s a l w) := by
  have hdl := digL_le (rest s a); rw [rest_len, hd] at hdl
  have hpt : pointL (rest s (a + d)) = false := by rw [point_rest, hc0]; simp [h46]
  obtain ⟨hnl, hnc⟩ := num_plain hd hpt
  have hnb := bad_rest hd hnl; rw [hnc, hc0] at hnb
  have HT := Lib.hid (tok_num_bad ha hdg (by rw [hnb]; simp [hz1, hz2, ho1, ho3, h46])); clear hnb
  obtain ⟨X, hX⟩ : ∃ X, X = bs ((rest s a).take d) := ⟨_, rfl⟩
  have HXB := Lib.hid hX
  have hXs : X.size = d := by rw [hX]; exact take_size (by omega)
  clear hX
  have g1 : (1 : Int) < (d : Int) := by omega
  have g2 : ∀ h : 0 < X.size, (((X[0].toNat : Nat) : Int) == 48) = false := fun h => by rw [bs_first HXB.out ha h]; exact beq_eq_false_iff_ne.2 (by omega)
  have e46 : ((c0 : Int) == 46) = false := beq_eq_false_iff_ne.2 (by omega)
  have g40 : decide ((40 : Int) < (d : Int)) = false := by simp; omega
  have HD := Lib.hid hd; have HC0 := Lib.hid hc0; clear hd hc0 hdg hnl hnc hpt
  have HL := Lib.hid ho3; clear ho3
  have H46 := Lib.hid h46; clear h46
  go_enter Tryz.func81, Tryz.ntmps81
  go_wp2_with (first | (go_at_call 29; (with_reducible refine (run_digit_is hr hs (Nat.le_of_lt ha) HD.out HXB.out).mono ?_); rintro e w1 ⟨rfl, hr1, hg1⟩; have k1 := hr1.c1; have k2 := hr1.fr 1) | (go_at_call 28; (with_reducible refine (now0 hr1 hs (by omega) HC0.out).mono ?_); rintro e w' ⟨rfl, n0, rfl⟩) | (go_at_call 28; (with_reducible refine (now0 (hr1.drewN _) hs (by omega) HC0.out).mono ?_); rintro e w' ⟨rfl, n3, rfl⟩) | (go_at_call 78; (with_reducible refine (letter_is HL.out).mono ?_); rintro e w' ⟨rfl, rfl⟩) | (go_at_call 138; refine (no_any _).mono ?_; rintro e w' ⟨rfl, rfl⟩))
  exact ⟨rfl, PartPost.bad HT.out rfl (grown_trans hg1 (grown_drewN _ _ _))⟩
set_option maxRecDepth 100000 in
set_option maxHeartbeats 2000000 in
theorem num_q1_z2_good {b : Nat} {s : ByteArray} {a d c0 : Nat} {l : Value} {w : World} (hr : Sc w b s a l) (hs : s.size ≤ 1000000) (ha : a < s.size) (hdg : digN (byteAt s a) = true) (hd : digL (rest s a) = d) (hc0 : byteAt s (a + d) = c0) (h46 : c0 ≠ 46) (hz1 : 1 < d) (hz2 : byteAt s a ≠ 48) (ho1 : ¬ 40 < d) (ho3 : letN c0 = false) :
    Calls Tryz.prog 81 #[.pointer (some ⟨b, 0, none⟩)] w (PartPost b s a l w) := by
  have hdl := digL_le (rest s a); rw [rest_len, hd] at hdl
  have hpt : pointL (rest s (a + d)) = false := by rw [point_rest, hc0]; simp [h46]
  obtain ⟨hnl, hnc⟩ := num_plain hd hpt
  have hnb := bad_rest hd hnl; rw [hnc, hc0] at hnb
  have HT := Lib.hid (tok_num_good (k := 3) ha hdg (by rw [hnb]; simp [hz1, hz2, ho1, ho3, h46]) hd hnl (by rw [hpt]; rfl)); clear hnb
  obtain ⟨X, hX⟩ : ∃ X, X = bs ((rest s a).take d) := ⟨_, rfl⟩
  have HXB := Lib.hid hX
  have hXs : X.size = d := by rw [hX]; exact take_size (by omega)
  clear hX
  have g1 : (1 : Int) < (d : Int) := by omega
  have g2 : ∀ h : 0 < X.size, (((X[0].toNat : Nat) : Int) == 48) = false := fun h => by rw [bs_first HXB.out ha h]; exact beq_eq_false_iff_ne.2 (by omega)
  have e46 : ((c0 : Int) == 46) = false := beq_eq_false_iff_ne.2 (by omega)
  have g40 : decide ((40 : Int) < (d : Int)) = false := by simp; omega
  have HD := Lib.hid hd; have HC0 := Lib.hid hc0; clear hd hc0 hdg hnl hnc hpt
  have HL := Lib.hid ho3; clear ho3
  have H46 := Lib.hid h46; clear h46
  go_enter Tryz.func81, Tryz.ntmps81
  go_wp2_with (first | (go_at_call 29; (with_reducible refine (run_digit_is hr hs (Nat.le_of_lt ha) HD.out HXB.out).mono ?_); rintro e w1 ⟨rfl, hr1, hg1⟩; have k1 := hr1.c1; have k2 := hr1.fr 1) | (go_at_call 28; (with_reducible refine (now0 hr1 hs (by omega) HC0.out).mono ?_); rintro e w' ⟨rfl, n0, rfl⟩) | (go_at_call 28; (with_reducible refine (now0 (hr1.drewN _) hs (by omega) HC0.out).mono ?_); rintro e w' ⟨rfl, n3, rfl⟩) | (go_at_call 78; (with_reducible refine (letter_is HL.out).mono ?_); rintro e w' ⟨rfl, rfl⟩))
  go_ret2
  exact PartPost.good HT.out rfl HXB.out (grown_trans hg1 (grown_drewN _ _ _)) (by exact hr1.drewN _)
set_option maxRecDepth 100000 in
set_option maxHeartbeats 2000000 in
theorem num_q1_z3_let {b : Nat} {s : ByteArray} {a d c0 : Nat} {l : Value} {w : World} (hr : Sc w b s a l) (hs : s.size ≤ 1000000) (ha : a < s.size) (hdg : digN (byteAt s a) = true) (hd : digL (rest s a) = d) (hc0 : byteAt s (a + d) = c0) (h46 : c0 ≠ 46) (hz1 : ¬ 1 < d) (ho1 : ¬ 40 < d) (ho3 : letN c0 = true) :
    Calls Tryz.prog 81 #[.pointer (some ⟨b, 0, none⟩)] w (PartPost b s a l w) := by
  have hdl := digL_le (rest s a); rw [rest_len, hd] at hdl
  have hpt : pointL (rest s (a + d)) = false := by rw [point_rest, hc0]; simp [h46]
  obtain ⟨hnl, hnc⟩ := num_plain hd hpt
  have hnb := bad_rest hd hnl; rw [hnc, hc0] at hnb
  have HT := Lib.hid (tok_num_bad ha hdg (by rw [hnb]; simp [hz1, ho1, ho3, h46])); clear hnb
  obtain ⟨X, hX⟩ : ∃ X, X = bs ((rest s a).take d) := ⟨_, rfl⟩
  have HXB := Lib.hid hX
  have hXs : X.size = d := by rw [hX]; exact take_size (by omega)
  clear hX
  have g1 : decide ((1 : Int) < (d : Int)) = false := by simp; omega
  have e46 : ((c0 : Int) == 46) = false := beq_eq_false_iff_ne.2 (by omega)
  have g40 : decide ((40 : Int) < (d : Int)) = false := by simp; omega
  have HD := Lib.hid hd; have HC0 := Lib.hid hc0; clear hd hc0 hdg hnl hnc hpt
  have HL := Lib.hid ho3; clear ho3
  have H46 := Lib.hid h46; clear h46
  go_enter Tryz.func81, Tryz.ntmps81
  go_wp2_with (first | (go_at_call 29; (with_reducible refine (run_digit_is hr hs (Nat.le_of_lt ha) HD.out HXB.out).mono ?_); rintro e w1 ⟨rfl, hr1, hg1⟩; have k1 := hr1.c1; have k2 := hr1.fr 1) | (go_at_call 28; (with_reducible refine (now0 hr1 hs (by omega) HC0.out).mono ?_); rintro e w' ⟨rfl, n0, rfl⟩) | (go_at_call 28; (with_reducible refine (now0 (hr1.drewN _) hs (by omega) HC0.out).mono ?_); rintro e w' ⟨rfl, n3, rfl⟩) | (go_at_call 78; (with_reducible refine (letter_is HL.out).mono ?_); rintro e w' ⟨rfl, rfl⟩) | (go_at_call 138; refine (no_any _).mono ?_; rintro e w' ⟨rfl, rfl⟩))
  exact ⟨rfl, PartPost.bad HT.out rfl (grown_trans hg1 (grown_drewN _ _ _))⟩
set_option maxRecDepth 100000 in
set_option maxHeartbeats 2000000 in
theorem num_q1_z3_good {b : Nat} {s : ByteArray} {a d c0 : Nat} {l : Value} {w : World} (hr : Sc w b s a l) (hs : s.size ≤ 1000000) (ha : a < s.size) (hdg : digN (byteAt s a) = true) (hd : digL (rest s a) = d) (hc0 : byteAt s (a + d) = c0) (h46 : c0 ≠ 46) (hz1 : ¬ 1 < d) (ho1 : ¬ 40 < d) (ho3 : letN c0 = false) :
    Calls Tryz.prog 81 #[.pointer (some ⟨b, 0, none⟩)] w (PartPost b s a l w) := by
  have hdl := digL_le (rest s a); rw [rest_len, hd] at hdl
  have hpt : pointL (rest s (a + d)) = false := by rw [point_rest, hc0]; simp [h46]
  obtain ⟨hnl, hnc⟩ := num_plain hd hpt
  have hnb := bad_rest hd hnl; rw [hnc, hc0] at hnb
  have HT := Lib.hid (tok_num_good (k := 3) ha hdg (by rw [hnb]; simp [hz1, ho1, ho3, h46]) hd hnl (by rw [hpt]; rfl)); clear hnb
  obtain ⟨X, hX⟩ : ∃ X, X = bs ((rest s a).take d) := ⟨_, rfl⟩
  have HXB := Lib.hid hX
  have hXs : X.size = d := by rw [hX]; exact take_size (by omega)
  clear hX
  have g1 : decide ((1 : Int) < (d : Int)) = false := by simp; omega
  have e46 : ((c0 : Int) == 46) = false := beq_eq_false_iff_ne.2 (by omega)
  have g40 : decide ((40 : Int) < (d : Int)) = false := by simp; omega
  have HD := Lib.hid hd; have HC0 := Lib.hid hc0; clear hd hc0 hdg hnl hnc hpt
  have HL := Lib.hid ho3; clear ho3
  have H46 := Lib.hid h46; clear h46
  go_enter Tryz.func81, Tryz.ntmps81
  go_wp2_with (first | (go_at_call 29; (with_reducible refine (run_digit_is hr hs (Nat.le_of_lt ha) HD.out HXB.out).mono ?_); rintro e w1 ⟨rfl, hr1, hg1⟩; have k1 := hr1.c1; have k2 := hr1.fr 1) | (go_at_call 28; (with_reducible refine (now0 hr1 hs (by omega) HC0.out).mono ?_); rintro e w' ⟨rfl, n0, rfl⟩) | (go_at_call 28; (with_reducible refine (now0 (hr1.drewN _) hs (by omega) HC0.out).mono ?_); rintro e w' ⟨rfl, n3, rfl⟩) | (go_at_call 78; (with_reducible refine (letter_is HL.out).mono ?_); rintro e w' ⟨rfl, rfl⟩))
  go_ret2
  exact PartPost.good HT.out rfl HXB.out (grown_trans hg1 (grown_drewN _ _ _)) (by exact hr1.drewN _)
set_option maxRecDepth 100000 in
set_option maxHeartbeats 2000000 in
theorem num_q2_z1_zero {b : Nat} {s : ByteArray} {a d c0 c1 : Nat} {l : Value} {w : World} (hr : Sc w b s a l) (hs : s.size ≤ 1000000) (ha : a < s.size) (hdg : digN (byteAt s a) = true) (hd : digL (rest s a) = d) (hc0 : byteAt s (a + d) = c0) (h46 : c0 = 46) (hc1 : byteAt s (a + d + 1) = c1) (hdg1 : digN c1 = false) (hz1 : 1 < d) (hz2 : byteAt s a = 48) :
    Calls Tryz.prog 81 #[.pointer (some ⟨b, 0, none⟩)] w (PartPost b s a l w) := by
  have hdl := digL_le (rest s a); rw [rest_len, hd] at hdl
  have hpt : pointL (rest s (a + d)) = false := by rw [point_rest, hc0, hc1, hdg1]; simp [h46]
  obtain ⟨hnl, hnc⟩ := num_plain hd hpt
  have hnb := bad_rest hd hnl; rw [hnc, hc0] at hnb
  have HT := Lib.hid (tok_num_bad ha hdg (by rw [hnb]; simp [hz1, hz2, h46])); clear hnb
  obtain ⟨X, hX⟩ : ∃ X, X = bs ((rest s a).take d) := ⟨_, rfl⟩
  have HXB := Lib.hid hX
  have hXs : X.size = d := by rw [hX]; exact take_size (by omega)
  clear hX
  have g1 : (1 : Int) < (d : Int) := by omega
  have g2 : ∀ h : 0 < X.size, (((X[0].toNat : Nat) : Int) == 48) = true := fun h => by rw [bs_first HXB.out ha h, hz2]; rfl
  have e46 : ((c0 : Int) == 46) = true := by rw [h46]; rfl
  have HD := Lib.hid hd; have HC0 := Lib.hid hc0; clear hd hc0 hdg hnl hnc hpt
  have HC1 := Lib.hid hc1; have HG1 := Lib.hid hdg1; clear hc1 hdg1
  have H46 := Lib.hid h46; clear h46
  have HZ2 := Lib.hid hz2; clear hz2
  go_enter Tryz.func81, Tryz.ntmps81
  go_wp2_with (first | (go_at_call 29; (with_reducible refine (run_digit_is hr hs (Nat.le_of_lt ha) HD.out HXB.out).mono ?_); rintro e w1 ⟨rfl, hr1, hg1⟩; have k1 := hr1.c1; have k2 := hr1.fr 1) | (go_at_call 28; (with_reducible refine (now0 hr1 hs (by omega) HC0.out).mono ?_); rintro e w' ⟨rfl, n0, rfl⟩) | (go_at_call 28; (with_reducible refine (now1 (hr1.drewN _) hs (by omega) HC1.out).mono ?_); rintro e w' ⟨rfl, n1, rfl⟩) | (go_at_call 80; (with_reducible refine (digit_is HG1.out).mono ?_); rintro e w' ⟨rfl, rfl⟩) | (go_at_call 28; (with_reducible refine (now0 (hr1.drewN _) hs (by omega) HC0.out).mono ?_); rintro e w' ⟨rfl, n3, rfl⟩) | (go_at_call 138; refine (no_any _).mono ?_; rintro e w' ⟨rfl, rfl⟩))
  exact ⟨rfl, PartPost.bad HT.out rfl (grown_trans hg1 (grown_drewN _ _ _))⟩
set_option maxRecDepth 100000 in
set_option maxHeartbeats 2000000 in
theorem num_q2_z2_many {b : Nat} {s : ByteArray} {a d c0 c1 : Nat} {l : Value} {w : World} (hr : Sc w b s a l) (hs : s.size ≤ 1000000) (ha : a < s.size) (hdg : digN (byteAt s a) = true) (hd : digL (rest s a) = d) (hc0 : byteAt s (a + d) = c0) (h46 : c0 = 46) (hc1 : byteAt s (a + d + 1) = c1) (hdg1 : digN c1 = false) (hz1 : 1 < d) (hz2 : byteAt s a ≠ 48) (ho1 : 40 < d) :
    Calls Tryz.prog 81 #[.pointer (some ⟨b, 0, none⟩)] w (PartPost b s a l w) := by
  have hdl := digL_le (rest s a); rw [rest_len, hd] at hdl
  have hpt : pointL (rest s (a + d)) = false := by rw [point_rest, hc0, hc1, hdg1]; simp [h46]
  obtain ⟨hnl, hnc⟩ := num_plain hd hpt
  have hnb := bad_rest hd hnl; rw [hnc, hc0] at hnb
  have HT := Lib.hid (tok_num_bad ha hdg (by rw [hnb]; simp [hz1, hz2, ho1, h46])); clear hnb
  obtain ⟨X, hX⟩ : ∃ X, X = bs ((rest s a).take d) := ⟨_, rfl⟩
  have HXB := Lib.hid hX
  have hXs : X.size = d := by rw [hX]; exact take_size (by omega)
  clear hX
  have g1 : (1 : Int) < (d : Int) := by omega
  have g2 : ∀ h : 0 < X.size, (((X[0].toNat : Nat) : Int) == 48) = false := fun h => by rw [bs_first HXB.out ha h]; exact beq_eq_false_iff_ne.2 (by omega)
  have e46 : ((c0 : Int) == 46) = true := by rw [h46]; rfl
  have g40 : (40 : Int) < (d : Int) := by omega
  have HD := Lib.hid hd; have HC0 := Lib.hid hc0; clear hd hc0 hdg hnl hnc hpt
  have HC1 := Lib.hid hc1; have HG1 := Lib.hid hdg1; clear hc1 hdg1
  have H46 := Lib.hid h46; clear h46
  go_enter Tryz.func81, Tryz.ntmps81
  go_wp2_with (first | (go_at_call 29; (with_reducible refine (run_digit_is hr hs (Nat.le_of_lt ha) HD.out HXB.out).mono ?_); rintro e w1 ⟨rfl, hr1, hg1⟩; have k1 := hr1.c1; have k2 := hr1.fr 1) | (go_at_call 28; (with_reducible refine (now0 hr1 hs (by omega) HC0.out).mono ?_); rintro e w' ⟨rfl, n0, rfl⟩) | (go_at_call 28; (with_reducible refine (now1 (hr1.drewN _) hs (by omega) HC1.out).mono ?_); rintro e w' ⟨rfl, n1, rfl⟩) | (go_at_call 80; (with_reducible refine (digit_is HG1.out).mono ?_); rintro e w' ⟨rfl, rfl⟩) | (go_at_call 28; (with_reducible refine (now0 (hr1.drewN _) hs (by omega) HC0.out).mono ?_); rintro e w' ⟨rfl, n3, rfl⟩) | (go_at_call 138; refine (no_any _).mono ?_; rintro e w' ⟨rfl, rfl⟩))
  exact ⟨rfl, PartPost.bad HT.out rfl (grown_trans hg1 (grown_drewN _ _ _))⟩
set_option maxRecDepth 100000 in
set_option maxHeartbeats 2000000 in
theorem num_q2_z2_dot {b : Nat} {s : ByteArray} {a d c0 c1 : Nat} {l : Value} {w : World} (hr : Sc w b s a l) (hs : s.size ≤ 1000000) (ha : a < s.size) (hdg : digN (byteAt s a) = true) (hd : digL (rest s a) = d) (hc0 : byteAt s (a + d) = c0) (h46 : c0 = 46) (hc1 : byteAt s (a + d + 1) = c1) (hdg1 : digN c1 = false) (hz1 : 1 < d) (hz2 : byteAt s a ≠ 48) (ho1 : ¬ 40 < d) :
    Calls Tryz.prog 81 #[.pointer (some ⟨b, 0, none⟩)] w (PartPost b s a l w) := by
  have hdl := digL_le (rest s a); rw [rest_len, hd] at hdl
  have hpt : pointL (rest s (a + d)) = false := by rw [point_rest, hc0, hc1, hdg1]; simp [h46]
  obtain ⟨hnl, hnc⟩ := num_plain hd hpt
  have hnb := bad_rest hd hnl; rw [hnc, hc0] at hnb
  have HT := Lib.hid (tok_num_bad ha hdg (by rw [hnb]; simp [hz1, hz2, ho1, h46])); clear hnb
  obtain ⟨X, hX⟩ : ∃ X, X = bs ((rest s a).take d) := ⟨_, rfl⟩
  have HXB := Lib.hid hX
  have hXs : X.size = d := by rw [hX]; exact take_size (by omega)
  clear hX
  have g1 : (1 : Int) < (d : Int) := by omega
  have g2 : ∀ h : 0 < X.size, (((X[0].toNat : Nat) : Int) == 48) = false := fun h => by rw [bs_first HXB.out ha h]; exact beq_eq_false_iff_ne.2 (by omega)
  have e46 : ((c0 : Int) == 46) = true := by rw [h46]; rfl
  have g40 : decide ((40 : Int) < (d : Int)) = false := by simp; omega
  have HD := Lib.hid hd; have HC0 := Lib.hid hc0; clear hd hc0 hdg hnl hnc hpt
  have HC1 := Lib.hid hc1; have HG1 := Lib.hid hdg1; clear hc1 hdg1
  have H46 := Lib.hid h46; clear h46
  go_enter Tryz.func81, Tryz.ntmps81
  go_wp2_with (first | (go_at_call 29; (with_reducible refine (run_digit_is hr hs (Nat.le_of_lt ha) HD.out HXB.out).mono ?_); rintro e w1 ⟨rfl, hr1, hg1⟩; have k1 := hr1.c1; have k2 := hr1.fr 1) | (go_at_call 28; (with_reducible refine (now0 hr1 hs (by omega) HC0.out).mono ?_); rintro e w' ⟨rfl, n0, rfl⟩) | (go_at_call 28; (with_reducible refine (now1 (hr1.drewN _) hs (by omega) HC1.out).mono ?_); rintro e w' ⟨rfl, n1, rfl⟩) | (go_at_call 80; (with_reducible refine (digit_is HG1.out).mono ?_); rintro e w' ⟨rfl, rfl⟩) | (go_at_call 28; (with_reducible refine (now0 (hr1.drewN _) hs (by omega) HC0.out).mono ?_); rintro e w' ⟨rfl, n3, rfl⟩) | (go_at_call 138; refine (no_any _).mono ?_; rintro e w' ⟨rfl, rfl⟩))
  exact ⟨rfl, PartPost.bad HT.out rfl (grown_trans hg1 (grown_drewN _ _ _))⟩
set_option maxRecDepth 100000 in
set_option maxHeartbeats 2000000 in
theorem num_q2_z3_dot {b : Nat} {s : ByteArray} {a d c0 c1 : Nat} {l : Value} {w : World} (hr : Sc w b s a l) (hs : s.size ≤ 1000000) (ha : a < s.size) (hdg : digN (byteAt s a) = true) (hd : digL (rest s a) = d) (hc0 : byteAt s (a + d) = c0) (h46 : c0 = 46) (hc1 : byteAt s (a + d + 1) = c1) (hdg1 : digN c1 = false) (hz1 : ¬ 1 < d) (ho1 : ¬ 40 < d) :
    Calls Tryz.prog 81 #[.pointer (some ⟨b, 0, none⟩)] w (PartPost b s a l w) := by
  have hdl := digL_le (rest s a); rw [rest_len, hd] at hdl
  have hpt : pointL (rest s (a + d)) = false := by rw [point_rest, hc0, hc1, hdg1]; simp [h46]
  obtain ⟨hnl, hnc⟩ := num_plain hd hpt
  have hnb := bad_rest hd hnl; rw [hnc, hc0] at hnb
  have HT := Lib.hid (tok_num_bad ha hdg (by rw [hnb]; simp [hz1, ho1, h46])); clear hnb
  obtain ⟨X, hX⟩ : ∃ X, X = bs ((rest s a).take d) := ⟨_, rfl⟩
  have HXB := Lib.hid hX
  have hXs : X.size = d := by rw [hX]; exact take_size (by omega)
  clear hX
  have g1 : decide ((1 : Int) < (d : Int)) = false := by simp; omega
  have e46 : ((c0 : Int) == 46) = true := by rw [h46]; rfl
  have g40 : decide ((40 : Int) < (d : Int)) = false := by simp; omega
  have HD := Lib.hid hd; have HC0 := Lib.hid hc0; clear hd hc0 hdg hnl hnc hpt
  have HC1 := Lib.hid hc1; have HG1 := Lib.hid hdg1; clear hc1 hdg1
  have H46 := Lib.hid h46; clear h46
  go_enter Tryz.func81, Tryz.ntmps81
  go_wp2_with (first | (go_at_call 29; (with_reducible refine (run_digit_is hr hs (Nat.le_of_lt ha) HD.out HXB.out).mono ?_); rintro e w1 ⟨rfl, hr1, hg1⟩; have k1 := hr1.c1; have k2 := hr1.fr 1) | (go_at_call 28; (with_reducible refine (now0 hr1 hs (by omega) HC0.out).mono ?_); rintro e w' ⟨rfl, n0, rfl⟩) | (go_at_call 28; (with_reducible refine (now1 (hr1.drewN _) hs (by omega) HC1.out).mono ?_); rintro e w' ⟨rfl, n1, rfl⟩) | (go_at_call 80; (with_reducible refine (digit_is HG1.out).mono ?_); rintro e w' ⟨rfl, rfl⟩) | (go_at_call 28; (with_reducible refine (now0 (hr1.drewN _) hs (by omega) HC0.out).mono ?_); rintro e w' ⟨rfl, n3, rfl⟩) | (go_at_call 138; refine (no_any _).mono ?_; rintro e w' ⟨rfl, rfl⟩))
  exact ⟨rfl, PartPost.bad HT.out rfl (grown_trans hg1 (grown_drewN _ _ _))⟩
/-- a number -/
theorem number_any {b : Nat} {s : ByteArray} {a : Nat} {l : Value} {w : World} (hr : Sc w b s a l) (hs : s.size ≤ 1000000) (ha : a < s.size) (hdg : digN (byteAt s a) = true) :
    Calls Tryz.prog 81 #[.pointer (some ⟨b, 0, none⟩)] w (PartPost b s a l w) := by
  obtain ⟨d, hd⟩ : ∃ d, digL (rest s a) = d := ⟨_, rfl⟩
  by_cases h46 : byteAt s (a + d) = 46
  · cases hp2 : digN (byteAt s (a + d + 1)) with
    | true =>
      obtain ⟨m, hm⟩ : ∃ m, digL (rest s (a + d + 1)) = m := ⟨_, rfl⟩
      by_cases hz1 : 1 < d
      · by_cases hz2 : byteAt s a = 48
        · exact num_p_z1_zero hr hs ha hdg hd rfl h46 rfl hp2 hm rfl hz1 hz2
        · by_cases ho1 : 40 < d + m
          · exact num_p_z2_many hr hs ha hdg hd rfl h46 rfl hp2 hm rfl hz1 hz2 ho1
          · by_cases ho2 : byteAt s (a + (d + 1 + m)) = 46
            · exact num_p_z2_dot hr hs ha hdg hd rfl h46 rfl hp2 hm rfl hz1 hz2 ho1 ho2
            · cases ho3 : letN (byteAt s (a + (d + 1 + m))) with
              | true => exact num_p_z2_let hr hs ha hdg hd rfl h46 rfl hp2 hm rfl hz1 hz2 ho1 ho2 ho3
              | false => exact num_p_z2_good hr hs ha hdg hd rfl h46 rfl hp2 hm rfl hz1 hz2 ho1 ho2 ho3
      · by_cases ho1 : 40 < d + m
        · exact num_p_z3_many hr hs ha hdg hd rfl h46 rfl hp2 hm rfl hz1 ho1
        · by_cases ho2 : byteAt s (a + (d + 1 + m)) = 46
          · exact num_p_z3_dot hr hs ha hdg hd rfl h46 rfl hp2 hm rfl hz1 ho1 ho2
          · cases ho3 : letN (byteAt s (a + (d + 1 + m))) with
            | true => exact num_p_z3_let hr hs ha hdg hd rfl h46 rfl hp2 hm rfl hz1 ho1 ho2 ho3
            | false => exact num_p_z3_good hr hs ha hdg hd rfl h46 rfl hp2 hm rfl hz1 ho1 ho2 ho3
    | false =>
      by_cases hz1 : 1 < d
      · by_cases hz2 : byteAt s a = 48
        · exact num_q2_z1_zero hr hs ha hdg hd rfl h46 rfl hp2 hz1 hz2
        · by_cases ho1 : 40 < d
          · exact num_q2_z2_many hr hs ha hdg hd rfl h46 rfl hp2 hz1 hz2 ho1
          · exact num_q2_z2_dot hr hs ha hdg hd rfl h46 rfl hp2 hz1 hz2 ho1
      · by_cases ho1 : 40 < d
        · exact absurd ho1 (by omega)
        · exact num_q2_z3_dot hr hs ha hdg hd rfl h46 rfl hp2 hz1 ho1
  · skip
    by_cases hz1 : 1 < d
    · by_cases hz2 : byteAt s a = 48
      · exact num_q1_z1_zero hr hs ha hdg hd rfl h46 hz1 hz2
      · by_cases ho1 : 40 < d
        · exact num_q1_z2_many hr hs ha hdg hd rfl h46 hz1 hz2 ho1
        · cases ho3 : letN (byteAt s (a + d)) with
          | true => exact num_q1_z2_let hr hs ha hdg hd rfl h46 hz1 hz2 ho1 ho3
          | false => exact num_q1_z2_good hr hs ha hdg hd rfl h46 hz1 hz2 ho1 ho3
    · by_cases ho1 : 40 < d
      · exact absurd ho1 (by omega)
      · cases ho3 : letN (byteAt s (a + d)) with
        | true => exact num_q1_z3_let hr hs ha hdg hd rfl h46 hz1 ho1 ho3
        | false => exact num_q1_z3_good hr hs ha hdg hd rfl h46 hz1 ho1 ho3
end Go.Proofs.YtopbhopblpfjpaaGreatDoor.ScanE
