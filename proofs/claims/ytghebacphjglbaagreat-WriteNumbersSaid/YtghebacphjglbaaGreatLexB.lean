/- The lexer's loops, walked: names, lines, strings of actions. -/
import Derived.Test.YtghebacphjglbaaGreatLexA
import Derived.Deep.LoopGhost
namespace Go.Proofs.YtghebacphjglbaaGreat.LexB
open Go.RowKit Go.Proofs.YtghebacphjglbaaGreat.Lexy Go.Proofs.YtghebacphjglbaaGreat.LexA

/-- what is left of a text from a place on -/
def rest (s : ByteArray) (a : Nat) : List UInt8 := s.data.toList.drop a
theorem rest_cons {s : ByteArray} {a : Nat} (h : a < s.size) : ∃ c, rest s a = c :: rest s (a + 1) ∧ byteAt s a = c.toNat := by
  have h' : a < s.data.toList.length := by simpa using h
  refine ⟨s.data.toList[a], ?_, ?_⟩
  · unfold rest; exact List.drop_eq_getElem_cons h'
  · unfold byteAt; rw [dif_pos h]; rfl
theorem rest_nil {s : ByteArray} {a : Nat} (h : s.size ≤ a) : rest s a = [] ∧ byteAt s a = 0 := by
  constructor
  · unfold rest; exact List.drop_eq_nil_of_le (by simpa using h)
  · unfold byteAt; rw [dif_neg (by omega)]
theorem rest_len (s : ByteArray) (a : Nat) : (rest s a).length = s.size - a := by simp [rest]
theorem rest_drop (s : ByteArray) (a n : Nat) : (rest s a).drop n = rest s (a + n) := by simp [rest, List.drop_drop]
theorem run_le (s : ByteArray) (a : Nat) : runL (rest s a) ≤ s.size - a := by have := runL_le (rest s a); rwa [rest_len] at this
theorem over_le (s : ByteArray) (a : Nat) : overL (rest s a) ≤ s.size - a := by have := overL_le (rest s a); rwa [rest_len] at this

set_option maxHeartbeats 400000 in
theorem line_any {b : Nat} {s : ByteArray} {a : Nat} {l : Value} {o : Int} {w : World} (hr : Rd w b s a l o) (hs : s.size ≤ 1000000) (ha : a ≤ s.size) :
    Calls Tryz.prog 97 #[.pointer (some ⟨b, 0, none⟩)] w fun e w' => e = .returned (.tuple #[]) ∧ Rd w' b s (a + overL (rest s a)) l o ∧ w.grownBy w' (some b) := by
  have hw := World.grownBy.refl w (some b)
  go_enter Tryz.func97, Tryz.ntmps97
  go_wp2
  go_loopg [] (s.size - a) (fun g wr => ∃ k, a ≤ k ∧ k ≤ s.size ∧ g = s.size - k ∧ k + overL (rest s k) = a + overL (rest s a) ∧ Rd wr b s k l o ∧ w.grownBy wr (some b))
  case atStart => exact ⟨a, Nat.le_refl _, ha, rfl, rfl, hr, hw⟩
  case round =>
    obtain ⟨k, hk1, hk2, rfl, hov, hrk, hgk⟩ := hrel
    have HO := Lib.hid hov; clear hov
    have c0 := hrk.c0; have c1 := hrk.c1; have f1 := hrk.fr 1
    by_cases hlt : k < s.size
    · obtain ⟨c, hc1, hc2⟩ := rest_cons hlt
      have HC1 := Lib.hid hc1; have HC2 := Lib.hid hc2; clear hc1 hc2
      have hget : byteAt s k = s[k].toNat := by unfold byteAt; rw [dif_pos hlt]
      by_cases h10 : byteAt s k = 10
      · have e1 : (((s[k].toNat : Nat) : Int) != 10) = false := by rw [← hget, h10]; rfl
        have HG := Lib.hid hget; have H10 := Lib.hid h10; clear hget h10
        go_wp2
        go_quiet ((go_at_call 94; exact Calls.quiet_of (more_t (hrk.drewN _) hs hlt)))
        go_wp2
        go_end0
        have hz : overL (rest s k) = 0 := by rw [HC1.out]; simp [overL, ← HC2.out, H10.out]
        exact ⟨rfl, by rw [← HO.out, hz]; exact hrk, grown_trans hgk (grown_drewN _ _ _)⟩
      · have e1 : (((s[k].toNat : Nat) : Int) != 10) = true := by rw [← hget, bne_iff_ne]; omega
        have HG := Lib.hid hget; have H10 := Lib.hid h10; clear hget h10
        go_wp2
        go_quiet ((go_at_call 94; exact Calls.quiet_of (more_t (hrk.drewN _) hs hlt)))
        go_wp2
        have hz : overL (rest s k) = overL (rest s (k + 1)) + 1 := by rw [HC1.out, overL, if_neg (by rw [← HC2.out]; exact H10.out)]
        go_roundg (s.size - (k + 1))
        case measure => omega
        case rel => exact ⟨k + 1, by omega, by omega, rfl, by have := HO.out; omega, (hrk.drewN _).set1 (by simp), grown_trans hgk (grown_trans (grown_drewN _ _ _) (grown_set _ ⟨b, 1, none⟩ _))⟩
    · obtain rfl : s.size = k := by omega
      go_wp2
      go_quiet ((go_at_call 94; exact Calls.quiet_of (more_f (hrk.drewN _) hs)))
      go_wp2
      go_end0
      have hz : overL (rest s s.size) = 0 := by rw [(rest_nil (Nat.le_refl _)).1]; rfl
      exact ⟨rfl, by rw [← HO.out, hz]; exact hrk, grown_trans hgk (grown_drewN _ _ _)⟩

theorem run_step {s : ByteArray} {k : Nat} (h : ldN (byteAt s k) = true) : k < s.size ∧ runL (rest s k) = runL (rest s (k + 1)) + 1 := by
  by_cases hlt : k < s.size
  · obtain ⟨c, h1, h2⟩ := rest_cons hlt
    exact ⟨hlt, by rw [h1, runL, ← h2, if_pos h]⟩
  · rw [(rest_nil (by omega)).2] at h; exact absurd h (by decide)
theorem run_stop {s : ByteArray} {k : Nat} (h : ldN (byteAt s k) = false) : runL (rest s k) = 0 := by
  by_cases hlt : k < s.size
  · obtain ⟨c, h1, h2⟩ := rest_cons hlt
    rw [h1, runL, ← h2, h]; rfl
  · rw [(rest_nil (by omega)).1]; rfl

theorem ret_str {a b : ByteArray} (h : a = b) : Ending.returned (.string a) = .returned (.string b) := by rw [h]

set_option maxHeartbeats 400000 in
theorem name_any {b : Nat} {s : ByteArray} {a : Nat} {l : Value} {o : Int} {w : World} (hr : Rd w b s a l o) (hs : s.size ≤ 1000000) (ha : a ≤ s.size) :
    Calls Tryz.prog 109 #[.pointer (some ⟨b, 0, none⟩)] w fun e w' =>
      e = .returned (.string (s.extract a (a + runL (rest s a)))) ∧ Rd w' b s (a + runL (rest s a)) l o ∧ w.grownBy w' (some b) := by
  have hw := World.grownBy.refl w (some b)
  have cc1 := hr.c1
  go_enter Tryz.func109, Tryz.ntmps109
  go_wp2
  clear cc1
  go_loopg [] (s.size - a) (fun g wr => ∃ k, a ≤ k ∧ k ≤ s.size ∧ g = s.size - k ∧ k + runL (rest s k) = a + runL (rest s a) ∧ Rd wr b s k l o ∧ w.grownBy wr (some b))
  case atStart => exact ⟨a, Nat.le_refl _, ha, rfl, rfl, hr, hw⟩
  case round =>
    obtain ⟨k, hk1, hk2, rfl, hov, hrk, hgk⟩ := hrel
    have HO := Lib.hid hov; clear hov
    have c0 := hrk.c0; have c1 := hrk.c1; have f1 := hrk.fr 1
    by_cases hl : letN (byteAt s k) = true
    · have hst := run_step (s := s) (k := k) (by simp [ldN, hl])
      have hlt := hst.1
      have HS := Lib.hid hst.2; clear hst
      have HL := Lib.hid hl; clear hl
      go_wp2_with (first | (go_at_call 95; (with_reducible refine (now0 (hrk.drewN _) hs hk2).mono ?_); rintro e w' ⟨rfl, n0, rfl⟩) | (go_at_call 95; (with_reducible refine (now0 hrk hs hk2).mono ?_); rintro e w' ⟨rfl, n0, rfl⟩) | (go_at_call 108; refine (letter_t HL.out).mono ?_; rintro e w' ⟨rfl, rfl⟩))
      go_roundg (s.size - (k + 1))
      case measure => omega
      case rel => exact ⟨k + 1, by omega, by omega, rfl, by have := HO.out; have := HS.out; omega, (hrk.drewN _).set1 (by simp), grown_trans hgk (grown_trans (grown_drewN _ _ _) (grown_set _ ⟨b, 1, none⟩ _))⟩
    · have hl' : letN (byteAt s k) = false := by simpa using hl
      clear hl
      by_cases hd : digN (byteAt s k) = true
      · have hst := run_step (s := s) (k := k) (by simp [ldN, hd])
        have hlt := hst.1
        have HS := Lib.hid hst.2; clear hst
        have HL := Lib.hid hl'; clear hl'
        have HD := Lib.hid hd; clear hd
        go_wp2_with (first | (go_at_call 95; (with_reducible refine (now0 (hrk.drewN _) hs hk2).mono ?_); rintro e w' ⟨rfl, n0, rfl⟩) | (go_at_call 95; (with_reducible refine (now0 hrk hs hk2).mono ?_); rintro e w' ⟨rfl, n0, rfl⟩) | (go_at_call 108; refine (letter_f HL.out).mono ?_; rintro e w' ⟨rfl, rfl⟩) | (go_at_call 118; refine (digit_t HD.out).mono ?_; rintro e w' ⟨rfl, rfl⟩))
        go_roundg (s.size - (k + 1))
        case measure => omega
        case rel => exact ⟨k + 1, by omega, by omega, rfl, by have := HO.out; have := HS.out; omega, (hrk.drewN _).set1 (by simp), grown_trans hgk (grown_trans (grown_drewN _ _ _) (grown_set _ ⟨b, 1, none⟩ _))⟩
      · have hd' : digN (byteAt s k) = false := by simpa using hd
        clear hd
        have hst := run_stop (s := s) (k := k) (by simp [ldN, hl', hd'])
        have HS := Lib.hid hst; clear hst
        have HL := Lib.hid hl'; clear hl'
        have HD := Lib.hid hd'; clear hd'
        have hend : k = a + runL (rest s a) := by have := HO.out; have := HS.out; omega
        have HE := Lib.hid hend; clear hend
        go_wp2_with (first | (go_at_call 95; (with_reducible refine (now0 (hrk.drewN _) hs hk2).mono ?_); rintro e w' ⟨rfl, n0, rfl⟩) | (go_at_call 95; (with_reducible refine (now0 hrk hs hk2).mono ?_); rintro e w' ⟨rfl, n0, rfl⟩) | (go_at_call 108; refine (letter_f HL.out).mono ?_; rintro e w' ⟨rfl, rfl⟩) | (go_at_call 118; refine (digit_f HD.out).mono ?_; rintro e w' ⟨rfl, rfl⟩))
        go_quiet (fail)
        go_wp2
        go_ret
        exact ⟨ret_str (by rw [← HE.out]), by rw [← HE.out]; exact hrk, grown_trans hgk (by rw [World.drewN_drewN]; exact grown_drewN _ _ _)⟩

/-- the place behind the string's closing quote -/
def qEnd (s : ByteArray) (k : Nat) : Option Nat := (quoL (rest s k)).map (· + k)
theorem qEnd_end (s : ByteArray) : qEnd s s.size = none := by unfold qEnd; rw [(rest_nil (Nat.le_refl _)).1]; rfl
theorem qEnd_34 {s : ByteArray} {k : Nat} (h : byteAt s k = 34) : k < s.size ∧ qEnd s k = some (k + 1) := by
  by_cases hlt : k < s.size
  · obtain ⟨c, h1, h2⟩ := rest_cons hlt
    refine ⟨hlt, ?_⟩
    unfold qEnd
    rw [h1]
    have hc : c.toNat = 34 := by omega
    cases rest s (k + 1) <;> simp [quoL, hc] <;> omega
  · have := (rest_nil (s := s) (a := k) (by omega)).2; omega
theorem qEnd_10 {s : ByteArray} {k : Nat} (h : byteAt s k = 10) : qEnd s k = none := by
  by_cases hlt : k < s.size
  · obtain ⟨c, h1, h2⟩ := rest_cons hlt
    unfold qEnd
    rw [h1]
    have hc : c.toNat = 10 := by omega
    cases rest s (k + 1) <;> simp [quoL, hc]
  · have := (rest_nil (s := s) (a := k) (by omega)).2; omega
theorem qEnd_92 {s : ByteArray} {k : Nat} (h : byteAt s k = 92) : k < s.size ∧ (k + 1 = s.size → qEnd s k = none) ∧ (k + 1 < s.size → qEnd s k = qEnd s (k + 2)) := by
  by_cases hlt : k < s.size
  · obtain ⟨c, h1, h2⟩ := rest_cons hlt
    have hc : c.toNat = 92 := by omega
    refine ⟨hlt, fun he => ?_, fun hl => ?_⟩
    · unfold qEnd; rw [h1, (rest_nil (s := s) (a := k + 1) (by omega)).1]; simp [quoL, hc]
    · obtain ⟨d, h3, h4⟩ := rest_cons hl
      unfold qEnd; rw [h1, h3, quoL, if_neg (by omega), if_pos hc]
      show _ = Option.map (· + (k + 2)) (quoL (rest s (k + 2)))
      cases quoL (rest s (k + 1 + 1)) <;> simp <;> omega
  · have := (rest_nil (s := s) (a := k) (by omega)).2; omega
theorem qEnd_else {s : ByteArray} {k : Nat} (h1 : byteAt s k ≠ 34) (h2 : byteAt s k ≠ 92) (h3 : byteAt s k ≠ 10) (hlt : k < s.size) : qEnd s k = qEnd s (k + 1) := by
  obtain ⟨c, e1, e2⟩ := rest_cons hlt
  unfold qEnd
  rw [e1]
  cases hr : rest s (k + 1) with
  | nil => simp [quoL]; omega
  | cons d r =>
    rw [quoL, if_neg (by omega), if_neg (by omega), if_neg (by omega)]
    cases quoL (d :: r) <;> simp <;> omega

/-- what comes of the string of an action that begins at a place -/
def QuoPost (b : Nat) (s : ByteArray) (a : Nat) (l : Value) (o : Int) (w : World) (e : Ending) (w' : World) : Prop :=
  match qEnd s (a + 1) with
  | some n => e = .returned (.tuple #[]) ∧ Rd w' b s n l o ∧ w.grownBy w' (some b)
  | none => e = .panicked (thrown 101) ∧ w.grownBy w' (some b)
theorem QuoPost.bad {b : Nat} {s : ByteArray} {a : Nat} {l : Value} {o : Int} {w w' : World} (h : qEnd s (a + 1) = none) (g : w.grownBy w' (some b)) : QuoPost b s a l o w (.panicked (thrown 101)) w' := by
  unfold QuoPost; rw [h]; exact ⟨rfl, g⟩
theorem QuoPost.good {b : Nat} {s : ByteArray} {a n : Nat} {l : Value} {o : Int} {w w' : World} (h : qEnd s (a + 1) = some n) (g : w.grownBy w' (some b)) (hr : Rd w' b s n l o) : QuoPost b s a l o w (.returned (.tuple #[])) w' := by
  unfold QuoPost; rw [h]; exact ⟨rfl, hr, g⟩

set_option maxHeartbeats 1000000 in
theorem quoted_any {b : Nat} {s : ByteArray} {a : Nat} {l : Value} {o : Int} {w : World} (hr : Rd w b s a l o) (hs : s.size ≤ 1000000) (ha : a < s.size) :
    Calls Tryz.prog 122 #[.pointer (some ⟨b, 0, none⟩)] w (QuoPost b s a l o w) := by
  have c1 := hr.c1; have f1 := hr.fr 1
  go_enter Tryz.func122, Tryz.ntmps122
  go_wp2
  have hr1 : Rd (w.setCell ⟨b, 1, none⟩ (.int .i64 ((a : Int) + 1))) b s (a + 1) l o := hr.set1 (by simp)
  have hw : w.grownBy (w.setCell ⟨b, 1, none⟩ (.int .i64 ((a : Int) + 1))) (some b) := grown_set w ⟨b, 1, none⟩ _
  clear c1 f1
  go_loopg [] (s.size - (a + 1)) (fun g wr => ∃ k, k ≤ s.size ∧ g = s.size - k ∧ qEnd s k = qEnd s (a + 1) ∧ Rd wr b s k l o ∧ w.grownBy wr (some b))
  case atStart => exact ⟨a + 1, by omega, rfl, rfl, hr1, hw⟩
  case round =>
    clear hr1 hw
    obtain ⟨k, hk2, rfl, hov, hrk, hgk⟩ := hrel
    have HO := Lib.hid hov; clear hov
    have c1 := hrk.c1; have f1 := hrk.fr 1
    by_cases h34 : byteAt s k = 34
    · have e1 : ((byteAt s k : Int) != 34) = false := by rw [h34]; rfl
      have hq := qEnd_34 h34
      have hlt := hq.1
      have HQ := Lib.hid hq.2; clear hq h34
      go_wp2_with (go_at_call 95; (with_reducible refine (now0 hrk hs hk2).mono ?_); rintro e w' ⟨rfl, n0, rfl⟩)
      go_end0
      exact QuoPost.good (by rw [← HO.out, HQ.out]) (grown_trans hgk (grown_trans (grown_drewN _ _ _) (grown_set _ ⟨b, 1, none⟩ _))) ((hrk.drewN _).set1 (by simp))
    · have e1 : ((byteAt s k : Int) != 34) = true := by rw [bne_iff_ne]; omega
      by_cases h92 : byteAt s k = 92
      · have e2 : ((byteAt s k : Int) == 92) = true := by rw [h92]; rfl
        have hq := qEnd_92 h92
        have hlt := hq.1
        have HQ := Lib.hid hq.2; clear hq h34 h92
        by_cases hl : k + 1 < s.size
        · go_wp2_with (first | (go_at_call 95; (with_reducible refine (now0 (hrk.drewN _) hs hk2).mono ?_); rintro e w' ⟨rfl, n0, rfl⟩) | (go_at_call 95; (with_reducible refine (now0 hrk hs hk2).mono ?_); rintro e w' ⟨rfl, n0, rfl⟩) | (go_at_call 94; refine (more_t ((hrk.drewN _).set1 (by simp)) hs hl).mono ?_; rintro e w' ⟨rfl, n1, rfl⟩))
          go_roundg (s.size - (k + 2))
          case measure => omega
          case rel =>
            refine ⟨k + 2, by omega, rfl, by rw [← HO.out, HQ.out.2 hl], ?_, ?_⟩
            · exact ((((hrk.drewN _).set1 (a' := k + 1) (by simp)).drewN _).set1 (by omega))
            · exact grown_trans hgk (grown_trans (grown_trans (grown_trans (grown_drewN _ _ _) (grown_set _ ⟨b, 1, none⟩ _)) (grown_drewN _ _ _)) (grown_set _ ⟨b, 1, none⟩ _))
        · have hl' : k + 1 = s.size := by omega
          have HL := Lib.hid hl'; clear hl'
          go_wp2_with (first | (go_at_call 95; (with_reducible refine (now0 (hrk.drewN _) hs hk2).mono ?_); rintro e w' ⟨rfl, n0, rfl⟩) | (go_at_call 95; (with_reducible refine (now0 hrk hs hk2).mono ?_); rintro e w' ⟨rfl, n0, rfl⟩) | (go_at_call 94; refine (more_any ((hrk.drewN _).set1 (a' := k + 1) (by simp)) hs (by omega)).mono ?_; rintro e w' ⟨rfl, n1, rfl⟩) | (go_at_call 110; refine (no_any _ _).mono ?_; rintro e w' ⟨rfl, rfl⟩))
          exact ⟨rfl, QuoPost.bad (by rw [← HO.out]; exact HQ.out.1 HL.out) (grown_trans hgk (grown_trans (grown_trans (grown_drewN _ _ _) (grown_set _ ⟨b, 1, none⟩ _)) (grown_drewN _ _ _)))⟩
      · have e2 : ((byteAt s k : Int) == 92) = false := beq_eq_false_iff_ne.2 (by omega)
        by_cases h10 : byteAt s k = 10
        · have e3 : ((byteAt s k : Int) == 10) = true := by rw [h10]; rfl
          have HQ := Lib.hid (qEnd_10 h10); clear h10 h92 h34
          go_wp2_with (first | (go_at_call 95; (with_reducible refine (now0 (hrk.drewN _) hs hk2).mono ?_); rintro e w' ⟨rfl, n0, rfl⟩) | (go_at_call 95; (with_reducible refine (now0 hrk hs hk2).mono ?_); rintro e w' ⟨rfl, n0, rfl⟩) | (go_at_call 110; refine (no_any _ _).mono ?_; rintro e w' ⟨rfl, rfl⟩))
          exact ⟨rfl, QuoPost.bad (by rw [← HO.out, HQ.out]) (grown_trans hgk (grown_drewN _ _ _))⟩
        · have e3 : ((byteAt s k : Int) == 10) = false := beq_eq_false_iff_ne.2 (by omega)
          by_cases hl : k < s.size
          · have HQ := Lib.hid (qEnd_else h34 h92 h10 hl); clear h10 h92 h34
            go_wp2_with (first | (go_at_call 95; (with_reducible refine (now0 (hrk.drewN _) hs hk2).mono ?_); rintro e w' ⟨rfl, n0, rfl⟩) | (go_at_call 95; (with_reducible refine (now0 hrk hs hk2).mono ?_); rintro e w' ⟨rfl, n0, rfl⟩) | (go_at_call 94; refine (more_t (hrk.drewN _) hs hl).mono ?_; rintro e w' ⟨rfl, n1, rfl⟩))
            go_roundg (s.size - (k + 1))
            case measure => omega
            case rel => exact ⟨k + 1, by omega, rfl, by rw [← HO.out, HQ.out], (hrk.drewN _).set1 (by simp), grown_trans hgk (grown_trans (grown_drewN _ _ _) (grown_set _ ⟨b, 1, none⟩ _))⟩
          · obtain rfl : s.size = k := by omega
            clear h10 h92 h34
            go_wp2_with (first | (go_at_call 95; (with_reducible refine (now0 (hrk.drewN _) hs hk2).mono ?_); rintro e w' ⟨rfl, n0, rfl⟩) | (go_at_call 95; (with_reducible refine (now0 hrk hs hk2).mono ?_); rintro e w' ⟨rfl, n0, rfl⟩) | (go_at_call 94; refine (more_f (hrk.drewN _) hs).mono ?_; rintro e w' ⟨rfl, n1, rfl⟩) | (go_at_call 110; refine (no_any _ _).mono ?_; rintro e w' ⟨rfl, rfl⟩))
            exact ⟨rfl, QuoPost.bad (by rw [← HO.out, qEnd_end]) (grown_trans hgk (grown_drewN _ _ _))⟩
end Go.Proofs.YtghebacphjglbaaGreat.LexB
