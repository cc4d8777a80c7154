/- The document's lexer: its small functions and loops, walked. -/
import Derived.Test.YtghebacphjglbaaGreatLexC
namespace Go.Proofs.YtghebacphjglbaaGreat.RefA
open Go.RowKit Go.Proofs.YtghebacphjglbaaGreat.Lexy Go.Proofs.YtghebacphjglbaaGreat.LexA Go.Proofs.YtghebacphjglbaaGreat.LexB Go.Proofs.YtghebacphjglbaaGreat.LexC

theorem letter_on (n : Nat) (w : World) :
    Calls Tryz.prog 72 #[.int .u8 (n : Int), .bool true] w fun e w' => e = .returned (.bool (ldN n)) ∧ w = w' := by
  by_cases h1 : (97 : Int) ≤ (n : Int) <;> by_cases h2 : (n : Int) ≤ 122 <;> by_cases h3 : (65 : Int) ≤ (n : Int) <;> by_cases h4 : (n : Int) ≤ 90 <;> by_cases h5 : n = 95 <;> by_cases h6 : (48 : Int) ≤ (n : Int) <;> by_cases h7 : (n : Int) ≤ 57 <;> first
    | omega
    | (have k5 : ((n : Int) == 95) = decide (n = 95) := by simp [h5]; try omega
       go_enter Tryz.func72, Tryz.ntmps72
       go_wp2
       go_ret
       exact ⟨ret_bool (by unfold ldN letN digN; simp; try omega), rfl⟩)
theorem letter_off (n : Nat) (w : World) :
    Calls Tryz.prog 72 #[.int .u8 (n : Int), .bool false] w fun e w' => e = .returned (.bool (letN n)) ∧ w = w' := by
  by_cases h1 : (97 : Int) ≤ (n : Int) <;> by_cases h2 : (n : Int) ≤ 122 <;> by_cases h3 : (65 : Int) ≤ (n : Int) <;> by_cases h4 : (n : Int) ≤ 90 <;> by_cases h5 : n = 95 <;> first
    | omega
    | (have k5 : ((n : Int) == 95) = decide (n = 95) := by simp [h5]; try omega
       go_enter Tryz.func72, Tryz.ntmps72
       go_wp2
       go_ret
       exact ⟨ret_bool (by unfold letN; simp; try omega), rfl⟩)
theorem letter_on_t {n : Nat} {w : World} (h : ldN n = true) : Calls Tryz.prog 72 #[.int .u8 (n : Int), .bool true] w fun e w' => e = .returned (.bool true) ∧ w = w' := (letter_on n w).mono fun _ _ ⟨h1, h2⟩ => ⟨by rw [h1, h], h2⟩
theorem letter_on_f {n : Nat} {w : World} (h : ldN n = false) : Calls Tryz.prog 72 #[.int .u8 (n : Int), .bool true] w fun e w' => e = .returned (.bool false) ∧ w = w' := (letter_on n w).mono fun _ _ ⟨h1, h2⟩ => ⟨by rw [h1, h], h2⟩

theorem get_at {s : ByteArray} {k : Nat} (h : k < s.size) : byteAt s k = s[k].toNat := by unfold byteAt; rw [dif_pos h]

theorem comment_r {s : ByteArray} {a : Nat} {w : World} (hs : s.size ≤ 1000000) (ha : a < s.size) :
    Calls Tryz.prog 86 #[.string s, .int .i64 (a : Int)] w fun e w' => e = .returned (.bool (comL (rest s a))) ∧ w = w' := by
  have HC := Lib.hid (com_rest s a)
  have hg := get_at ha
  have j0 : (0 : Int) ≤ (a : Int) := by omega
  have j1 : (a : Int) < (s.size : Int) := by omega
  by_cases h2 : a + 1 < s.size
  · have hg2 := get_at h2
    have j2 : (a : Int) + 1 < (s.size : Int) := by omega
    by_cases e1 : byteAt s a = 47
    · have k1 : (((s[a].toNat : Nat) : Int) == 47) = true := by rw [← hg, e1]; rfl
      by_cases e2 : byteAt s (a + 1) = 47
      · have k2 : (((s[a + 1].toNat : Nat) : Int) == 47) = true := by rw [← hg2, e2]; rfl
        have E1 := Lib.hid e1; have E2 := Lib.hid e2; clear e1 e2 hg hg2
        go_enter Tryz.func86, Tryz.ntmps86
        go_wp2
        go_ret
        exact ⟨ret_bool (by rw [HC.out, E1.out, E2.out]; rfl), rfl⟩
      · have k2 : (((s[a + 1].toNat : Nat) : Int) == 47) = false := by rw [← hg2]; exact beq_eq_false_iff_ne.2 (by omega)
        have E1 := Lib.hid e1; have E2 := Lib.hid e2; clear e1 e2 hg hg2
        go_enter Tryz.func86, Tryz.ntmps86
        go_wp2
        go_ret
        exact ⟨ret_bool (by rw [HC.out, decide_eq_false E2.out, Bool.and_false]), rfl⟩
    · have k1 : (((s[a].toNat : Nat) : Int) == 47) = false := by rw [← hg]; exact beq_eq_false_iff_ne.2 (by omega)
      have E1 := Lib.hid e1; clear e1 hg hg2
      go_enter Tryz.func86, Tryz.ntmps86
      go_wp2
      go_ret
      exact ⟨ret_bool (by rw [HC.out, decide_eq_false E1.out, Bool.false_and]), rfl⟩
  · have j2 : ¬ ((a : Int) + 1 < (s.size : Int)) := by omega
    have E2 := Lib.hid (rest_nil (s := s) (a := a + 1) (by omega)).2
    clear hg
    go_enter Tryz.func86, Tryz.ntmps86
    go_wp2
    go_ret
    exact ⟨ret_bool (by rw [HC.out, E2.out]; simp), rfl⟩
theorem comment_t {s : ByteArray} {a : Nat} {w : World} (hs : s.size ≤ 1000000) (ha : a < s.size) (h : comL (rest s a) = true) :
    Calls Tryz.prog 86 #[.string s, .int .i64 (a : Int)] w fun e w' => e = .returned (.bool true) ∧ w = w' := h ▸ comment_r hs ha
theorem comment_f {s : ByteArray} {a : Nat} {w : World} (hs : s.size ≤ 1000000) (ha : a < s.size) (h : comL (rest s a) = false) :
    Calls Tryz.prog 86 #[.string s, .int .i64 (a : Int)] w fun e w' => e = .returned (.bool false) ∧ w = w' := h ▸ comment_r hs ha

theorem ret_int {a b : Int} (h : a = b) : Ending.returned (.int .i64 a) = .returned (.int .i64 b) := by rw [h]

theorem over_r {s : ByteArray} {a : Nat} {w : World} (hs : s.size ≤ 1000000) (ha : a ≤ s.size) :
    Calls Tryz.prog 87 #[.string s, .int .i64 (a : Int)] w fun e w' => e = .returned (.int .i64 ((a + overL (rest s a) : Nat) : Int)) ∧ w = w' := by
  go_enter Tryz.func87, Tryz.ntmps87
  go_wp2
  go_loopg [1] (s.size - a) (fun g i wr => ∃ k, a ≤ k ∧ k ≤ s.size ∧ g = s.size - k ∧ i = .int .i64 (k : Int) ∧ k + overL (rest s k) = a + overL (rest s a) ∧ wr = w)
  case atStart => exact ⟨a, Nat.le_refl _, ha, rfl, rfl, rfl, rfl⟩
  case round =>
    obtain ⟨k, hk1, hk2, rfl, rfl, hov, rfl⟩ := hrel
    have HO := Lib.hid hov; clear hov
    by_cases hlt : k < s.size
    · obtain ⟨c, hc1, hc2⟩ := rest_cons hlt
      have HC1 := Lib.hid hc1; have HC2 := Lib.hid hc2; clear hc1 hc2
      have hget := get_at hlt
      have j0 : (0 : Int) ≤ (k : Int) := by omega
      have j1 : (k : Int) < (s.size : Int) := by omega
      by_cases h10 : byteAt s k = 10
      · have e1 : (((s[k].toNat : Nat) : Int) != 10) = false := by rw [← hget, h10]; rfl
        have H10 := Lib.hid h10; clear hget h10
        go_wp2
        go_ret
        have hz : overL (rest s k) = 0 := by rw [HC1.out]; simp [overL, ← HC2.out, H10.out]
        exact ⟨ret_int (by rw [← HO.out, hz]; rfl), rfl⟩
      · have e1 : (((s[k].toNat : Nat) : Int) != 10) = true := by rw [← hget, bne_iff_ne]; omega
        have H10 := Lib.hid h10; clear hget h10
        go_wp2
        have hz : overL (rest s k) = overL (rest s (k + 1)) + 1 := by rw [HC1.out, overL, if_neg (by rw [← HC2.out]; exact H10.out)]
        go_roundg (s.size - (k + 1))
        case measure => omega
        case rel => exact ⟨k + 1, by omega, by omega, rfl, by go_num, by have := HO.out; omega, rfl⟩
    · obtain rfl : s.size = k := by omega
      go_wp2
      go_ret
      have hz : overL (rest s s.size) = 0 := by rw [(rest_nil (Nat.le_refl _)).1]; rfl
      exact ⟨ret_int (by rw [← HO.out, hz]; rfl), rfl⟩

theorem run_r {s : ByteArray} {a : Nat} {w : World} (hs : s.size ≤ 1000000) (ha : a ≤ s.size) :
    Calls Tryz.prog 99 #[.string s, .int .i64 (a : Int)] w fun e w' => e = .returned (.int .i64 ((a + runL (rest s a) : Nat) : Int)) ∧ w = w' := by
  go_enter Tryz.func99, Tryz.ntmps99
  go_wp2
  go_loopg [1] (s.size - a) (fun g i wr => ∃ k, a ≤ k ∧ k ≤ s.size ∧ g = s.size - k ∧ i = .int .i64 (k : Int) ∧ k + runL (rest s k) = a + runL (rest s a) ∧ wr = w)
  case atStart => exact ⟨a, Nat.le_refl _, ha, rfl, rfl, rfl, rfl⟩
  case round =>
    obtain ⟨k, hk1, hk2, rfl, rfl, hov, rfl⟩ := hrel
    have HO := Lib.hid hov; clear hov
    by_cases hlt : k < s.size
    · have hget := get_at hlt
      have j0 : (0 : Int) ≤ (k : Int) := by omega
      have j1 : (k : Int) < (s.size : Int) := by omega
      cases hld : ldN (byteAt s k) with
      | false =>
        have hz := Lib.hid (run_stop hld)
        rw [hget] at hld
        have HL := Lib.hid hld; clear hget hld
        go_wp2_with (go_at_call 72; refine (letter_on_f HL.out).mono ?_; rintro e w' ⟨rfl, rfl⟩)
        go_ret
        exact ⟨ret_int (by rw [← HO.out, hz.out]; rfl), rfl⟩
      | true =>
        have hz := Lib.hid (run_step hld).2
        rw [hget] at hld
        have HL := Lib.hid hld; clear hget hld
        go_wp2_with (go_at_call 72; refine (letter_on_t HL.out).mono ?_; rintro e w' ⟨rfl, rfl⟩)
        go_roundg (s.size - (k + 1))
        case measure => omega
        case rel => exact ⟨k + 1, by omega, by omega, rfl, by go_num, by have := HO.out; have := hz.out; omega, rfl⟩
    · obtain rfl : s.size = k := by omega
      go_wp2
      go_ret
      have hz : runL (rest s s.size) = 0 := by rw [(rest_nil (Nat.le_refl _)).1]; rfl
      exact ⟨ret_int (by rw [← HO.out, hz]; rfl), rfl⟩

/-- what comes of a string -/
def QuoR (s : ByteArray) (a : Nat) (e : Ending) : Prop :=
  match qEnd s (a + 1) with
  | none => ∃ x : Int, e = .returned (.tuple #[.int .i64 x, .bool false])
  | some n => e = .returned (.tuple #[.int .i64 (n : Int), .bool true])
theorem QuoR.bad {s : ByteArray} {a : Nat} {x : Int} (h : qEnd s (a + 1) = none) : QuoR s a (.returned (.tuple #[.int .i64 x, .bool false])) := by unfold QuoR; rw [h]; exact ⟨x, rfl⟩
theorem QuoR.good {s : ByteArray} {a n : Nat} {x : Int} (h : qEnd s (a + 1) = some n) (hx : x = (n : Int)) : QuoR s a (.returned (.tuple #[.int .i64 x, .bool true])) := by unfold QuoR; rw [h, hx]

theorem quoted_r {s : ByteArray} {a : Nat} {w : World} (hs : s.size ≤ 1000000) (ha : a < s.size) :
    Calls Tryz.prog 114 #[.string s, .int .i64 (a : Int)] w fun e w' => QuoR s a e ∧ w = w' := by
  go_enter Tryz.func114, Tryz.ntmps114
  go_wp2
  go_loopg [1] (s.size + 1 - (a + 1)) (fun g i wr => ∃ k, k ≤ s.size + 1 ∧ g = s.size + 1 - k ∧ i = .int .i64 (k : Int) ∧ qEnd s k = qEnd s (a + 1) ∧ wr = w)
  case atStart => exact ⟨a + 1, by omega, by omega, by go_num, rfl, rfl⟩
  case round =>
    obtain ⟨k, hk2, rfl, rfl, hq, rfl⟩ := hrel
    have HQ := Lib.hid hq; clear hq
    by_cases hlt : k < s.size
    · have hget := get_at hlt
      have j0 : (0 : Int) ≤ (k : Int) := by omega
      have j1 : (k : Int) < (s.size : Int) := by omega
      by_cases h34 : byteAt s k = 34
      · have e1 : (((s[k].toNat : Nat) : Int) != 34) = false := by rw [← hget, h34]; rfl
        have H := Lib.hid (qEnd_34 h34).2; clear hget h34
        go_wp2
        go_ret2
        exact ⟨QuoR.good (by rw [← HQ.out]; exact H.out) (by simp), rfl⟩
      · have e1 : (((s[k].toNat : Nat) : Int) != 34) = true := by rw [← hget, bne_iff_ne]; omega
        by_cases h10 : byteAt s k = 10
        · have e2 : (((s[k].toNat : Nat) : Int) == 10) = true := by rw [← hget, h10]; rfl
          have H := Lib.hid (qEnd_10 h10); clear hget h34 h10
          go_wp2
          go_ret2
          exact ⟨QuoR.bad (by rw [← HQ.out]; exact H.out), rfl⟩
        · have e2 : (((s[k].toNat : Nat) : Int) == 10) = false := by rw [← hget]; exact beq_eq_false_iff_ne.2 (by omega)
          by_cases h92 : byteAt s k = 92
          · have e3 : (((s[k].toNat : Nat) : Int) == 92) = true := by rw [← hget, h92]; rfl
            have H := Lib.hid (qEnd_92 h92).2; clear hget h34 h10 h92
            go_wp2
            go_roundg (s.size + 1 - (k + 2))
            case measure => omega
            case rel =>
              refine ⟨k + 2, by omega, rfl, by go_num, ?_, rfl⟩
              rw [← HQ.out]
              by_cases h : k + 1 = s.size
              · rw [H.out.1 h]; unfold qEnd; rw [(rest_nil (by omega)).1]; rfl
              · exact (H.out.2 (by omega)).symm
          · have e3 : (((s[k].toNat : Nat) : Int) == 92) = false := by rw [← hget]; exact beq_eq_false_iff_ne.2 (by omega)
            have H := Lib.hid (qEnd_else h34 h92 h10 hlt); clear hget h34 h10 h92
            go_wp2
            go_roundg (s.size + 1 - (k + 1))
            case measure => omega
            case rel => exact ⟨k + 1, by omega, rfl, by go_num, by rw [← HQ.out]; exact H.out.symm, rfl⟩
    · have j1 : ¬ ((k : Int) < (s.size : Int)) := by omega
      go_wp2
      go_ret2
      exact ⟨QuoR.bad (by rw [← HQ.out]; unfold qEnd; rw [(rest_nil (by omega)).1]; rfl), rfl⟩
theorem quoted_ok {s : ByteArray} {a n : Nat} {w : World} (hs : s.size ≤ 1000000) (ha : a < s.size) (h : qEnd s (a + 1) = some n) :
    Calls Tryz.prog 114 #[.string s, .int .i64 (a : Int)] w fun e w' => e = .returned (.tuple #[.int .i64 (n : Int), .bool true]) ∧ w = w' :=
  (quoted_r hs ha).mono fun e w' ⟨h1, h2⟩ => by unfold QuoR at h1; rw [h] at h1; exact ⟨h1, h2⟩
theorem quoted_no {s : ByteArray} {a : Nat} {w : World} (hs : s.size ≤ 1000000) (ha : a < s.size) (h : qEnd s (a + 1) = none) :
    Calls Tryz.prog 114 #[.string s, .int .i64 (a : Int)] w fun e w' => ∃ x : Int, e = .returned (.tuple #[.int .i64 x, .bool false]) ∧ w = w' :=
  (quoted_r hs ha).mono fun e w' ⟨h1, h2⟩ => by unfold QuoR at h1; rw [h] at h1; exact h1.elim fun x hx => ⟨x, hx, h2⟩
end Go.Proofs.YtghebacphjglbaaGreat.RefA
/- The document's lexer: its actions, its lists of texts, walked. -/
namespace Go.Proofs.YtghebacphjglbaaGreat.RefB
open Go.RowKit Go.Proofs.YtghebacphjglbaaGreat.Lexy Go.Proofs.YtghebacphjglbaaGreat.LexA Go.Proofs.YtghebacphjglbaaGreat.LexB Go.Proofs.YtghebacphjglbaaGreat.LexC Go.Proofs.YtghebacphjglbaaGreat.RefA

/-- what comes of an action -/
def ActR (s : ByteArray) (a : Nat) (e : Ending) : Prop :=
  match aEnd s (a + 1) 1 with
  | none => ∃ x : Int, e = .returned (.tuple #[.int .i64 x, .bool false])
  | some n => e = .returned (.tuple #[.int .i64 ((n - 1 : Nat) : Int), .bool true])
theorem ActR.bad {s : ByteArray} {a : Nat} {x : Int} (h : aEnd s (a + 1) 1 = none) : ActR s a (.returned (.tuple #[.int .i64 x, .bool false])) := by unfold ActR; rw [h]; exact ⟨x, rfl⟩
theorem ActR.good {s : ByteArray} {a k : Nat} (h : aEnd s (a + 1) 1 = some (k + 1)) : ActR s a (.returned (.tuple #[.int .i64 (k : Int), .bool true])) := by unfold ActR; rw [h]; simp

set_option maxRecDepth 100000 in
set_option maxHeartbeats 1000000 in
theorem action_r {s : ByteArray} {a : Nat} {w : World} (hs : s.size ≤ 1000000) (ha : a < s.size) (h123 : byteAt s a = 123) :
    Calls Tryz.prog 102 #[.string s, .int .i64 (a : Int)] w fun e w' => ActR s a e ∧ w = w' := by
  go_enter Tryz.func102, Tryz.ntmps102
  go_wp2
  go_loopg [1, 6] (s.size - a) (fun g i op wr => ∃ k o : Nat, ((k = a ∧ o = 0) ∨ (1 ≤ o ∧ aEnd s k o = aEnd s (a + 1) 1)) ∧ k ≤ s.size ∧ o ≤ k + 1 ∧ g = s.size - k ∧ i = .int .i64 (k : Int) ∧ op = .int .i64 (o : Int) ∧ wr = w)
  case atStart => exact ⟨a, 0, .inl ⟨rfl, rfl⟩, by omega, by omega, rfl, rfl, rfl, rfl⟩
  case round =>
    obtain ⟨k, o, hko, hk2, hok, rfl, rfl, rfl, rfl⟩ := hrel
    by_cases hlt : k < s.size
    case neg =>
      have j1 : ¬ ((k : Int) < (s.size : Int)) := by omega
      obtain ⟨ho, hq⟩ : 1 ≤ o ∧ aEnd s k o = aEnd s (a + 1) 1 := hko.resolve_left (by omega)
      have HQ := Lib.hid hq; clear hq hko
      go_wp2
      go_ret2
      refine ⟨ActR.bad ?_, rfl⟩
      rw [← HQ.out]
      obtain ⟨o, rfl⟩ : ∃ p, o = p + 1 := ⟨o - 1, by omega⟩
      obtain rfl : k = s.size := by omega
      exact aEnd_end s o
    have hget := RefA.get_at hlt
    have j0 : (0 : Int) ≤ (k : Int) := by omega
    have j1 : (k : Int) < (s.size : Int) := by omega
    by_cases hb : byteAt s k = 123
    · -- one more is open
      have hc : comL (rest s k) = false := by rw [com_rest, hb]; rfl
      have e1 : (((s[k].toNat : Nat) : Int) == 34) = false := by rw [← hget, hb]; rfl
      have e2 : (((s[k].toNat : Nat) : Int) == 123) = true := by rw [← hget, hb]; rfl
      have hne : ((o : Int) + 1 == 0) = false := beq_eq_false_iff_ne.2 (by omega)
      have HN : aEnd s (k + 1) (o + 1) = aEnd s (a + 1) 1 := by
        rcases hko with ⟨rfl, rfl⟩ | ⟨ho, hq⟩
        · rfl
        · obtain ⟨o, rfl⟩ : ∃ p, o = p + 1 := ⟨o - 1, by omega⟩
          rw [← hq, aEnd_open o hlt hb]
      have HQ := Lib.hid HN; have HC := Lib.hid hc
      clear HN hc hget hb hko
      go_wp2_with (go_at_call 86; refine (comment_f hs hlt HC.out).mono ?_; rintro e w' ⟨rfl, rfl⟩)
      go_roundg (s.size - (k + 1))
      case measure => omega
      case rel => exact ⟨k + 1, o + 1, .inr ⟨by omega, HQ.out⟩, by omega, by omega, rfl, by go_num, by go_num, rfl⟩
    obtain ⟨ho, hq⟩ : 1 ≤ o ∧ aEnd s k o = aEnd s (a + 1) 1 := hko.resolve_left (by rintro ⟨rfl, _⟩; exact hb h123)
    obtain ⟨o, rfl⟩ : ∃ p, o = p + 1 := ⟨o - 1, by omega⟩
    have HQ := Lib.hid hq; clear hq hko ho
    cases hc : comL (rest s k) with
    | true =>
      have hov := over_pos hc
      have HN := Lib.hid ((aEnd_com o hc).symm.trans HQ.out)
      have HC := Lib.hid hc
      clear hc hget hb
      go_wp2_with (first | (go_at_call 86; refine (comment_t hs hlt HC.out).mono ?_; rintro e w' ⟨rfl, rfl⟩) | (go_at_call 87; refine (over_r hs (Nat.le_of_lt hlt)).mono ?_; rintro e w' ⟨rfl, rfl⟩))
      go_roundg (s.size - (k + overL (rest s k)))
      case measure => omega
      case rel => exact ⟨k + overL (rest s k), o + 1, .inr ⟨by omega, HN.out⟩, by omega, by omega, rfl, rfl, rfl, rfl⟩
    | false =>
      have HC := Lib.hid hc
      by_cases h34 : byteAt s k = 34
      · have e1 : (((s[k].toNat : Nat) : Int) == 34) = true := by rw [← hget, h34]; rfl
        have hst := aEnd_str o hlt h34
        cases hqe : qEnd s (k + 1) with
        | none =>
          rw [hqe] at hst
          have HN := Lib.hid (HQ.out.symm.trans hst)
          have HE := Lib.hid hqe
          clear hc hget hb h34 hst hqe
          go_wp2_with (first | (go_at_call 86; refine (comment_f hs hlt HC.out).mono ?_; rintro e w' ⟨rfl, rfl⟩) | (go_at_call 114; refine (quoted_no hs hlt HE.out).mono ?_; rintro e w' ⟨x, rfl, rfl⟩))
          go_ret2
          exact ⟨ActR.bad HN.out, rfl⟩
        | some n =>
          rw [hqe] at hst
          have HN := Lib.hid (hst.symm.trans HQ.out)
          have hn := qEnd_le hqe
          have HE := Lib.hid hqe
          clear hc hget hb h34 hst hqe
          go_wp2_with (first | (go_at_call 86; refine (comment_f hs hlt HC.out).mono ?_; rintro e w' ⟨rfl, rfl⟩) | (go_at_call 114; refine (quoted_ok hs hlt HE.out).mono ?_; rintro e w' ⟨rfl, rfl⟩))
          go_roundg (s.size - n)
          case measure => omega
          case rel => exact ⟨n, o + 1, .inr ⟨by omega, HN.out⟩, by omega, by omega, rfl, rfl, rfl, rfl⟩
      have e1 : (((s[k].toNat : Nat) : Int) == 34) = false := by rw [← hget]; exact beq_eq_false_iff_ne.2 (by omega)
      have e2 : (((s[k].toNat : Nat) : Int) == 123) = false := by rw [← hget]; exact beq_eq_false_iff_ne.2 (by omega)
      by_cases h125 : byteAt s k = 125
      · have e3 : (((s[k].toNat : Nat) : Int) == 125) = true := by rw [← hget, h125]; rfl
        have hcl := aEnd_close o hlt h125
        rw [HQ.out] at hcl
        by_cases ho0 : o = 0
        · subst ho0
          rw [aEnd_zero] at hcl
          have HN := Lib.hid hcl
          clear hc hget hb h34 h125 hcl
          go_wp2_with (go_at_call 86; refine (comment_f hs hlt HC.out).mono ?_; rintro e w' ⟨rfl, rfl⟩)
          go_ret2
          exact ⟨ActR.good HN.out, rfl⟩
        · have HN := Lib.hid hcl.symm
          have hne : ((o : Int) == 0) = false := beq_eq_false_iff_ne.2 (by omega)
          have hsub : ((o + 1 : Nat) : Int) - 1 = (o : Int) := by omega
          clear hc hget hb h34 h125 hcl
          go_wp2_with (go_at_call 86; refine (comment_f hs hlt HC.out).mono ?_; rintro e w' ⟨rfl, rfl⟩)
          go_roundg (s.size - (k + 1))
          case measure => omega
          case rel => exact ⟨k + 1, o, .inr ⟨by omega, HN.out⟩, by omega, by omega, rfl, by go_num, by go_num, rfl⟩
      · have e3 : (((s[k].toNat : Nat) : Int) == 125) = false := by rw [← hget]; exact beq_eq_false_iff_ne.2 (by omega)
        have HN : aEnd s (k + 1) (o + 1) = aEnd s (a + 1) 1 := by
          by_cases h47 : byteAt s k = 47
          · rw [← HQ.out, aEnd_slash o hlt h47 hc]
          · rw [← HQ.out, aEnd_plain o hlt hb h125 h34 h47]
        have HQ2 := Lib.hid HN
        have hne : ((o : Int) + 1 == 0) = false := beq_eq_false_iff_ne.2 (by omega)
        clear hc hget hb h34 h125 HN
        go_wp2_with (go_at_call 86; refine (comment_f hs hlt HC.out).mono ?_; rintro e w' ⟨rfl, rfl⟩)
        go_roundg (s.size - (k + 1))
        case measure => omega
        case rel => exact ⟨k + 1, o + 1, .inr ⟨by omega, HQ2.out⟩, by omega, by omega, rfl, by go_num, rfl, rfl⟩
theorem action_yes {s : ByteArray} {a n : Nat} {w : World} (hs : s.size ≤ 1000000) (ha : a < s.size) (h123 : byteAt s a = 123) (h : aEnd s (a + 1) 1 = some n) :
    Calls Tryz.prog 102 #[.string s, .int .i64 (a : Int)] w fun e w' => e = .returned (.tuple #[.int .i64 ((n - 1 : Nat) : Int), .bool true]) ∧ w = w' :=
  (action_r hs ha h123).mono fun e w' ⟨h1, h2⟩ => by unfold ActR at h1; rw [h] at h1; exact ⟨h1, h2⟩
theorem action_no {s : ByteArray} {a : Nat} {w : World} (hs : s.size ≤ 1000000) (ha : a < s.size) (h123 : byteAt s a = 123) (h : aEnd s (a + 1) 1 = none) :
    Calls Tryz.prog 102 #[.string s, .int .i64 (a : Int)] w fun e w' => ∃ x : Int, e = .returned (.tuple #[.int .i64 x, .bool false]) ∧ w = w' :=
  (action_r hs ha h123).mono fun e w' ⟨h1, h2⟩ => by unfold ActR at h1; rw [h] at h1; exact h1.elim fun x hx => ⟨x, hx, h2⟩
end Go.Proofs.YtghebacphjglbaaGreat.RefB
