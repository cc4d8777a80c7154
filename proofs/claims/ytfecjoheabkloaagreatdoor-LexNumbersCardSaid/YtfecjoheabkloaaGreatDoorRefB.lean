/- The document's lexer: its actions, its lists of texts, walked. -/
import Derived.Test.YtfecjoheabkloaaGreatDoorRefA
namespace Go.Proofs.YtfecjoheabkloaaGreatDoor.RefB
open Go.RowKit Go.Proofs.YtfecjoheabkloaaGreatDoor.Lexy Go.Proofs.YtfecjoheabkloaaGreatDoor.LexA Go.Proofs.YtfecjoheabkloaaGreatDoor.LexB Go.Proofs.YtfecjoheabkloaaGreatDoor.LexC Go.Proofs.YtfecjoheabkloaaGreatDoor.RefA

/-- what comes of an action -/
def ActR (s : ByteArray) (a : Nat) (e : Ending) : Prop :=
  match aEnd s (a + 1) 1 with
  | none => ∃ x : Int, e = .returned (.tuple #[.int .i64 x, .bool false])
  | some n => e = .returned (.tuple #[.int .i64 ((n - 1 : Nat) : Int), .bool true])
theorem ActR.bad {s : ByteArray} {a : Nat} {x : Int} (h : aEnd s (a + 1) 1 = none) : ActR s a (.returned (.tuple #[.int .i64 x, .bool false])) := by unfold ActR; rw [h]; exact ⟨x, rfl⟩
theorem ActR.good {s : ByteArray} {a k : Nat} (h : aEnd s (a + 1) 1 = some (k + 1)) : ActR s a (.returned (.tuple #[.int .i64 (k : Int), .bool true])) := by unfold ActR; rw [h]; simp

set_option maxRecDepth 100000 in
set_option maxHeartbeats 1000000 in
theorem action_r {s : ByteArray} {a : Nat} {w : World} (hs : s.size ≤ 1000000) (ha : a < s.size) (h123 : byteAt s a = 123) :
    Calls Tryz.prog 53 #[.string s, .int .i64 (a : Int)] w fun e w' => ActR s a e ∧ w = w' := by
  go_enter Tryz.func53, Tryz.ntmps53
  go_wp2
  go_loopg [1, 6] (s.size - a) (fun g i op wr => ∃ k o : Nat, ((k = a ∧ o = 0) ∨ (1 ≤ o ∧ aEnd s k o = aEnd s (a + 1) 1)) ∧ k ≤ s.size ∧ o ≤ k + 1 ∧ g = s.size - k ∧ i = .int .i64 (k : Int) ∧ op = .int .i64 (o : Int) ∧ wr = w)
  case atStart => exact ⟨a, 0, .inl ⟨rfl, rfl⟩, by omega, by omega, rfl, rfl, rfl, rfl⟩
  case round =>
    obtain ⟨k, o, hko, hk2, hok, rfl, rfl, rfl, rfl⟩ := hrel
    by_cases hlt : k < s.size
    case neg =>
      have j1 : ¬ ((k : Int) < (s.size : Int)) := by omega
      obtain ⟨ho, hq⟩ : 1 ≤ o ∧ aEnd s k o = aEnd s (a + 1) 1 := hko.resolve_left (by omega)
      have HQ := Lib.hid hq; clear hq hko
      go_wp2
      go_ret2
      refine ⟨ActR.bad ?_, rfl⟩
      rw [← HQ.out]
      obtain ⟨o, rfl⟩ : ∃ p, o = p + 1 := ⟨o - 1, by omega⟩
      obtain rfl : k = s.size := by omega
      exact aEnd_end s o
    have hget := RefA.get_at hlt
    have j0 : (0 : Int) ≤ (k : Int) := by omega
    have j1 : (k : Int) < (s.size : Int) := by omega
    by_cases hb : byteAt s k = 123
    · -- one more is open
      have hc : comL (rest s k) = false := by rw [com_rest, hb]; rfl
      have e1 : (((s[k].toNat : Nat) : Int) == 34) = false := by rw [← hget, hb]; rfl
      have e2 : (((s[k].toNat : Nat) : Int) == 123) = true := by rw [← hget, hb]; rfl
      have hne : ((o : Int) + 1 == 0) = false := beq_eq_false_iff_ne.2 (by omega)
      have HN : aEnd s (k + 1) (o + 1) = aEnd s (a + 1) 1 := by
        rcases hko with ⟨rfl, rfl⟩ | ⟨ho, hq⟩
        · rfl
        · obtain ⟨o, rfl⟩ : ∃ p, o = p + 1 := ⟨o - 1, by omega⟩
          rw [← hq, aEnd_open o hlt hb]
      have HQ := Lib.hid HN; have HC := Lib.hid hc
      clear HN hc hget hb hko
      go_wp2_with (go_at_call 29; refine (comment_f hs hlt HC.out).mono ?_; rintro e w' ⟨rfl, rfl⟩)
      go_roundg (s.size - (k + 1))
      case measure => omega
      case rel => exact ⟨k + 1, o + 1, .inr ⟨by omega, HQ.out⟩, by omega, by omega, rfl, by go_num, by go_num, rfl⟩
    obtain ⟨ho, hq⟩ : 1 ≤ o ∧ aEnd s k o = aEnd s (a + 1) 1 := hko.resolve_left (by rintro ⟨rfl, _⟩; exact hb h123)
    obtain ⟨o, rfl⟩ : ∃ p, o = p + 1 := ⟨o - 1, by omega⟩
    have HQ := Lib.hid hq; clear hq hko ho
    cases hc : comL (rest s k) with
    | true =>
      have hov := over_pos hc
      have HN := Lib.hid ((aEnd_com o hc).symm.trans HQ.out)
      have HC := Lib.hid hc
      clear hc hget hb
      go_wp2_with (first | (go_at_call 29; refine (comment_t hs hlt HC.out).mono ?_; rintro e w' ⟨rfl, rfl⟩) | (go_at_call 30; refine (over_r hs (Nat.le_of_lt hlt)).mono ?_; rintro e w' ⟨rfl, rfl⟩))
      go_roundg (s.size - (k + overL (rest s k)))
      case measure => omega
      case rel => exact ⟨k + overL (rest s k), o + 1, .inr ⟨by omega, HN.out⟩, by omega, by omega, rfl, rfl, rfl, rfl⟩
    | false =>
      have HC := Lib.hid hc
      by_cases h34 : byteAt s k = 34
      · have e1 : (((s[k].toNat : Nat) : Int) == 34) = true := by rw [← hget, h34]; rfl
        have hst := aEnd_str o hlt h34
        cases hqe : qEnd s (k + 1) with
        | none =>
          rw [hqe] at hst
          have HN := Lib.hid (HQ.out.symm.trans hst)
          have HE := Lib.hid hqe
          clear hc hget hb h34 hst hqe
          go_wp2_with (first | (go_at_call 29; refine (comment_f hs hlt HC.out).mono ?_; rintro e w' ⟨rfl, rfl⟩) | (go_at_call 97; refine (quoted_no hs hlt HE.out).mono ?_; rintro e w' ⟨x, rfl, rfl⟩))
          go_ret2
          exact ⟨ActR.bad HN.out, rfl⟩
        | some n =>
          rw [hqe] at hst
          have HN := Lib.hid (hst.symm.trans HQ.out)
          have hn := qEnd_le hqe
          have HE := Lib.hid hqe
          clear hc hget hb h34 hst hqe
          go_wp2_with (first | (go_at_call 29; refine (comment_f hs hlt HC.out).mono ?_; rintro e w' ⟨rfl, rfl⟩) | (go_at_call 97; refine (quoted_ok hs hlt HE.out).mono ?_; rintro e w' ⟨rfl, rfl⟩))
          go_roundg (s.size - n)
          case measure => omega
          case rel => exact ⟨n, o + 1, .inr ⟨by omega, HN.out⟩, by omega, by omega, rfl, rfl, rfl, rfl⟩
      have e1 : (((s[k].toNat : Nat) : Int) == 34) = false := by rw [← hget]; exact beq_eq_false_iff_ne.2 (by omega)
      have e2 : (((s[k].toNat : Nat) : Int) == 123) = false := by rw [← hget]; exact beq_eq_false_iff_ne.2 (by omega)
      by_cases h125 : byteAt s k = 125
      · have e3 : (((s[k].toNat : Nat) : Int) == 125) = true := by rw [← hget, h125]; rfl
        have hcl := aEnd_close o hlt h125
        rw [HQ.out] at hcl
        by_cases ho0 : o = 0
        · subst ho0
          rw [aEnd_zero] at hcl
          have HN := Lib.hid hcl
          clear hc hget hb h34 h125 hcl
          go_wp2_with (go_at_call 29; refine (comment_f hs hlt HC.out).mono ?_; rintro e w' ⟨rfl, rfl⟩)
          go_ret2
          exact ⟨ActR.good HN.out, rfl⟩
        · have HN := Lib.hid hcl.symm
          have hne : ((o : Int) == 0) = false := beq_eq_false_iff_ne.2 (by omega)
          have hsub : ((o + 1 : Nat) : Int) - 1 = (o : Int) := by omega
          clear hc hget hb h34 h125 hcl
          go_wp2_with (go_at_call 29; refine (comment_f hs hlt HC.out).mono ?_; rintro e w' ⟨rfl, rfl⟩)
          go_roundg (s.size - (k + 1))
          case measure => omega
          case rel => exact ⟨k + 1, o, .inr ⟨by omega, HN.out⟩, by omega, by omega, rfl, by go_num, by go_num, rfl⟩
      · have e3 : (((s[k].toNat : Nat) : Int) == 125) = false := by rw [← hget]; exact beq_eq_false_iff_ne.2 (by omega)
        have HN : aEnd s (k + 1) (o + 1) = aEnd s (a + 1) 1 := by
          by_cases h47 : byteAt s k = 47
          · rw [← HQ.out, aEnd_slash o hlt h47 hc]
          · rw [← HQ.out, aEnd_plain o hlt hb h125 h34 h47]
        have HQ2 := Lib.hid HN
        have hne : ((o : Int) + 1 == 0) = false := beq_eq_false_iff_ne.2 (by omega)
        clear hc hget hb h34 h125 HN
        go_wp2_with (go_at_call 29; refine (comment_f hs hlt HC.out).mono ?_; rintro e w' ⟨rfl, rfl⟩)
        go_roundg (s.size - (k + 1))
        case measure => omega
        case rel => exact ⟨k + 1, o + 1, .inr ⟨by omega, HQ2.out⟩, by omega, by omega, rfl, by go_num, rfl, rfl⟩
theorem action_yes {s : ByteArray} {a n : Nat} {w : World} (hs : s.size ≤ 1000000) (ha : a < s.size) (h123 : byteAt s a = 123) (h : aEnd s (a + 1) 1 = some n) :
    Calls Tryz.prog 53 #[.string s, .int .i64 (a : Int)] w fun e w' => e = .returned (.tuple #[.int .i64 ((n - 1 : Nat) : Int), .bool true]) ∧ w = w' :=
  (action_r hs ha h123).mono fun e w' ⟨h1, h2⟩ => by unfold ActR at h1; rw [h] at h1; exact ⟨h1, h2⟩
theorem action_no {s : ByteArray} {a : Nat} {w : World} (hs : s.size ≤ 1000000) (ha : a < s.size) (h123 : byteAt s a = 123) (h : aEnd s (a + 1) 1 = none) :
    Calls Tryz.prog 53 #[.string s, .int .i64 (a : Int)] w fun e w' => ∃ x : Int, e = .returned (.tuple #[.int .i64 x, .bool false]) ∧ w = w' :=
  (action_r hs ha h123).mono fun e w' ⟨h1, h2⟩ => by unfold ActR at h1; rw [h] at h1; exact h1.elim fun x hx => ⟨x, hx, h2⟩
end Go.Proofs.YtfecjoheabkloaaGreatDoor.RefB
