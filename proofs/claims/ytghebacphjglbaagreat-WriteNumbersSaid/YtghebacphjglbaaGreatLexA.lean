/- The lexer's small functions, walked. -/
import Derived.Test.YtghebacphjglbaaGreatLexPlain
import Derived.Test.YtghebacphjglbaaGreatChecked
import Derived.WalkKit
import Derived.WalkLawsBesides
import Derived.WalkSpells
import Derived.Lib.Hide
import Derived.Deep.QuietTactic
import Derived.BigQuiet
import Derived.Deep.RegionWith
import Derived.Handy
namespace Go.Proofs.YtghebacphjglbaaGreat.LexA
open Go.RowKit Go.Proofs.YtghebacphjglbaaGreat.Lexy

/-- the byte at a place, or 0 -/
def byteAt (s : ByteArray) (k : Nat) : Nat := if h : k < s.size then s[k].toNat else 0
theorem byteAt_lt (s : ByteArray) (k : Nat) : byteAt s k < 256 := by
  unfold byteAt; split
  · exact UInt8.toNat_lt _
  · omega

theorem ret_bool {a b : Bool} (h : a = b) : Ending.returned (.bool a) = .returned (.bool b) := by rw [h]

theorem letter_any (n : Nat) (w : World) :
    Calls Tryz.prog 108 #[.int .u8 (n : Int)] w fun e w' => e = .returned (.bool (letN n)) ∧ w = w' := by
  by_cases h1 : (97 : Int) ≤ (n : Int) <;> by_cases h2 : (n : Int) ≤ 122 <;> by_cases h3 : (65 : Int) ≤ (n : Int) <;> by_cases h4 : (n : Int) ≤ 90 <;> by_cases h5 : n = 95 <;> first
    | omega
    | (have k5 : ((n : Int) == 95) = decide (n = 95) := by simp [h5]; try omega
       go_enter Tryz.func108, Tryz.ntmps108
       go_wp2
       go_ret
       exact ⟨ret_bool (by unfold letN; simp; try omega), rfl⟩)
theorem digit_any (n : Nat) (w : World) :
    Calls Tryz.prog 118 #[.int .u8 (n : Int)] w fun e w' => e = .returned (.bool (digN n)) ∧ w = w' := by
  by_cases h1 : (48 : Int) ≤ (n : Int) <;> by_cases h2 : (n : Int) ≤ 57
  all_goals
    go_enter Tryz.func118, Tryz.ntmps118
    go_wp2
    go_ret
    exact ⟨ret_bool (by unfold digN; simp; try omega), rfl⟩

theorem letter_t {n : Nat} {w : World} (h : letN n = true) : Calls Tryz.prog 108 #[.int .u8 (n : Int)] w fun e w' => e = .returned (.bool true) ∧ w = w' := h ▸ letter_any n w
theorem letter_f {n : Nat} {w : World} (h : letN n = false) : Calls Tryz.prog 108 #[.int .u8 (n : Int)] w fun e w' => e = .returned (.bool false) ∧ w = w' := h ▸ letter_any n w
theorem digit_t {n : Nat} {w : World} (h : digN n = true) : Calls Tryz.prog 118 #[.int .u8 (n : Int)] w fun e w' => e = .returned (.bool true) ∧ w = w' := h ▸ digit_any n w
theorem digit_f {n : Nat} {w : World} (h : digN n = false) : Calls Tryz.prog 118 #[.int .u8 (n : Int)] w fun e w' => e = .returned (.bool false) ∧ w = w' := h ▸ digit_any n w

theorem now_any (b o : Nat) (s : ByteArray) (a k : Nat) (w : World) (hs : s.size ≤ 1000000) (ha : a ≤ s.size) (hk : k ≤ 1)
    (h0 : w.cell? ⟨b, o, none⟩ = some (.string s)) (h1 : w.cell? ⟨b, o + 1, none⟩ = some (.int .i64 (a : Int))) :
    Calls Tryz.prog 95 #[.pointer (some ⟨b, o, none⟩), .int .i64 (k : Int)] w fun e w' => e = .returned (.int .u8 (byteAt s (a + k) : Int)) ∧ ∃ n, w' = w.drewN n := by
  by_cases h : a + k < s.size
  · have e1 : IntKind.i64.wrap ((a : Int) + (k : Int)) = (a : Int) + (k : Int) := IntWalk.i64_in _ (by omega)
    have e2 : (0 : Int) ≤ (a : Int) + (k : Int) := by omega
    have e3 : ((a : Int) + (k : Int)).toNat = a + k := by omega
    have hb : byteAt s (a + k) = s[a + k].toNat := by unfold byteAt; rw [dif_pos h]
    have HB := Lib.hid hb; clear hb
    go_enter Tryz.func95, Tryz.ntmps95
    go_wp2
    go_quiet (fail)
    go_wp2
    go_quiet (fail)
    go_wp2
    go_ret
    exact ⟨by rw [HB.out]; rfl, _, World.drewN_drewN _ _ _⟩
  · have hb : byteAt s (a + k) = 0 := by unfold byteAt; rw [dif_neg h]
    have HB := Lib.hid hb; clear hb
    go_enter Tryz.func95, Tryz.ntmps95
    go_wp2
    go_quiet (fail)
    go_wp2
    go_ret
    exact ⟨by rw [HB.out]; rfl, _, rfl⟩
/-- the reader: its text, its place, its tokens, its braces -/
def Rd (w : World) (b : Nat) (s : ByteArray) (a : Nat) (l : Value) (o : Int) : Prop :=
  w.heap[b]? = some (.cells #[.string s, .int .i64 (a : Int), l, .int .i64 o] 137 (0, 0))
theorem Rd.c0 {w : World} {b : Nat} {s : ByteArray} {a : Nat} {l : Value} {o : Int} (h : Rd w b s a l o) : w.cell? ⟨b, 0, none⟩ = some (.string s) := by simp [World.cell?, (show w.heap[b]? = _ from h)]
theorem Rd.c1 {w : World} {b : Nat} {s : ByteArray} {a : Nat} {l : Value} {o : Int} (h : Rd w b s a l o) : w.cell? ⟨b, 1, none⟩ = some (.int .i64 (a : Int)) := by simp [World.cell?, (show w.heap[b]? = _ from h)]
theorem Rd.c2 {w : World} {b : Nat} {s : ByteArray} {a : Nat} {l : Value} {o : Int} (h : Rd w b s a l o) : w.cell? ⟨b, 2, none⟩ = some l := by simp [World.cell?, (show w.heap[b]? = _ from h)]
theorem Rd.c3 {w : World} {b : Nat} {s : ByteArray} {a : Nat} {l : Value} {o : Int} (h : Rd w b s a l o) : w.cell? ⟨b, 3, none⟩ = some (.int .i64 o) := by simp [World.cell?, (show w.heap[b]? = _ from h)]
theorem Rd.fr {w : World} {b : Nat} {s : ByteArray} {a : Nat} {l : Value} {o : Int} (h : Rd w b s a l o) (i : Nat) : w.frozen? ⟨b, i, none⟩ = false := by simp [World.frozen?, (show w.heap[b]? = _ from h)]
theorem Rd.lt {w : World} {b : Nat} {s : ByteArray} {a : Nat} {l : Value} {o : Int} (h : Rd w b s a l o) : b < w.heap.size := (Array.getElem?_eq_some_iff.1 (show w.heap[b]? = _ from h)).1
theorem Rd.kept {w w' : World} {b : Nat} {s : ByteArray} {a : Nat} {l : Value} {o : Int} {row : Option Nat} (h : Rd w b s a l o) (g : w.grownBy w' row) (hr : some b ≠ row) : Rd w' b s a l o :=
  (g.block b h.lt hr).trans h
theorem Rd.drewN {w : World} {b : Nat} {s : ByteArray} {a : Nat} {l : Value} {o : Int} (h : Rd w b s a l o) (n : Nat) : Rd (w.drewN n) b s a l o := h
theorem Rd.set1 {w : World} {b : Nat} {s : ByteArray} {a : Nat} {l : Value} {o : Int} (h : Rd w b s a l o) {x : Int} {a' : Nat} (hx : x = (a' : Int)) : Rd (w.setCell ⟨b, 1, none⟩ (.int .i64 x)) b s a' l o := by
  subst hx; exact heap_setCell_same w b 1 _ _ _ h
theorem Rd.set2 {w : World} {b : Nat} {s : ByteArray} {a : Nat} {l : Value} {o : Int} (h : Rd w b s a l o) (l' : Value) : Rd (w.setCell ⟨b, 2, none⟩ l') b s a l' o :=
  heap_setCell_same w b 2 _ _ _ h
theorem Rd.set3 {w : World} {b : Nat} {s : ByteArray} {a : Nat} {l : Value} {o : Int} (h : Rd w b s a l o) (o' : Int) : Rd (w.setCell ⟨b, 3, none⟩ (.int .i64 o')) b s a l o' :=
  heap_setCell_same w b 3 _ _ _ h

theorem grown_trans {w w1 w2 : World} {r : Option Nat} (h : w.grownBy w1 r) (k : w1.grownBy w2 r) : w.grownBy w2 r :=
  ⟨k.os.trans h.os, k.tape.trans h.tape, k.output.trans h.output, Nat.le_trans h.size k.size, fun i hi hr => (k.block i (Nat.lt_of_lt_of_le hi h.size) hr).trans (h.block i hi hr)⟩
theorem grown_set (w : World) (p : Addr) (v : Value) : w.grownBy (w.setCell p v) (some p.block) :=
  ⟨rfl, rfl, rfl, by simp [World.setCell], fun k _ hr => Below.heap_setCell _ _ _ _ (fun e => hr (by rw [e]))⟩
theorem grown_drewN (w : World) (n : Nat) (r : Option Nat) : w.grownBy (w.drewN n) r := ⟨rfl, rfl, rfl, Nat.le_refl _, fun _ _ _ => rfl⟩
theorem now0 {b : Nat} {s : ByteArray} {a : Nat} {l : Value} {o : Int} {w : World} (hr : Rd w b s a l o) (hs : s.size ≤ 1000000) (ha : a ≤ s.size) :
    Calls Tryz.prog 95 #[.pointer (some ⟨b, 0, none⟩), .int .i64 0] w fun e w' => e = .returned (.int .u8 (byteAt s a : Int)) ∧ ∃ n, w' = w.drewN n :=
  now_any b 0 s a 0 w hs ha (by omega) hr.c0 hr.c1
theorem now1 {b : Nat} {s : ByteArray} {a : Nat} {l : Value} {o : Int} {w : World} (hr : Rd w b s a l o) (hs : s.size ≤ 1000000) (ha : a ≤ s.size) :
    Calls Tryz.prog 95 #[.pointer (some ⟨b, 0, none⟩), .int .i64 1] w fun e w' => e = .returned (.int .u8 (byteAt s (a + 1) : Int)) ∧ ∃ n, w' = w.drewN n :=
  now_any b 0 s a 1 w hs ha (by omega) hr.c0 hr.c1

theorem more_any {b : Nat} {s : ByteArray} {a : Nat} {l : Value} {o : Int} {w : World} (hr : Rd w b s a l o) (_hs : s.size ≤ 1000000) (_ha : a ≤ s.size) :
    Calls Tryz.prog 94 #[.pointer (some ⟨b, 0, none⟩)] w fun e w' => e = .returned (.bool (decide (a < s.size))) ∧ ∃ n, w' = w.drewN n := by
  have h0 := hr.c0; have h1 := hr.c1
  go_enter Tryz.func94, Tryz.ntmps94
  go_wp2
  go_quiet (fail)
  go_wp2
  go_ret
  exact ⟨ret_bool (by simp), _, rfl⟩

theorem more_t {b : Nat} {s : ByteArray} {a : Nat} {l : Value} {o : Int} {w : World} (hr : Rd w b s a l o) (hs : s.size ≤ 1000000) (ha : a < s.size) :
    Calls Tryz.prog 94 #[.pointer (some ⟨b, 0, none⟩)] w fun e w' => e = .returned (.bool true) ∧ ∃ n, w' = w.drewN n := by
  have := more_any hr hs (by omega); rwa [decide_eq_true ha] at this
theorem more_f {b : Nat} {s : ByteArray} {l : Value} {o : Int} {w : World} (hr : Rd w b s s.size l o) (hs : s.size ≤ 1000000) :
    Calls Tryz.prog 94 #[.pointer (some ⟨b, 0, none⟩)] w fun e w' => e = .returned (.bool false) ∧ ∃ n, w' = w.drewN n := by
  have := more_any hr hs (by omega); rwa [decide_eq_false (by omega)] at this

theorem comment_any {b : Nat} {s : ByteArray} {a : Nat} {l : Value} {o : Int} {w : World} (hr : Rd w b s a l o) (hs : s.size ≤ 1000000) (ha : a ≤ s.size) :
    Calls Tryz.prog 96 #[.pointer (some ⟨b, 0, none⟩)] w fun e w' => e = .returned (.bool (decide (byteAt s a = 47) && decide (byteAt s (a + 1) = 47))) ∧ ∃ n, w' = w.drewN n := by
  by_cases k1 : byteAt s a = 47
  · by_cases k2 : byteAt s (a + 1) = 47
    · have e1 : ((byteAt s a : Int) == 47) = true := beq_iff_eq.2 (by omega)
      have e2 : ((byteAt s (a + 1) : Int) == 47) = true := beq_iff_eq.2 (by omega)
      have K1 := Lib.hid k1; clear k1
      have K2 := Lib.hid k2; clear k2
      go_enter Tryz.func96, Tryz.ntmps96
      go_wp2_with (first | (go_at_call 95; (with_reducible refine (now0 hr hs ha).mono ?_); rintro e w' ⟨rfl, n0, rfl⟩) | (go_at_call 95; (with_reducible refine (now1 (hr.drewN _) hs ha).mono ?_); rintro e w' ⟨rfl, n1, rfl⟩))
      go_ret
      exact ⟨ret_bool (by simp [K1.out, K2.out]), _, rfl⟩
    · have e1 : ((byteAt s a : Int) == 47) = true := beq_iff_eq.2 (by omega)
      have e2 : ((byteAt s (a + 1) : Int) == 47) = false := beq_eq_false_iff_ne.2 (by omega)
      have K1 := Lib.hid k1; clear k1
      have K2 := Lib.hid k2; clear k2
      go_enter Tryz.func96, Tryz.ntmps96
      go_wp2_with (first | (go_at_call 95; (with_reducible refine (now0 hr hs ha).mono ?_); rintro e w' ⟨rfl, n0, rfl⟩) | (go_at_call 95; (with_reducible refine (now1 (hr.drewN _) hs ha).mono ?_); rintro e w' ⟨rfl, n1, rfl⟩))
      go_ret
      exact ⟨ret_bool (by simp [K1.out, K2.out]), _, rfl⟩
  · have e1 : ((byteAt s a : Int) == 47) = false := beq_eq_false_iff_ne.2 (by omega)
    have K1 := Lib.hid k1; clear k1
    go_enter Tryz.func96, Tryz.ntmps96
    go_wp2_with (go_at_call 95; refine (now0 hr hs ha).mono ?_; rintro e w' ⟨rfl, n0, rfl⟩)
    go_ret
    exact ⟨ret_bool (by simp [K1.out]), _, rfl⟩

theorem comment_t {b : Nat} {s : ByteArray} {a : Nat} {l : Value} {o : Int} {w : World} (hr : Rd w b s a l o) (hs : s.size ≤ 1000000) (ha : a ≤ s.size) (h : (decide (byteAt s a = 47) && decide (byteAt s (a + 1) = 47)) = true) :
    Calls Tryz.prog 96 #[.pointer (some ⟨b, 0, none⟩)] w fun e w' => e = .returned (.bool true) ∧ ∃ n, w' = w.drewN n := h ▸ comment_any hr hs ha
theorem comment_f {b : Nat} {s : ByteArray} {a : Nat} {l : Value} {o : Int} {w : World} (hr : Rd w b s a l o) (hs : s.size ≤ 1000000) (ha : a ≤ s.size) (h : (decide (byteAt s a = 47) && decide (byteAt s (a + 1) = 47)) = false) :
    Calls Tryz.prog 96 #[.pointer (some ⟨b, 0, none⟩)] w fun e w' => e = .returned (.bool false) ∧ ∃ n, w' = w.drewN n := h ▸ comment_any hr hs ha

theorem opens_any {b : Nat} {s : ByteArray} {a : Nat} {l : Value} {o : Int} {w : World} (hr : Rd w b s a l o) (hs : s.size ≤ 1000000) (ha : a ≤ s.size) (ho : 0 ≤ o) (ho' : o ≤ 1000000) :
    Calls Tryz.prog 120 #[.pointer (some ⟨b, 0, none⟩)] w fun e w' => e = .returned (.tuple #[]) ∧ Rd w' b s (a + 1) l (o + 1) ∧ w.grownBy w' (some b) := by
  have c1 := hr.c1; have c3 := hr.c3; have f1 := hr.fr 1; have f3 := hr.fr 3
  have HR := Lib.hid hr; clear hr
  go_enter Tryz.func120, Tryz.ntmps120
  go_wp2
  go_end0
  exact ⟨rfl, (HR.out.set3 _).set1 (by simp), grown_trans (grown_set _ _ _) (grown_set _ ⟨b, 1, none⟩ _)⟩
theorem closes_any {b : Nat} {s : ByteArray} {a : Nat} {l : Value} {o : Int} {w : World} (hr : Rd w b s a l o) (hs : s.size ≤ 1000000) (ha : a ≤ s.size) (ho : 1 ≤ o) (ho' : o ≤ 1000000) :
    Calls Tryz.prog 121 #[.pointer (some ⟨b, 0, none⟩)] w fun e w' => e = .returned (.tuple #[]) ∧ Rd w' b s (a + 1) l (o - 1) ∧ w.grownBy w' (some b) := by
  have c1 := hr.c1; have c3 := hr.c3; have f1 := hr.fr 1; have f3 := hr.fr 3
  have HR := Lib.hid hr; clear hr
  go_enter Tryz.func121, Tryz.ntmps121
  go_wp2
  go_end0
  exact ⟨rfl, (HR.out.set3 _).set1 (by simp), grown_trans (grown_set _ _ _) (grown_set _ ⟨b, 1, none⟩ _)⟩

/-- the lexer's own panic -/
def thrown (e : Int) : List PanicEntry := [{ v := .iface 139 (.agg #[.int .i64 e]), recovered := false }]
theorem no_any (x : Int) (w : World) : Calls Tryz.prog 110 #[.int .i64 x] w fun e w' => e = .panicked (thrown x) ∧ w = w' := by
  go_enter Tryz.func110, Tryz.ntmps110
  go_wp2
  exact ⟨rfl, rfl, rfl⟩
end Go.Proofs.YtghebacphjglbaaGreat.LexA
