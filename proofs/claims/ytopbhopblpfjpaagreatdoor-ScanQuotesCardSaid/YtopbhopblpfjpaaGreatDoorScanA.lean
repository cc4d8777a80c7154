/- The scanner's small functions, walked. (Printed by scan_a.py.) -/
import Derived.Test.YtopbhopblpfjpaaGreatDoorScanPlain1
import Derived.Test.YtopbhopblpfjpaaGreatDoorBase
import Derived.Test.YtopbhopblpfjpaaGreatDoorShelf
namespace Go.Proofs.YtopbhopblpfjpaaGreatDoor.ScanA
open Go.RowKit Go.Proofs.YtopbhopblpfjpaaGreatDoor.Lexy Go.Proofs.YtopbhopblpfjpaaGreatDoor.Heap Go.Proofs.YtopbhopblpfjpaaGreatDoor.Base Go.Proofs.YtopbhopblpfjpaaGreatDoor.Scany

theorem letter_any (n : Nat) (w : World) :
    Calls Tryz.prog 78 #[.int .u8 (n : Int)] w fun e w' => e = .returned (.bool (letN n)) ∧ w = w' := by
  by_cases h1 : (97 : Int) ≤ (n : Int) <;> by_cases h2 : (n : Int) ≤ 122 <;> by_cases h3 : (65 : Int) ≤ (n : Int) <;> by_cases h4 : (n : Int) ≤ 90 <;> by_cases h5 : n = 95 <;> first
    | omega
    | (have k5 : ((n : Int) == 95) = decide (n = 95) := by simp [h5]; try omega
       go_enter Tryz.func78, Tryz.ntmps78
       go_wp2
       go_ret
       exact ⟨ret_bool (by unfold letN; simp; try omega), rfl⟩)
theorem digit_any (n : Nat) (w : World) :
    Calls Tryz.prog 80 #[.int .u8 (n : Int)] w fun e w' => e = .returned (.bool (digN n)) ∧ w = w' := by
  by_cases h1 : (48 : Int) ≤ (n : Int) <;> by_cases h2 : (n : Int) ≤ 57
  all_goals
    go_enter Tryz.func80, Tryz.ntmps80
    go_wp2
    go_ret
    exact ⟨ret_bool (by unfold digN; simp; try omega), rfl⟩
theorem letter_is {n : Nat} {w : World} {v : Bool} (h : letN n = v) : Calls Tryz.prog 78 #[.int .u8 (n : Int)] w fun e w' => e = .returned (.bool v) ∧ w = w' := (letter_any n w).mono fun _ _ ⟨h1, h2⟩ => ⟨by rw [h1, h], h2⟩
theorem digit_is {n : Nat} {w : World} {v : Bool} (h : digN n = v) : Calls Tryz.prog 80 #[.int .u8 (n : Int)] w fun e w' => e = .returned (.bool v) ∧ w = w' := (digit_any n w).mono fun _ _ ⟨h1, h2⟩ => ⟨by rw [h1, h], h2⟩
theorem ld_is {n : Nat} {w : World} {v : Bool} (h : ldN n = v) : Calls Tryz.prog 136 #[.int .u8 (n : Int)] w fun e w' => e = .returned (.bool v) ∧ w = w' := by
  cases hl : letN n with
  | true =>
    have HV := Lib.hid (show true = v by rw [← h, ldN, hl]; rfl)
    have HL := Lib.hid hl; clear hl h
    go_enter Tryz.func136, Tryz.ntmps136
    go_wp2_with (go_at_call 78; (with_reducible refine (letter_is HL.out).mono ?_); rintro e w' ⟨rfl, rfl⟩)
    go_ret
    exact ⟨ret_bool HV.out, rfl⟩
  | false =>
    have HD := Lib.hid (show digN n = v by rw [← h, ldN, hl]; rfl)
    have HL := Lib.hid hl; clear hl h
    go_enter Tryz.func136, Tryz.ntmps136
    go_wp2_with (first | (go_at_call 78; (with_reducible refine (letter_is HL.out).mono ?_); rintro e w' ⟨rfl, rfl⟩) | (go_at_call 80; (with_reducible refine (digit_is HD.out).mono ?_); rintro e w' ⟨rfl, rfl⟩))
    go_ret
    exact ⟨rfl, rfl⟩
/-- no line's end -/
def nlN (n : Nat) : Bool := decide (n ≠ 10)
theorem nl_is {n : Nat} {w : World} {v : Bool} (h : nlN n = v) : Calls Tryz.prog 30 #[.int .u8 (n : Int)] w fun e w' => e = .returned (.bool v) ∧ w = w' := by
  have k5 : ((n : Int) != 10) = v := by rw [← h]; unfold nlN; by_cases e : n = 10 <;> simp [e]; omega
  clear h
  go_enter Tryz.func30, Tryz.ntmps30
  go_wp2
  go_ret
  exact ⟨rfl, rfl⟩

/-- the scanner: its text, its place, its tokens -/
def Sc (w : World) (b : Nat) (s : ByteArray) (a : Nat) (l : Value) : Prop :=
  w.heap[b]? = some (.cells #[.string s, .int .i64 (a : Int), l] 44 (0, 0))
section
variable {w w' : World} {b : Nat} {s : ByteArray} {a : Nat} {l : Value}
theorem Sc.c0 (h : Sc w b s a l) : w.cell? ⟨b, 0, none⟩ = some (.string s) := by simp [World.cell?, (show w.heap[b]? = _ from h)]
theorem Sc.c1 (h : Sc w b s a l) : w.cell? ⟨b, 1, none⟩ = some (.int .i64 (a : Int)) := by simp [World.cell?, (show w.heap[b]? = _ from h)]
theorem Sc.c2 (h : Sc w b s a l) : w.cell? ⟨b, 2, none⟩ = some l := by simp [World.cell?, (show w.heap[b]? = _ from h)]
theorem Sc.fr (h : Sc w b s a l) (i : Nat) : w.frozen? ⟨b, i, none⟩ = false := by simp [World.frozen?, (show w.heap[b]? = _ from h)]
theorem Sc.lt (h : Sc w b s a l) : b < w.heap.size := (Array.getElem?_eq_some_iff.1 (show w.heap[b]? = _ from h)).1
theorem Sc.kept {row : Option Nat} (h : Sc w b s a l) (g : w.grownBy w' row) (hr : some b ≠ row) : Sc w' b s a l := (g.block b h.lt hr).trans h
theorem Sc.new (h : Sc w b s a l) (g : Below w.heap.size w w') : Sc w' b s a l := (g.block b h.lt).trans h
theorem Sc.drewN (h : Sc w b s a l) (n : Nat) : Sc (w.drewN n) b s a l := h
theorem Sc.set1 (h : Sc w b s a l) {x : Int} {a' : Nat} (hx : x = (a' : Int)) : Sc (w.setCell ⟨b, 1, none⟩ (.int .i64 x)) b s a' l := by
  subst hx; exact heap_setCell_same w b 1 _ _ _ h
theorem Sc.set2 (h : Sc w b s a l) (l' : Value) : Sc (w.setCell ⟨b, 2, none⟩ l') b s a l' := heap_setCell_same w b 2 _ _ _ h
end

theorem now_any {b : Nat} {s : ByteArray} {a : Nat} {l : Value} {w : World} (k : Nat) (hr : Sc w b s a l) (hs : s.size ≤ 1000000) (ha : a ≤ s.size + 10) (hk : k ≤ 10) :
    Calls Tryz.prog 28 #[.pointer (some ⟨b, 0, none⟩), .int .i64 (k : Int)] w fun e w' => e = .returned (.int .u8 (byteAt s (a + k) : Int)) ∧ ∃ n, w' = w.drewN n := by
  have h0 := hr.c0; have h1 := hr.c1
  by_cases h : a + k < s.size
  · have e1 : IntKind.i64.wrap ((a : Int) + (k : Int)) = (a : Int) + (k : Int) := IntWalk.i64_in _ (by omega)
    have e2 : (0 : Int) ≤ (a : Int) + (k : Int) := by omega
    have e3 : ((a : Int) + (k : Int)).toNat = a + k := by omega
    have hb : byteAt s (a + k) = s[a + k].toNat := by unfold byteAt; rw [dif_pos h]
    have HB := Lib.hid hb; clear hb
    go_enter Tryz.func28, Tryz.ntmps28
    go_wp2
    go_quiet (fail)
    go_wp2
    go_quiet (fail)
    go_wp2
    go_ret
    exact ⟨by rw [HB.out]; rfl, _, World.drewN_drewN _ _ _⟩
  · have hb : byteAt s (a + k) = 0 := by unfold byteAt; rw [dif_neg h]
    have HB := Lib.hid hb; clear hb
    go_enter Tryz.func28, Tryz.ntmps28
    go_wp2
    go_quiet (fail)
    go_wp2
    go_ret
    exact ⟨by rw [HB.out]; rfl, _, rfl⟩
theorem now0 {b : Nat} {s : ByteArray} {a v : Nat} {l : Value} {w : World} (hr : Sc w b s a l) (hs : s.size ≤ 1000000) (ha : a ≤ s.size + 10) (hv : byteAt s a = v) :
    Calls Tryz.prog 28 #[.pointer (some ⟨b, 0, none⟩), .int .i64 0] w fun e w' => e = .returned (.int .u8 (v : Int)) ∧ ∃ n, w' = w.drewN n := by
  subst hv; exact now_any 0 hr hs ha (by omega)
theorem now1 {b : Nat} {s : ByteArray} {a v : Nat} {l : Value} {w : World} (hr : Sc w b s a l) (hs : s.size ≤ 1000000) (ha : a ≤ s.size + 10) (hv : byteAt s (a + 1) = v) :
    Calls Tryz.prog 28 #[.pointer (some ⟨b, 0, none⟩), .int .i64 1] w fun e w' => e = .returned (.int .u8 (v : Int)) ∧ ∃ n, w' = w.drewN n := by
  subst hv; exact now_any 1 hr hs ha (by omega)
theorem now2 {b : Nat} {s : ByteArray} {a v : Nat} {l : Value} {w : World} (hr : Sc w b s a l) (hs : s.size ≤ 1000000) (ha : a ≤ s.size + 10) (hv : byteAt s (a + 2) = v) :
    Calls Tryz.prog 28 #[.pointer (some ⟨b, 0, none⟩), .int .i64 2] w fun e w' => e = .returned (.int .u8 (v : Int)) ∧ ∃ n, w' = w.drewN n := by
  subst hv; exact now_any 2 hr hs ha (by omega)
theorem get_at {s : ByteArray} {k : Nat} (h : k < s.size) : byteAt s k = s[k].toNat := by unfold byteAt; rw [dif_pos h]

/-- the scanner's own panic -/
def thrown (e : Int) : List PanicEntry := [{ v := .iface 46 (.agg #[.int .i64 e]), recovered := false }]
theorem no_any (w : World) : Calls Tryz.prog 138 #[] w fun e w' => e = .panicked (thrown 101) ∧ w = w' := by
  go_enter Tryz.func138, Tryz.ntmps138
  go_wp2
  exact ⟨rfl, rfl, rfl⟩

theorem ld_step {s : ByteArray} {k : Nat} (hlt : k < s.size) (h : ldN (byteAt s k) = true) : runL (rest s k) = runL (rest s (k + 1)) + 1 := by
  obtain ⟨c, h1, h2⟩ := rest_cons hlt
  rw [h2] at h
  rw [h1, runL]
  rw [if_pos h]
theorem ld_stop {s : ByteArray} {k : Nat} (h : k < s.size → ldN (byteAt s k) = false) : runL (rest s k) = 0 := by
  by_cases hlt : k < s.size
  · obtain ⟨c, h1, h2⟩ := rest_cons hlt
    have h := h hlt
    rw [h2] at h
    rw [h1, runL]
    rw [if_neg (by simp [h])]
  · rw [(rest_nil (by omega)).1]; rfl
set_option maxRecDepth 100000 in
set_option maxHeartbeats 1000000 in
theorem run_ld {b : Nat} {s : ByteArray} {a : Nat} {l : Value} {w : World} (hr : Sc w b s a l) (hs : s.size ≤ 1000000) (ha : a ≤ s.size) :
    Calls Tryz.prog 29 #[.pointer (some ⟨b, 0, none⟩), .func (.func 136) #[] #[]] w fun e w' =>
      e = .returned (.string (bs ((rest s a).take (runL (rest s a))))) ∧ Sc w' b s (a + runL (rest s a)) l ∧ w.grownBy w' (some b) := by
  have hw := grown_refl w (some b)
  have cc1 := hr.c1
  go_enter Tryz.func29, Tryz.ntmps29
  go_wp2
  clear cc1
  go_loopg [] (s.size - a) (fun g wr => ∃ k, a ≤ k ∧ k ≤ s.size ∧ g = s.size - k ∧ k + runL (rest s k) = a + runL (rest s a) ∧ Sc wr b s k l ∧ w.grownBy wr (some b))
  case atStart => exact ⟨a, Nat.le_refl _, ha, rfl, rfl, hr, hw⟩
  case round =>
    clear hw hr
    obtain ⟨k, hk1, hk2, rfl, hov, hrk, hgk⟩ := hrel
    have HO := Lib.hid hov; clear hov
    have c0 := hrk.c0; have c1 := hrk.c1; have f1 := hrk.fr 1
    have j0 : (0 : Int) ≤ (k : Int) := by omega
    have fin : (k < s.size → ldN (byteAt s k) = false) → k = a + runL (rest s a) := fun h => by have := HO.out; rw [ld_stop h] at this; omega
    have HF := Lib.hid fin; clear fin
    by_cases hlt : k < s.size
    · have j1 : (k : Int) < (s.size : Int) := by omega
      have hget := get_at hlt
      cases hp : ldN (byteAt s k) with
      | true =>
        have HS := Lib.hid (ld_step hlt hp)
        rw [hget] at hp
        have HP := Lib.hid hp; clear hp hget
        go_wp2
        go_quiet ((go_at_call 136; exact Calls.quiet_of_same ((ld_is HP.out).mono fun _ _ h => ⟨h.1, h.2.symm⟩)))
        go_wp2
        go_roundg (s.size - (k + 1))
        case measure => omega
        case rel => exact ⟨k + 1, by omega, by omega, rfl, by have := HO.out; have := HS.out; omega, (hrk.drewN _).set1 (by simp), grown_trans hgk (grown_trans (grown_drewN _ _ _) (grown_set _ ⟨b, 1, none⟩ _))⟩
      | false =>
        have HK := Lib.hid (HF.out (fun _ => hp))
        rw [hget] at hp
        have HP := Lib.hid hp; clear hp hget HO
        have hfit : (a : Int) ≤ (k : Int) := by omega
        have hfi2 : (k : Int) ≤ (s.size : Int) := by omega
        have hfi3 : (0 : Int) ≤ (a : Int) := by omega
        have HE := Lib.hid (show s.extract a k = bs ((rest s a).take (runL (rest s a))) by rw [HK.out]; exact bs_extract s a (runL (rest s a)) (by rw [← HK.out]; exact hk2))
        go_wp2
        go_quiet ((go_at_call 136; exact Calls.quiet_of_same ((ld_is HP.out).mono fun _ _ h => ⟨h.1, h.2.symm⟩)))
        go_wp2
        go_quiet (fail)
        go_wp2
        go_ret
        exact ⟨ret_str HE.out, by rw [← HK.out]; exact (hrk.drewN _).drewN _, grown_trans hgk (grown_trans (grown_drewN _ _ _) (grown_drewN _ _ _))⟩
    · have HK := Lib.hid (HF.out (fun h => absurd h hlt))
      clear HO
      have j1 : decide (k < s.size) = false := by simp; omega
      have hfit : (a : Int) ≤ (k : Int) := by omega
      have hfi2 : (k : Int) ≤ (s.size : Int) := by omega
      have hfi3 : (0 : Int) ≤ (a : Int) := by omega
      have HE := Lib.hid (show s.extract a k = bs ((rest s a).take (runL (rest s a))) by rw [HK.out]; exact bs_extract s a (runL (rest s a)) (by rw [← HK.out]; exact hk2))
      go_wp2
      go_quiet (fail)
      go_wp2
      go_quiet (fail)
      go_wp2
      go_ret
      exact ⟨ret_str HE.out, by rw [← HK.out]; exact (hrk.drewN _).drewN _, grown_trans hgk (grown_trans (grown_drewN _ _ _) (grown_drewN _ _ _))⟩

theorem digit_step {s : ByteArray} {k : Nat} (hlt : k < s.size) (h : digN (byteAt s k) = true) : digL (rest s k) = digL (rest s (k + 1)) + 1 := by
  obtain ⟨c, h1, h2⟩ := rest_cons hlt
  rw [h2] at h
  rw [h1, digL]
  rw [if_pos h]
theorem digit_stop {s : ByteArray} {k : Nat} (h : k < s.size → digN (byteAt s k) = false) : digL (rest s k) = 0 := by
  by_cases hlt : k < s.size
  · obtain ⟨c, h1, h2⟩ := rest_cons hlt
    have h := h hlt
    rw [h2] at h
    rw [h1, digL]
    rw [if_neg (by simp [h])]
  · rw [(rest_nil (by omega)).1]; rfl
set_option maxRecDepth 100000 in
set_option maxHeartbeats 1000000 in
theorem run_digit {b : Nat} {s : ByteArray} {a : Nat} {l : Value} {w : World} (hr : Sc w b s a l) (hs : s.size ≤ 1000000) (ha : a ≤ s.size) :
    Calls Tryz.prog 29 #[.pointer (some ⟨b, 0, none⟩), .func (.func 80) #[] #[]] w fun e w' =>
      e = .returned (.string (bs ((rest s a).take (digL (rest s a))))) ∧ Sc w' b s (a + digL (rest s a)) l ∧ w.grownBy w' (some b) := by
  have hw := grown_refl w (some b)
  have cc1 := hr.c1
  go_enter Tryz.func29, Tryz.ntmps29
  go_wp2
  clear cc1
  go_loopg [] (s.size - a) (fun g wr => ∃ k, a ≤ k ∧ k ≤ s.size ∧ g = s.size - k ∧ k + digL (rest s k) = a + digL (rest s a) ∧ Sc wr b s k l ∧ w.grownBy wr (some b))
  case atStart => exact ⟨a, Nat.le_refl _, ha, rfl, rfl, hr, hw⟩
  case round =>
    clear hw hr
    obtain ⟨k, hk1, hk2, rfl, hov, hrk, hgk⟩ := hrel
    have HO := Lib.hid hov; clear hov
    have c0 := hrk.c0; have c1 := hrk.c1; have f1 := hrk.fr 1
    have j0 : (0 : Int) ≤ (k : Int) := by omega
    have fin : (k < s.size → digN (byteAt s k) = false) → k = a + digL (rest s a) := fun h => by have := HO.out; rw [digit_stop h] at this; omega
    have HF := Lib.hid fin; clear fin
    by_cases hlt : k < s.size
    · have j1 : (k : Int) < (s.size : Int) := by omega
      have hget := get_at hlt
      cases hp : digN (byteAt s k) with
      | true =>
        have HS := Lib.hid (digit_step hlt hp)
        rw [hget] at hp
        have HP := Lib.hid hp; clear hp hget
        go_wp2
        go_quiet ((go_at_call 80; exact Calls.quiet_of_same ((digit_is HP.out).mono fun _ _ h => ⟨h.1, h.2.symm⟩)))
        go_wp2
        go_roundg (s.size - (k + 1))
        case measure => omega
        case rel => exact ⟨k + 1, by omega, by omega, rfl, by have := HO.out; have := HS.out; omega, (hrk.drewN _).set1 (by simp), grown_trans hgk (grown_trans (grown_drewN _ _ _) (grown_set _ ⟨b, 1, none⟩ _))⟩
      | false =>
        have HK := Lib.hid (HF.out (fun _ => hp))
        rw [hget] at hp
        have HP := Lib.hid hp; clear hp hget HO
        have hfit : (a : Int) ≤ (k : Int) := by omega
        have hfi2 : (k : Int) ≤ (s.size : Int) := by omega
        have hfi3 : (0 : Int) ≤ (a : Int) := by omega
        have HE := Lib.hid (show s.extract a k = bs ((rest s a).take (digL (rest s a))) by rw [HK.out]; exact bs_extract s a (digL (rest s a)) (by rw [← HK.out]; exact hk2))
        go_wp2
        go_quiet ((go_at_call 80; exact Calls.quiet_of_same ((digit_is HP.out).mono fun _ _ h => ⟨h.1, h.2.symm⟩)))
        go_wp2
        go_quiet (fail)
        go_wp2
        go_ret
        exact ⟨ret_str HE.out, by rw [← HK.out]; exact (hrk.drewN _).drewN _, grown_trans hgk (grown_trans (grown_drewN _ _ _) (grown_drewN _ _ _))⟩
    · have HK := Lib.hid (HF.out (fun h => absurd h hlt))
      clear HO
      have j1 : decide (k < s.size) = false := by simp; omega
      have hfit : (a : Int) ≤ (k : Int) := by omega
      have hfi2 : (k : Int) ≤ (s.size : Int) := by omega
      have hfi3 : (0 : Int) ≤ (a : Int) := by omega
      have HE := Lib.hid (show s.extract a k = bs ((rest s a).take (digL (rest s a))) by rw [HK.out]; exact bs_extract s a (digL (rest s a)) (by rw [← HK.out]; exact hk2))
      go_wp2
      go_quiet (fail)
      go_wp2
      go_quiet (fail)
      go_wp2
      go_ret
      exact ⟨ret_str HE.out, by rw [← HK.out]; exact (hrk.drewN _).drewN _, grown_trans hgk (grown_trans (grown_drewN _ _ _) (grown_drewN _ _ _))⟩

theorem nl_step {s : ByteArray} {k : Nat} (hlt : k < s.size) (h : nlN (byteAt s k) = true) : overL (rest s k) = overL (rest s (k + 1)) + 1 := by
  obtain ⟨c, h1, h2⟩ := rest_cons hlt
  rw [h2] at h
  rw [h1, overL]
  simp [nlN] at h; rw [if_neg h]
theorem nl_stop {s : ByteArray} {k : Nat} (h : k < s.size → nlN (byteAt s k) = false) : overL (rest s k) = 0 := by
  by_cases hlt : k < s.size
  · obtain ⟨c, h1, h2⟩ := rest_cons hlt
    have h := h hlt
    rw [h2] at h
    rw [h1, overL]
    simp [nlN] at h; rw [if_pos h]
  · rw [(rest_nil (by omega)).1]; rfl
set_option maxRecDepth 100000 in
set_option maxHeartbeats 1000000 in
theorem run_nl {b : Nat} {s : ByteArray} {a : Nat} {l : Value} {w : World} (hr : Sc w b s a l) (hs : s.size ≤ 1000000) (ha : a ≤ s.size) :
    Calls Tryz.prog 29 #[.pointer (some ⟨b, 0, none⟩), .func (.func 30) #[] #[]] w fun e w' =>
      e = .returned (.string (bs ((rest s a).take (overL (rest s a))))) ∧ Sc w' b s (a + overL (rest s a)) l ∧ w.grownBy w' (some b) := by
  have hw := grown_refl w (some b)
  have cc1 := hr.c1
  go_enter Tryz.func29, Tryz.ntmps29
  go_wp2
  clear cc1
  go_loopg [] (s.size - a) (fun g wr => ∃ k, a ≤ k ∧ k ≤ s.size ∧ g = s.size - k ∧ k + overL (rest s k) = a + overL (rest s a) ∧ Sc wr b s k l ∧ w.grownBy wr (some b))
  case atStart => exact ⟨a, Nat.le_refl _, ha, rfl, rfl, hr, hw⟩
  case round =>
    clear hw hr
    obtain ⟨k, hk1, hk2, rfl, hov, hrk, hgk⟩ := hrel
    have HO := Lib.hid hov; clear hov
    have c0 := hrk.c0; have c1 := hrk.c1; have f1 := hrk.fr 1
    have j0 : (0 : Int) ≤ (k : Int) := by omega
    have fin : (k < s.size → nlN (byteAt s k) = false) → k = a + overL (rest s a) := fun h => by have := HO.out; rw [nl_stop h] at this; omega
    have HF := Lib.hid fin; clear fin
    by_cases hlt : k < s.size
    · have j1 : (k : Int) < (s.size : Int) := by omega
      have hget := get_at hlt
      cases hp : nlN (byteAt s k) with
      | true =>
        have HS := Lib.hid (nl_step hlt hp)
        rw [hget] at hp
        have HP := Lib.hid hp; clear hp hget
        go_wp2
        go_quiet ((go_at_call 30; exact Calls.quiet_of_same ((nl_is HP.out).mono fun _ _ h => ⟨h.1, h.2.symm⟩)))
        go_wp2
        go_roundg (s.size - (k + 1))
        case measure => omega
        case rel => exact ⟨k + 1, by omega, by omega, rfl, by have := HO.out; have := HS.out; omega, (hrk.drewN _).set1 (by simp), grown_trans hgk (grown_trans (grown_drewN _ _ _) (grown_set _ ⟨b, 1, none⟩ _))⟩
      | false =>
        have HK := Lib.hid (HF.out (fun _ => hp))
        rw [hget] at hp
        have HP := Lib.hid hp; clear hp hget HO
        have hfit : (a : Int) ≤ (k : Int) := by omega
        have hfi2 : (k : Int) ≤ (s.size : Int) := by omega
        have hfi3 : (0 : Int) ≤ (a : Int) := by omega
        have HE := Lib.hid (show s.extract a k = bs ((rest s a).take (overL (rest s a))) by rw [HK.out]; exact bs_extract s a (overL (rest s a)) (by rw [← HK.out]; exact hk2))
        go_wp2
        go_quiet ((go_at_call 30; exact Calls.quiet_of_same ((nl_is HP.out).mono fun _ _ h => ⟨h.1, h.2.symm⟩)))
        go_wp2
        go_quiet (fail)
        go_wp2
        go_ret
        exact ⟨ret_str HE.out, by rw [← HK.out]; exact (hrk.drewN _).drewN _, grown_trans hgk (grown_trans (grown_drewN _ _ _) (grown_drewN _ _ _))⟩
    · have HK := Lib.hid (HF.out (fun h => absurd h hlt))
      clear HO
      have j1 : decide (k < s.size) = false := by simp; omega
      have hfit : (a : Int) ≤ (k : Int) := by omega
      have hfi2 : (k : Int) ≤ (s.size : Int) := by omega
      have hfi3 : (0 : Int) ≤ (a : Int) := by omega
      have HE := Lib.hid (show s.extract a k = bs ((rest s a).take (overL (rest s a))) by rw [HK.out]; exact bs_extract s a (overL (rest s a)) (by rw [← HK.out]; exact hk2))
      go_wp2
      go_quiet (fail)
      go_wp2
      go_quiet (fail)
      go_wp2
      go_ret
      exact ⟨ret_str HE.out, by rw [← HK.out]; exact (hrk.drewN _).drewN _, grown_trans hgk (grown_trans (grown_drewN _ _ _) (grown_drewN _ _ _))⟩

end Go.Proofs.YtopbhopblpfjpaaGreatDoor.ScanA
