/- The document's scanner: its small functions and loops, walked. -/
import Derived.Test.YtopbhopblpfjpaaGreatDoorScanPlain1
import Derived.Test.YtopbhopblpfjpaaGreatDoorScanPlain2
import Derived.Test.YtopbhopblpfjpaaGreatDoorBase
import Derived.IntWalk
namespace Go.Proofs.YtopbhopblpfjpaaGreatDoor.RfA
open Go.RowKit Go.Proofs.YtopbhopblpfjpaaGreatDoor.Lexy Go.Proofs.YtopbhopblpfjpaaGreatDoor.Heap Go.Proofs.YtopbhopblpfjpaaGreatDoor.Base Go.Proofs.YtopbhopblpfjpaaGreatDoor.Scany

theorem bs_size (l : List UInt8) : (bs l).size = l.length := by simp [bs, ByteArray.size]
theorem get_at {s : ByteArray} {k : Nat} (h : k < s.size) : byteAt s k = s[k].toNat := by unfold byteAt; rw [dif_pos h]
theorem letter_any (n : Nat) (w : World) :
    Calls Tryz.prog 35 #[.int .u8 (n : Int)] w fun e w' => e = .returned (.bool (letN n)) ∧ w = w' := by
  by_cases h1 : (97 : Int) ≤ (n : Int) <;> by_cases h2 : (n : Int) ≤ 122 <;> by_cases h3 : (65 : Int) ≤ (n : Int) <;> by_cases h4 : (n : Int) ≤ 90 <;> by_cases h5 : n = 95 <;> first
    | omega
    | (have k5 : ((n : Int) == 95) = decide (n = 95) := by simp [h5]; try omega
       go_enter Tryz.func35, Tryz.ntmps35
       go_wp2
       go_ret
       exact ⟨ret_bool (by unfold letN; simp; try omega), rfl⟩)
theorem digit_any (n : Nat) (w : World) :
    Calls Tryz.prog 39 #[.int .u8 (n : Int)] w fun e w' => e = .returned (.bool (digN n)) ∧ w = w' := by
  by_cases h1 : (48 : Int) ≤ (n : Int) <;> by_cases h2 : (n : Int) ≤ 57
  all_goals
    go_enter Tryz.func39, Tryz.ntmps39
    go_wp2
    go_ret
    exact ⟨ret_bool (by unfold digN; simp; try omega), rfl⟩
theorem letter_is {n : Nat} {w : World} {v : Bool} (h : letN n = v) : Calls Tryz.prog 35 #[.int .u8 (n : Int)] w fun e w' => e = .returned (.bool v) ∧ w = w' := (letter_any n w).mono fun _ _ ⟨h1, h2⟩ => ⟨by rw [h1, h], h2⟩
theorem digit_is {n : Nat} {w : World} {v : Bool} (h : digN n = v) : Calls Tryz.prog 39 #[.int .u8 (n : Int)] w fun e w' => e = .returned (.bool v) ∧ w = w' := (digit_any n w).mono fun _ _ ⟨h1, h2⟩ => ⟨by rw [h1, h], h2⟩

theorem run_rest {s : ByteArray} {k : Nat} : runL (rest s k) = if ldN (byteAt s k) then runL (rest s (k + 1)) + 1 else 0 := by
  by_cases h : k < s.size
  · obtain ⟨c, h1, h2⟩ := rest_cons h
    rw [h1, h2, runL]
  · rw [(rest_nil (by omega)).1, (rest_nil (s := s) (a := k) (by omega)).2]; rfl
theorem dig_rest {s : ByteArray} {k : Nat} : digL (rest s k) = if digN (byteAt s k) then digL (rest s (k + 1)) + 1 else 0 := by
  by_cases h : k < s.size
  · obtain ⟨c, h1, h2⟩ := rest_cons h
    rw [h1, h2, digL]
  · rw [(rest_nil (by omega)).1, (rest_nil (s := s) (a := k) (by omega)).2]; rfl
theorem run_le (s : ByteArray) (a : Nat) : runL (rest s a) ≤ s.size - a := by have := runL_le (rest s a); rw [rest_len] at this; exact this
theorem dig_le (s : ByteArray) (a : Nat) : digL (rest s a) ≤ s.size - a := by have := digL_le (rest s a); rw [rest_len] at this; exact this

theorem run_r {s : ByteArray} {a : Nat} {w : World} (hs : s.size ≤ 1000000) (ha : a ≤ s.size) :
    Calls Tryz.prog 36 #[.string s, .int .i64 (a : Int)] w fun e w' => e = .returned (.int .i64 ((a + runL (rest s a) : Nat) : Int)) ∧ w = w' := by
  go_enter Tryz.func36, Tryz.ntmps36
  go_wp2
  go_loopg [1] (s.size - a) (fun g i wr => ∃ k, a ≤ k ∧ k ≤ s.size ∧ g = s.size - k ∧ i = .int .i64 (k : Int) ∧ k + runL (rest s k) = a + runL (rest s a) ∧ wr = w)
  case atStart => exact ⟨a, Nat.le_refl _, ha, rfl, rfl, rfl, rfl⟩
  case round =>
    obtain ⟨k, hk1, hk2, rfl, rfl, hov, rfl⟩ := hrel
    have HO := Lib.hid hov; clear hov
    by_cases hlt : k < s.size
    · have hget := get_at hlt
      have j0 : (0 : Int) ≤ (k : Int) := by omega
      have j1 : (k : Int) < (s.size : Int) := by omega
      cases hl : letN (byteAt s k) with
      | true =>
        have hz := Lib.hid (show runL (rest s k) = runL (rest s (k + 1)) + 1 by rw [run_rest, if_pos (by unfold ldN; rw [hl]; rfl)])
        rw [hget] at hl
        have HL := Lib.hid hl; clear hget hl
        go_wp2_with (go_at_call 35; refine (letter_is HL.out).mono ?_; rintro e w' ⟨rfl, rfl⟩)
        go_roundg (s.size - (k + 1))
        case measure => omega
        case rel => exact ⟨k + 1, by omega, by omega, rfl, by go_num, by have := HO.out; have := hz.out; omega, rfl⟩
      | false =>
        cases hd : digN (byteAt s k) with
        | true =>
          have hz := Lib.hid (show runL (rest s k) = runL (rest s (k + 1)) + 1 by rw [run_rest, if_pos (by unfold ldN; rw [hl, hd]; rfl)])
          rw [hget] at hl hd
          have HL := Lib.hid hl; have HD := Lib.hid hd; clear hget hl hd
          go_wp2_with (first | (go_at_call 35; refine (letter_is HL.out).mono ?_; rintro e w' ⟨rfl, rfl⟩) | (go_at_call 39; refine (digit_is HD.out).mono ?_; rintro e w' ⟨rfl, rfl⟩))
          go_roundg (s.size - (k + 1))
          case measure => omega
          case rel => exact ⟨k + 1, by omega, by omega, rfl, by go_num, by have := HO.out; have := hz.out; omega, rfl⟩
        | false =>
          have hz := Lib.hid (show runL (rest s k) = 0 by rw [run_rest, if_neg (by unfold ldN; rw [hl, hd]; decide)])
          rw [hget] at hl hd
          have HL := Lib.hid hl; have HD := Lib.hid hd; clear hget hl hd
          go_wp2_with (first | (go_at_call 35; refine (letter_is HL.out).mono ?_; rintro e w' ⟨rfl, rfl⟩) | (go_at_call 39; refine (digit_is HD.out).mono ?_; rintro e w' ⟨rfl, rfl⟩))
          go_ret
          exact ⟨ret_int (by rw [← HO.out, hz.out]; rfl), rfl⟩
    · obtain rfl : s.size = k := by omega
      go_wp2
      go_ret
      have hz : runL (rest s s.size) = 0 := by rw [(rest_nil (Nat.le_refl _)).1]; rfl
      exact ⟨ret_int (by rw [← HO.out, hz]; rfl), rfl⟩
theorem digits_r {s : ByteArray} {a : Nat} {w : World} (hs : s.size ≤ 1000000) (ha : a ≤ s.size) :
    Calls Tryz.prog 87 #[.string s, .int .i64 (a : Int)] w fun e w' => e = .returned (.int .i64 ((a + digL (rest s a) : Nat) : Int)) ∧ w = w' := by
  go_enter Tryz.func87, Tryz.ntmps87
  go_wp2
  go_loopg [1] (s.size - a) (fun g i wr => ∃ k, a ≤ k ∧ k ≤ s.size ∧ g = s.size - k ∧ i = .int .i64 (k : Int) ∧ k + digL (rest s k) = a + digL (rest s a) ∧ wr = w)
  case atStart => exact ⟨a, Nat.le_refl _, ha, rfl, rfl, rfl, rfl⟩
  case round =>
    obtain ⟨k, hk1, hk2, rfl, rfl, hov, rfl⟩ := hrel
    have HO := Lib.hid hov; clear hov
    by_cases hlt : k < s.size
    · have hget := get_at hlt
      have j0 : (0 : Int) ≤ (k : Int) := by omega
      have j1 : (k : Int) < (s.size : Int) := by omega
      cases hd : digN (byteAt s k) with
      | true =>
        have hz := Lib.hid (show digL (rest s k) = digL (rest s (k + 1)) + 1 by rw [dig_rest, if_pos hd])
        rw [hget] at hd
        have HD := Lib.hid hd; clear hget hd
        go_wp2_with (go_at_call 39; refine (digit_is HD.out).mono ?_; rintro e w' ⟨rfl, rfl⟩)
        go_roundg (s.size - (k + 1))
        case measure => omega
        case rel => exact ⟨k + 1, by omega, by omega, rfl, by go_num, by have := HO.out; have := hz.out; omega, rfl⟩
      | false =>
        have hz := Lib.hid (show digL (rest s k) = 0 by rw [dig_rest, if_neg (by rw [hd]; decide)])
        rw [hget] at hd
        have HD := Lib.hid hd; clear hget hd
        go_wp2_with (go_at_call 39; refine (digit_is HD.out).mono ?_; rintro e w' ⟨rfl, rfl⟩)
        go_ret
        exact ⟨ret_int (by rw [← HO.out, hz.out]; rfl), rfl⟩
    · obtain rfl : s.size = k := by omega
      go_wp2
      go_ret
      have hz : digL (rest s s.size) = 0 := by rw [(rest_nil (Nat.le_refl _)).1]; rfl
      exact ⟨ret_int (by rw [← HO.out, hz]; rfl), rfl⟩
theorem run_at {s : ByteArray} {a e : Nat} {w : World} (hs : s.size ≤ 1000000) (ha : a ≤ s.size) (he : a + runL (rest s a) = e) :
    Calls Tryz.prog 36 #[.string s, .int .i64 (a : Int)] w fun x w' => x = .returned (.int .i64 (e : Int)) ∧ w = w' := by subst he; exact run_r hs ha
theorem digits_at {s : ByteArray} {a e : Nat} {w : World} (hs : s.size ≤ 1000000) (ha : a ≤ s.size) (he : a + digL (rest s a) = e) :
    Calls Tryz.prog 87 #[.string s, .int .i64 (a : Int)] w fun x w' => x = .returned (.int .i64 (e : Int)) ∧ w = w' := by subst he; exact digits_r hs ha

theorem half_r {n : Nat} (hn : n < 256) (w : World) :
    Calls Tryz.prog 88 #[.int .u8 (n : Int)] w fun e w' => e = .returned (.int .u8 (hexN n : Int)) ∧ w = w' := by
  have HN := Lib.hid hn; clear hn
  cases hd : digN n with
  | true =>
    have hr : 48 ≤ n ∧ n ≤ 57 := by simpa [digN] using hd
    have HV := Lib.hid (show ((n : Int) - 48) = (hexN n : Int) by unfold hexN; rw [if_pos hr]; omega)
    have h1 : (48 : Int) ≤ (n : Int) := by omega
    have h2 : (n : Int) ≤ 57 := by omega
    have HD := Lib.hid hd; clear hd hr
    go_enter Tryz.func88, Tryz.ntmps88
    go_wp2_with (go_at_call 39; refine (digit_is HD.out).mono ?_; rintro e w' ⟨rfl, rfl⟩)
    go_ret
    exact ⟨Base.ret_int HV.out, rfl⟩
  | false =>
    have hr : ¬ (48 ≤ n ∧ n ≤ 57) := by intro h; rw [show digN n = true by simp [digN, h]] at hd; cases hd
    have HR := Lib.hid hr
    have HD := Lib.hid hd; clear hd hr
    by_cases h1 : (97 : Int) ≤ (n : Int) <;> by_cases h2 : (n : Int) ≤ 102 <;> by_cases h3 : (65 : Int) ≤ (n : Int) <;> by_cases h4 : (n : Int) ≤ 70 <;> first
      | omega
      | (go_enter Tryz.func88, Tryz.ntmps88
         go_wp2_with (go_at_call 39; refine (digit_is HD.out).mono ?_; rintro e w' ⟨rfl, rfl⟩)
         go_ret
         exact ⟨Base.ret_int (by have := HR.out; unfold hexN; (repeat' split) <;> omega), rfl⟩)
theorem half_is {n v : Nat} (hn : n < 256) (w : World) (h : hexN n = v) : Calls Tryz.prog 88 #[.int .u8 (n : Int)] w fun e w' => e = .returned (.int .u8 (v : Int)) ∧ w = w' := by subst h; exact half_r hn w
theorem ld_ne {X : ByteArray} {k : Nat} (h : ldN (byteAt X k) = true) : k < X.size := by
  rcases Nat.lt_or_ge k X.size with h' | h'
  · exact h'
  · rw [(rest_nil h').2] at h; cases h
/-- a run that begins with a letter: is it a name? -/
theorem Name_r {X : ByteArray} {v : Bool} {w : World} (hs : X.size ≤ 1000000) (h0 : letN (byteAt X 0) = true) (hall : ∀ k, k < X.size → ldN (byteAt X k) = true) (hv : (decide (X.data.toList ≠ [95]) && decide (X.size ≤ 40)) = v) :
    Calls Tryz.prog 37 #[.string X] w fun e w' => e = .returned (.bool v) ∧ w = w' := by
  have hpos : 0 < X.size := ld_ne (k := 0) (by unfold ldN; rw [h0]; rfl)
  have H0 := Lib.hid h0; have HA := Lib.hid hall; have HV := Lib.hid hv; clear h0 hall hv
  go_enter Tryz.func37, Tryz.ntmps37
  go_wp2
  go_loopg [3] X.size (fun g i wr => ∃ k : Nat, k ≤ X.size ∧ g = X.size - k ∧ i = .int .i64 (k : Int) ∧ wr = w)
  case atStart => exact ⟨0, by omega, by omega, rfl, rfl⟩
  case round =>
    obtain ⟨k, hk, rfl, rfl, rfl⟩ := hrel
    by_cases hlt : k < X.size
    · have hget := get_at hlt
      have j0 : (0 : Int) ≤ (k : Int) := by omega
      have j1 : (k : Int) < (X.size : Int) := by omega
      cases hl : letN (byteAt X k) with
      | true =>
        rw [hget] at hl
        have HL := Lib.hid hl; clear hget hl
        go_wp2_with (go_at_call 35; refine (letter_is HL.out).mono ?_; rintro e w' ⟨rfl, rfl⟩)
        go_roundg (X.size - (k + 1))
        case measure => omega
        case rel => exact ⟨k + 1, by omega, rfl, by go_num, rfl⟩
      | false =>
        have hk0 : k ≠ 0 := by rintro rfl; rw [H0.out] at hl; cases hl
        have hd : digN (byteAt X k) = true := by have := HA.out k hlt; unfold ldN at this; rw [hl] at this; exact this
        have e0 : ((k : Int) == 0) = false := beq_eq_false_iff_ne.2 (by omega)
        rw [hget] at hl hd
        have HL := Lib.hid hl; have HD := Lib.hid hd; clear hget hl hd hk0
        go_wp2_with (first | (go_at_call 35; refine (letter_is HL.out).mono ?_; rintro e w' ⟨rfl, rfl⟩) | (go_at_call 39; refine (digit_is HD.out).mono ?_; rintro e w' ⟨rfl, rfl⟩))
        go_roundg (X.size - (k + 1))
        case measure => omega
        case rel => exact ⟨k + 1, by omega, rfl, by go_num, rfl⟩
    · obtain rfl : k = X.size := by omega
      have ne0 : X.toList.isEmpty = false := by
        rw [ByteArray.toList_eq]
        cases h : X.data.toList with
        | nil => exact absurd (show X.data.toList.length = X.size from Array.length_toList) (by rw [h]; show ¬ 0 = X.size; omega)
        | cons c r => rfl
      by_cases h95 : X.data.toList = [95]
      · have e1 : (X.toList == [95]) = true := by rw [ByteArray.toList_eq, h95]; rfl
        have e2 : (X.toList == ({ data := #[95] } : ByteArray).toList) = true := by rw [ByteArray.toList_eq, ByteArray.toList_eq, h95]; rfl
        have HR := Lib.hid (show (false : Bool) = v by rw [← HV.out, h95]; rfl)
        clear h95
        go_wp2
        go_ret
        exact ⟨ret_bool HR.out, rfl⟩
      · have e1 : (X.toList == [95]) = false := by rw [ByteArray.toList_eq]; exact beq_eq_false_iff_ne.2 h95
        have e2 : (X.toList == ({ data := #[95] } : ByteArray).toList) = false := by rw [show (({ data := #[95] } : ByteArray).toList) = [95] by rw [ByteArray.toList_eq]]; exact e1
        by_cases h40 : (X.size : Int) ≤ 40
        · have HR := Lib.hid (show (true : Bool) = v by rw [← HV.out, decide_eq_true h95, decide_eq_true (by omega)]; rfl)
          clear h95
          go_wp2
          go_ret
          exact ⟨ret_bool HR.out, rfl⟩
        · have HR := Lib.hid (show (false : Bool) = v by rw [← HV.out, decide_eq_false (p := X.size ≤ 40) (by omega), Bool.and_false])
          clear h95
          go_wp2
          go_ret
          exact ⟨ret_bool HR.out, rfl⟩

theorem among_r {s : ByteArray} {w : World} {g c : Nat} {L : List (List UInt8)} (h : IsStrs w g L) (hl : L.length ≤ 1000) :
    Calls Tryz.prog 34 #[.string s, .slice (some ⟨g, 0, none⟩) L.length c] w fun e w' => e = .returned (.bool (decide (s.data.toList ∈ L))) ∧ w = w' := by
  have H := Lib.hid h; clear h
  go_enter Tryz.func34, Tryz.ntmps34
  go_wp2
  go_loopg [5] L.length (fun gk i wr => ∃ k : Nat, k ≤ L.length ∧ gk = L.length - k ∧ i = .int .i64 (k : Int) ∧ (∀ j, j < k → L.getD j [] ≠ s.data.toList) ∧ wr = w)
  case atStart => exact ⟨0, by omega, by omega, rfl, by omega, rfl⟩
  case round =>
    obtain ⟨k, hk, rfl, rfl, hno, rfl⟩ := hrel
    have HNO := Lib.hid hno; clear hno
    by_cases hlt : k < L.length
    · have a1 := H.out k hlt
      have j0 : (0 : Int) ≤ (k : Int) := by omega
      have j1 : (k : Int) < (L.length : Int) := by omega
      obtain ⟨x, hx⟩ : ∃ x, L.getD k [] = x := ⟨_, rfl⟩
      rw [hx] at a1
      by_cases he : x = s.data.toList
      · have e1 : ((bs x).toList == s.toList) = true := by rw [str_eq]; exact decide_eq_true he
        have HE := Lib.hid (hx.trans he); clear he hx
        go_wp2
        go_ret
        refine ⟨ret_bool (decide_eq_true ?_).symm, rfl⟩
        rw [← HE.out, List.getD_eq_getElem?_getD, List.getElem?_eq_getElem hlt]
        exact List.getElem_mem hlt
      · have e1 : ((bs x).toList == s.toList) = false := by rw [str_eq]; exact decide_eq_false he
        have HE := Lib.hid (fun h : L.getD k [] = s.data.toList => he (hx.symm.trans h)); clear he hx
        go_wp2
        go_roundg (L.length - (k + 1))
        case measure => omega
        case rel => exact ⟨k + 1, by omega, rfl, by go_num, fun j hj => (Nat.lt_succ_iff_lt_or_eq.1 hj).elim (fun h => HNO.out j h) (fun h => h ▸ HE.out), rfl⟩
    · go_wp2
      go_ret
      refine ⟨ret_bool (decide_eq_false ?_).symm, rfl⟩
      intro hm
      obtain ⟨j, hj, e⟩ := List.getElem_of_mem hm
      exact HNO.out j (by omega) (by rw [List.getD_eq_getElem?_getD, List.getElem?_eq_getElem hj]; exact e)
theorem among_is {s : ByteArray} {w : World} {g c n : Nat} {L : List (List UInt8)} {v : Bool} (h : IsStrs w g L) (hl : L.length ≤ 1000) (hn : L.length = n) (hin : decide (s.data.toList ∈ L) = v) :
    Calls Tryz.prog 34 #[.string s, .slice (some ⟨g, 0, none⟩) n c] w fun e w' => e = .returned (.bool v) ∧ w = w' := by
  subst hn; exact (among_r h hl).mono fun _ _ ⟨h1, h2⟩ => ⟨by rw [h1, hin], h2⟩

theorem first_at : ∀ (L : List (List UInt8)) (r : List UInt8) (k : Nat), k < L.length → (∀ j, j < k → (L.getD j []).isPrefixOf r = false) → (L.getD k []).isPrefixOf r = true → firstL L r = L.getD k []
  | [], _, _, hk, _, _ => by simp at hk
  | p :: L, r, 0, _, _, h => by
    have h : p.isPrefixOf r = true := h
    simp [firstL, h]
  | p :: L, r, k + 1, hk, hn, h => by
    have h0 : p.isPrefixOf r = false := hn 0 (by omega)
    have := first_at L r k (by simp at hk; omega) (fun j hj => hn (j + 1) (by omega)) h
    show firstL (p :: L) r = L.getD k []
    rw [← this]
    simp [firstL, h0]
theorem first_no : ∀ (L : List (List UInt8)) (r : List UInt8), (∀ j, j < L.length → (L.getD j []).isPrefixOf r = false) → firstL L r = []
  | [], _, _ => rfl
  | p :: L, r, hn => by
    have h0 : p.isPrefixOf r = false := hn 0 (by simp)
    have := first_no L r (fun j hj => hn (j + 1) (by simp; omega))
    rw [← this]
    simp [firstL, h0]
theorem pre_take (p r : List UInt8) : p.isPrefixOf r = true ↔ p.length ≤ r.length ∧ r.take p.length = p := by
  rw [List.isPrefixOf_iff_prefix]
  constructor
  · intro h; exact ⟨h.length_le, (List.prefix_iff_eq_take.1 h).symm⟩
  · rintro ⟨_, h⟩; rw [← h]; exact List.take_prefix _ _
/-- the first text that stands at a place -/
theorem stands_r {s : ByteArray} {a : Nat} {w : World} {g c : Nat} {L : List (List UInt8)} (hs : s.size ≤ 1000000) (ha : a ≤ s.size) (h : IsStrs w g L) (hl : L.length ≤ 1000) (hL : ∀ p ∈ L, p.length ≤ 1000) :
    Calls Tryz.prog 43 #[.string s, .int .i64 (a : Int), .slice (some ⟨g, 0, none⟩) L.length c] w fun e w' => e = .returned (.string (bs (firstL L (rest s a)))) ∧ ∃ n, w' = w.drewN n := by
  have H := Lib.hid h; have HLL := Lib.hid hL; clear h hL
  go_enter Tryz.func43, Tryz.ntmps43
  go_wp2
  go_loopg [7] L.length (fun gk i wr => ∃ k n : Nat, k ≤ L.length ∧ gk = L.length - k ∧ i = .int .i64 (k : Int) ∧ (∀ j, j < k → (L.getD j []).isPrefixOf (rest s a) = false) ∧ wr = w.drewN n)
  case atStart => exact ⟨0, 0, by omega, by omega, rfl, by omega, rfl⟩
  case round =>
    obtain ⟨k, n, hk, rfl, rfl, hno, rfl⟩ := hrel
    have HNO := Lib.hid hno; clear hno
    by_cases hlt : k < L.length
    · have a1 := H.out k hlt
      have j0 : (0 : Int) ≤ (k : Int) := by omega
      have j1 : (k : Int) < (L.length : Int) := by omega
      obtain ⟨p, hp⟩ : ∃ p, L.getD k [] = p := ⟨_, rfl⟩
      have hpl : p.length ≤ 1000 := by
        rw [← hp, List.getD_eq_getElem?_getD, List.getElem?_eq_getElem hlt]
        exact HLL.out _ (List.getElem_mem hlt)
      rw [hp] at a1
      obtain ⟨X, hX⟩ : ∃ X, bs p = X := ⟨_, rfl⟩
      have hXl : X.size = p.length := by rw [← hX, bs_size]
      have hXs : X.size ≤ 1000 := by omega
      have kw : IntKind.i64.wrap ((a : Int) + (X.size : Int)) = (a : Int) + (X.size : Int) := IntWalk.i64_in _ (by omega)
      have kn : ((a : Int) + (X.size : Int)).toNat = a + X.size := by omega
      rw [hX] at a1
      have hrl := rest_len s a
      by_cases hfit : a + X.size ≤ s.size
      · have k1 : (a : Int) + (X.size : Int) ≤ (s.size : Int) := by omega
        have k2 : (a : Int) ≤ (a : Int) + (X.size : Int) := by omega
        have k3 : (0 : Int) ≤ (a : Int) := by omega
        have hex : (s.extract a (a + X.size)).toList = (rest s a).take p.length := by rw [bs_extract s a X.size hfit, bs_toList, hXl]
        have hxl : X.toList = p := by rw [← hX, bs_toList]
        cases hpre : p.isPrefixOf (rest s a) with
        | true =>
          have he : ((s.extract a (a + X.size)).toList == X.toList) = true := by
            rw [hex, hxl]; exact beq_iff_eq.2 ((pre_take p _).1 hpre).2
          have HF := Lib.hid (show bs (firstL L (rest s a)) = X by rw [first_at L _ k hlt HNO.out (by rw [hp]; exact hpre), hp, hX])
          clear hp hX hXl hex hxl hpre hrl
          go_wp2
          go_quiet (fail)
          go_wp2
          try go_quiet (fail)
          try go_wp2
          go_ret
          exact ⟨ret_str HF.out.symm, _, rfl⟩
        | false =>
          have he : ((s.extract a (a + X.size)).toList == X.toList) = false := by
            rw [hex, hxl]
            refine beq_eq_false_iff_ne.2 fun e => ?_
            rw [(pre_take p (rest s a)).2 ⟨by omega, e⟩] at hpre
            cases hpre
          have HE := Lib.hid (show (L.getD k []).isPrefixOf (rest s a) = false by rw [hp]; exact hpre)
          clear hp hX hXl hex hxl hpre hrl
          go_wp2
          go_quiet (fail)
          go_wp2
          go_roundg (L.length - (k + 1))
          case measure => omega
          case rel => exact ⟨k + 1, _, by omega, rfl, by go_num, fun j hj => (Nat.lt_succ_iff_lt_or_eq.1 hj).elim (fun h => HNO.out j h) (fun h => h ▸ HE.out), rfl⟩
      · have k1 : ¬ ((a : Int) + (X.size : Int) ≤ (s.size : Int)) := by omega
        have HE := Lib.hid (show (L.getD k []).isPrefixOf (rest s a) = false by
          rw [hp]
          cases hpre : p.isPrefixOf (rest s a) with
          | false => rfl
          | true => have := ((pre_take p _).1 hpre).1; omega)
        have k1' : decide ((a : Int) + (X.size : Int) ≤ (s.size : Int)) = false := decide_eq_false k1
        clear hp hX hXl hrl
        go_wp2
        go_quiet (fail)
        go_wp2
        go_roundg (L.length - (k + 1))
        case measure => omega
        case rel => exact ⟨k + 1, _, by omega, rfl, by go_num, fun j hj => (Nat.lt_succ_iff_lt_or_eq.1 hj).elim (fun h => HNO.out j h) (fun h => h ▸ HE.out), rfl⟩
    · obtain rfl : k = L.length := by omega
      have HF := Lib.hid (show bs (firstL L (rest s a)) = { data := #[] } by rw [first_no L _ HNO.out]; rfl)
      go_wp2
      go_ret
      exact ⟨ret_str HF.out.symm, n, rfl⟩
theorem stands_is {s X : ByteArray} {a n : Nat} {w : World} {g c : Nat} {L : List (List UInt8)} (hs : s.size ≤ 1000000) (ha : a ≤ s.size) (h : IsStrs w g L) (hl : L.length ≤ 1000) (hL : ∀ p ∈ L, p.length ≤ 1000) (hn : L.length = n) (hX : bs (firstL L (rest s a)) = X) :
    Calls Tryz.prog 43 #[.string s, .int .i64 (a : Int), .slice (some ⟨g, 0, none⟩) n c] w fun e w' => e = .returned (.string X) ∧ ∃ n, w' = w.drewN n := by
  subst hn hX; exact stands_r hs ha h hl hL
end Go.Proofs.YtopbhopblpfjpaaGreatDoor.RfA
