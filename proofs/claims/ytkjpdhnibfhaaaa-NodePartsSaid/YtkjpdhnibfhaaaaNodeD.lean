/- node.name, walked. -/
import Derived.Test.YtkjpdhnibfhaaaaNodeC
namespace Go.Proofs.Ytkjpdhnibfhaaaa.NodeD
open Go.RowKit Go.Proofs.Ytkjpdhnibfhaaaa.Nodey Go.Proofs.Ytkjpdhnibfhaaaa.NodeA Go.Proofs.Ytkjpdhnibfhaaaa.NodeB Go.Proofs.Ytkjpdhnibfhaaaa.NodeC

set_option maxHeartbeats 4000000 in
theorem name_loop {s : ByteArray} {w : World} (hs : s.size ≤ 1000000000) (hw : wordB s.data.toList = false) :
    Calls Try.prog 54 #[.string s] w fun e w' => e = .returned (.bool false) ∧ w' = w := by
  have HW := Lib.hid hw; clear hw
  go_enter Try.func54, Try.ntmps54
  go_wp2_with fail
  go_loopg [7] s.size (fun gk i wr => ∃ k : Nat, k ≤ s.size ∧ gk = s.size - k ∧ i = .int .i64 (k : Int) ∧ (∀ j (h : j < s.size), j < k → (letterB (s[j]) || (decide (j ≠ 0) && digitB (s[j]))) = true) ∧ wr = w)
  case atStart => exact ⟨0, by omega, by omega, rfl, fun j _ h => absurd h (by omega), rfl⟩
  case round =>
    obtain ⟨k, hk, rfl, rfl, ha, rfl⟩ := hrel
    have HA := Lib.hid ha; clear ha
    by_cases hlt : k < s.size
    · have j0 : (0 : Int) ≤ (k : Int) := by omega
      have j1 : (k : Int) < (s.size : Int) := by omega
      have HD := Lib.hid (digit_any (s[k]).toNat wr)
      have HL := Lib.hid (letter_any (s[k]).toNat wr)
      have hdn := digitB_nat s[k]
      have hln := letterB_nat s[k]
      have hnext : (letterB (s[k]) || (decide (k ≠ 0) && digitB (s[k]))) = true → (∀ j (h : j < s.size), j < k + 1 → (letterB (s[j]) || (decide (j ≠ 0) && digitB (s[j]))) = true) := fun hn j hj hjk => by
        rcases Nat.lt_or_ge j k with h | h
        · exact HA.out j hj h
        · have : j = k := by omega
          subst this; exact hn
      have HN := Lib.hid hnext; clear hnext
      cases hl : letterB s[k] with
      | true =>
        rw [hl] at hln
        rw [← hln] at HL
        have HLL := Lib.hid hl; clear hl hln hdn
        go_wp2_with (go_at_call 63; refine HL.out.mono ?_; rintro e w1 ⟨rfl, rfl⟩)
        go_roundg (s.size - (k + 1))
        case measure => omega
        case rel => exact ⟨k + 1, by omega, rfl, by go_num, HN.out (by rw [HLL.out]; rfl), rfl⟩
      | false =>
        rw [hl] at hln
        rw [← hln] at HL
        have HLL := Lib.hid hl; clear hl hln
        by_cases hk0 : k = 0
        · clear hdn
          have hq : ((k : Int) == 0) = true := by simp; omega
          clear hk0
          go_wp2_with (go_at_call 63; refine HL.out.mono ?_; rintro e w1 ⟨rfl, rfl⟩)
          go_ret
          exact ⟨rfl, rfl⟩
        · have hq : ((k : Int) == 0) = false := by simp; omega
          cases hd : digitB s[k] with
          | true =>
            rw [hd] at hdn
            rw [← hdn] at HD
            have HDD := Lib.hid hd; clear hd hdn
            go_wp2_with (first | (go_at_call 63; refine HL.out.mono ?_; rintro e w1 ⟨rfl, rfl⟩) | (go_at_call 64; refine HD.out.mono ?_; rintro e w1 ⟨rfl, rfl⟩))
            go_roundg (s.size - (k + 1))
            case measure => omega
            case rel => exact ⟨k + 1, by omega, rfl, by go_num, HN.out (by rw [HLL.out, HDD.out]; simpa using hk0), rfl⟩
          | false =>
            rw [hd] at hdn
            rw [← hdn] at HD
            have HDD := Lib.hid hd; clear hd hdn
            go_wp2_with (first | (go_at_call 63; refine HL.out.mono ?_; rintro e w1 ⟨rfl, rfl⟩) | (go_at_call 64; refine HD.out.mono ?_; rintro e w1 ⟨rfl, rfl⟩))
            go_ret
            exact ⟨rfl, rfl⟩
    · obtain rfl : k = s.size := by omega
      exfalso
      have := HW.out
      rw [Bool.eq_false_iff] at this
      exact this ((wordB_iff _).2 fun j hj => by
        have hj' : j < s.size := by simpa using hj
        have := HA.out j hj' hj'
        simpa [ByteArray.getElem_eq_getElem_data] using this)
def reservedB : List ByteArray := reservedL.map fun l => { data := l.toArray }
theorem reserved_cells (w : World) (T : TypeId) : ∀ j, j < reservedB.length → (w.alloc (.cells reservedR T)).cell? ⟨w.heap.size, 0 + j, none⟩ = some (.string (reservedB.getD j ByteArray.empty)) := by
  intro j hj
  rw [Nat.zero_add, cell_of_row _ _ j _ _ (0, 0) (heap_alloc_new w _)]
  have h : reservedR = (reservedB.map Value.string).toArray := rfl
  rw [h]
  simp [List.getD_eq_getElem?_getD, hj]
theorem contains_arr (l : List (List UInt8)) (s : ByteArray) : Lib.containsS (l.map fun l => { data := l.toArray }) s = l.contains s.data.toList := by
  rw [Bool.eq_iff_iff, Lib.containsS_iff]
  simp only [List.contains_iff_mem, List.mem_map]
  constructor
  · rintro ⟨x, hx, rfl⟩; simpa using hx
  · intro h; exact ⟨_, h, by cases s; simp⟩
set_option maxHeartbeats 4000000 in
theorem name_good {s : ByteArray} {w : World} (hs : s.size ≤ 1000000000) (hw : wordB s.data.toList = true) :
    Calls Try.prog 54 #[.string s] w fun e w' => e = .returned (.bool (nameB s.data.toList)) ∧ Below w.heap.size w w' := by
  have HW := Lib.hid hw; clear hw
  have HR := Lib.hid (fun w => reserved_any w)
  go_enter Try.func54, Try.ntmps54
  go_wp2_with fail
  go_loopg [7] s.size (fun gk i wr => ∃ k : Nat, k ≤ s.size ∧ gk = s.size - k ∧ i = .int .i64 (k : Int) ∧ wr = w)
  case atStart => exact ⟨0, by omega, by omega, rfl, rfl⟩
  case round =>
    obtain ⟨k, hk, rfl, rfl, rfl⟩ := hrel
    by_cases hlt : k < s.size
    · have j0 : (0 : Int) ≤ (k : Int) := by omega
      have j1 : (k : Int) < (s.size : Int) := by omega
      have HD := Lib.hid (digit_any (s[k]).toNat wr)
      have HL := Lib.hid (letter_any (s[k]).toNat wr)
      have hdn := digitB_nat s[k]
      have hln := letterB_nat s[k]
      have hthis : (letterB (s[k]) || (decide (k ≠ 0) && digitB (s[k]))) = true := by
        have := (wordB_iff _).1 HW.out k (by simpa using hlt)
        simpa [ByteArray.getElem_eq_getElem_data] using this
      cases hl : letterB s[k] with
      | true =>
        rw [hl] at hln
        rw [← hln] at HL
        clear hl hln hdn hthis
        go_wp2_with (go_at_call 63; refine HL.out.mono ?_; rintro e w1 ⟨rfl, rfl⟩)
        go_roundg (s.size - (k + 1))
        case measure => omega
        case rel => exact ⟨k + 1, by omega, rfl, by go_num, rfl⟩
      | false =>
        rw [hl] at hln
        rw [← hln] at HL
        rw [hl] at hthis
        obtain ⟨hk0, hd⟩ : k ≠ 0 ∧ digitB s[k] = true := by simpa using hthis
        clear hl hln hthis
        have hq : ((k : Int) == 0) = false := by simp; omega
        rw [hd] at hdn
        rw [← hdn] at HD
        clear hd hdn
        go_wp2_with (first | (go_at_call 63; refine HL.out.mono ?_; rintro e w1 ⟨rfl, rfl⟩) | (go_at_call 64; refine HD.out.mono ?_; rintro e w1 ⟨rfl, rfl⟩))
        go_roundg (s.size - (k + 1))
        case measure => omega
        case rel => exact ⟨k + 1, by omega, rfl, by go_num, rfl⟩
    · obtain rfl : k = s.size := by omega
      have hsz := reserved_size
      have hst : ∀ w1 : World, (storeCells ⟨w1.heap.size, 0, none⟩ reservedR.toList 0).run Try.prog (w1.alloc (.cells #[.string { data := #[] }, .string { data := #[] }, .string { data := #[] }, .string { data := #[] }, .string { data := #[] }, .string { data := #[] }, .string { data := #[] }, .string { data := #[] }, .string { data := #[] }, .string { data := #[] }, .string { data := #[] }, .string { data := #[] }, .string { data := #[] }, .string { data := #[] }, .string { data := #[] }, .string { data := #[] }, .string { data := #[] }, .string { data := #[] }, .string { data := #[] }, .string { data := #[] }, .string { data := #[] }, .string { data := #[] }, .string { data := #[] }, .string { data := #[] }, .string { data := #[] }, .string { data := #[] }, .string { data := #[] }] 71)) = .ok () (w1.alloc (.cells reservedR 71)) := fun w1 => run_storeCells_new w1 71 #[.string { data := #[] }, .string { data := #[] }, .string { data := #[] }, .string { data := #[] }, .string { data := #[] }, .string { data := #[] }, .string { data := #[] }, .string { data := #[] }, .string { data := #[] }, .string { data := #[] }, .string { data := #[] }, .string { data := #[] }, .string { data := #[] }, .string { data := #[] }, .string { data := #[] }, .string { data := #[] }, .string { data := #[] }, .string { data := #[] }, .string { data := #[] }, .string { data := #[] }, .string { data := #[] }, .string { data := #[] }, .string { data := #[] }, .string { data := #[] }, .string { data := #[] }, .string { data := #[] }, .string { data := #[] }] reservedR (by kernel_rfl) (by kernel_rfl) (by kernel_rfl)
      have HRC := Lib.hid (fun w => reserved_cells w 71)
      generalize reservedR = R at *
      have HB := Lib.hid hs
      have hlen : s.data.toList.length = s.size := by simp
      have HLEN := Lib.hid hlen; clear hlen
      have hcont : ∀ w1 : World, Calls Try.prog 52 #[.slice (some ⟨w1.heap.size, 0, none⟩) 27 27, .string s] (w1.alloc (.cells R 71)) fun e w' => e = .returned (.bool (reservedL.contains s.data.toList)) ∧ w' = (w1.alloc (.cells R 71)) := fun w1 => by
        have := Try.slices_Contains_string w1.heap.size 0 27 27 reservedB s (w1.alloc (.cells R 71)) (by decide) (by decide) (HRC.out w1)
        rw [show reservedB.take 27 = reservedL.map (fun l => { data := l.toArray }) from rfl, contains_arr] at this
        exact this
      have HC := Lib.hid hcont; clear hcont
      have hres : nameB s.data.toList = (!(s.toList.isEmpty) && (!(s.toList == [95])) && decide (s.size ≤ 40) && !(reservedL.contains s.data.toList)) := by
        unfold nameB
        rw [HW.out, HLEN.out, ByteArray.toList_eq]
        cases s.data.toList <;> rfl
      have HRES := Lib.hid hres; clear hres
      generalize reservedL.contains s.data.toList = v at *
      by_cases h40 : (s.size : Int) ≤ 40
      all_goals
        go_wp2_with (first | (go_at_call 65; refine (HR.out _).mono ?_; rintro e w1 ⟨rfl, hb1⟩) | (go_at_call 52; refine (HC.out _).mono ?_; rintro e w2 ⟨rfl, rfl⟩))
        all_goals
          go_ret
          refine ⟨ret_bool ?_, hb1.alloc hb1.size _⟩
          rw [HRES.out]
          first
            | (have hd : decide (s.size ≤ 40) = true := by simp; omega
               rw [hd]; simp_all; done)
            | (have hd : decide (s.size ≤ 40) = false := by simp; omega
               rw [hd]; simp_all; done)
            | (simp_all; done)
theorem name_any {s : ByteArray} {w : World} (hs : s.size ≤ 1000000000) :
    Calls Try.prog 54 #[.string s] w fun e w' => e = .returned (.bool (nameB s.data.toList)) ∧ Below w.heap.size w w' := by
  cases hw : wordB s.data.toList with
  | true => exact name_good hs hw
  | false =>
    refine (name_loop hs hw).mono ?_
    rintro e w' ⟨rfl, rfl⟩
    exact ⟨ret_bool (by unfold nameB; rw [hw]; rfl), Below.refl _ _⟩
end Go.Proofs.Ytkjpdhnibfhaaaa.NodeD
