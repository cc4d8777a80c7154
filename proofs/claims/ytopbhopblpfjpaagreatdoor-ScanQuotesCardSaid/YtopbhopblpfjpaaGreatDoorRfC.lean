/- The document's dollars, numbers, walked. -/
import Derived.Test.YtopbhopblpfjpaaGreatDoorRfB
import Derived.Test.YtopbhopblpfjpaaGreatDoorScanE
namespace Go.Proofs.YtopbhopblpfjpaaGreatDoor.RfC
open Go.RowKit Go.Proofs.YtopbhopblpfjpaaGreatDoor.Lexy Go.Proofs.YtopbhopblpfjpaaGreatDoor.Heap Go.Proofs.YtopbhopblpfjpaaGreatDoor.Base Go.Proofs.YtopbhopblpfjpaaGreatDoor.Scany Go.Proofs.YtopbhopblpfjpaaGreatDoor.ScanC Go.Proofs.YtopbhopblpfjpaaGreatDoor.ScanD Go.Proofs.YtopbhopblpfjpaaGreatDoor.ScanE Go.Proofs.YtopbhopblpfjpaaGreatDoor.RfA Go.Proofs.YtopbhopblpfjpaaGreatDoor.RfB

/-- what comes of a dollar -/
def DolR (s : ByteArray) (a : Nat) (e : Ending) : Prop :=
  match dolL (rest s (a + 1)) with
  | none => e = .returned (.tuple #[.agg #[.int .u8 0, .string { data := #[] }, .int .i64 0], .int .i64 0, .bool false])
  | some (t, n) => e = .returned (.tuple #[.agg #[.int .u8 8, .string (bs t), .int .i64 (a : Int)], .int .i64 ((a + n : Nat) : Int), .bool true])
theorem DolR.no {s : ByteArray} {a : Nat} (h : dolL (rest s (a + 1)) = none) : DolR s a (.returned (.tuple #[.agg #[.int .u8 0, .string { data := #[] }, .int .i64 0], .int .i64 0, .bool false])) := by unfold DolR; rw [h]
theorem DolR.ok {s X : ByteArray} {a n : Nat} {t : List UInt8} {y : Int} (h : dolL (rest s (a + 1)) = some (t, n)) (hX : X = bs t) (hy : y = ((a + n : Nat) : Int)) : DolR s a (.returned (.tuple #[.agg #[.int .u8 8, .string X, .int .i64 (a : Int)], .int .i64 y, .bool true])) := by
  unfold DolR; rw [h, hX, hy]
theorem res_dol {w : World} {H : Nat} {v0 v1 v2 v5 v6 : Value} {tmps : Array Value} (hH : w.heap[H]? = some (.cells #[v0, v1, v2] 50 (0, 0)))
    (h4 : tmps[4]?.getD undef = .pointer (some ⟨H, 0, none⟩)) (h5 : tmps[5]?.getD undef = v5) (h6 : tmps[6]?.getD undef = v6) : (results Tryz.f42 tmps).run Tryz.prog w = .ok (.tuple #[.agg #[v0, v1, v2], v5, v6]) w := by
  obtain ⟨a0, a1, a2, _⟩ := cells3 hH
  simp [results, Tryz.results42, go_sem, h4, h5, h6, a0, a1, a2]
theorem dol_rest (s : ByteArray) (k : Nat) : dolL (rest s k) = if byteAt s k = 36 then some ([36], 2) else if digL (rest s k) = 0 ∨ 2 < digL (rest s k) ∨ byteAt s k = 48 ∨ letN (byteAt s (k + digL (rest s k))) = true then none else some ((rest s k).take (digL (rest s k)), digL (rest s k) + 1) := by
  unfold dolL; rw [rest_drop, head_byte, head_byte]
set_option maxRecDepth 100000 in
set_option maxHeartbeats 4000000 in
theorem dollar_r {s : ByteArray} {a : Nat} {w : World} (hs : s.size ≤ 1000000) (ha : a < s.size) :
    Calls Tryz.prog 42 #[.string s, .int .i64 (a : Int)] w fun e w' => DolR s a e ∧ Below w.heap.size w w' := by
  have hb0 := fun o => (Below.refl w.heap.size w).alloc (Nat.le_refl _) o
  have hdr := dol_rest s (a + 1)
  obtain ⟨c, hc⟩ : ∃ c, byteAt s (a + 1) = c := ⟨_, rfl⟩
  obtain ⟨D, hD⟩ : ∃ D, digL (rest s (a + 1)) = D := ⟨_, rfl⟩
  have hDl := dig_le s (a + 1)
  rw [hc, hD] at hdr
  rw [hD] at hDl
  have k0 : (0 : Int) ≤ (a : Int) + 1 := by omega
  have HD := Lib.hid (show a + 1 + digL (rest s (a + 1)) = a + 1 + D by rw [hD])
  by_cases h36 : c = 36
  · have hlt := lt_of_byte hc (by omega)
    have hg := RfA.get_at hlt
    rw [hc, h36] at hg
    replace hg := hg.symm
    have k1 : (a : Int) + 1 < (s.size : Int) := by omega
    have HT := Lib.hid (show dolL (rest s (a + 1)) = some ([36], 2) by rw [hdr, if_pos h36])
    clear hdr hc hD h36
    go_enter Tryz.func42, Tryz.ntmps42
    go_wp2
    try simp only [Exit.inBlock, Exit.then]
    refine bodyPost_ret (res_dol (heap_alloc_new w _) rfl rfl rfl) rfl ?_
    exact ⟨DolR.ok HT.out rfl (by push_cast; omega), hb0 _⟩
  rw [if_neg h36] at hdr
  by_cases hlt : a + 1 < s.size
  case neg =>
    have hD0 : D = 0 := by omega
    have HT := Lib.hid (show dolL (rest s (a + 1)) = none by rw [hdr, if_pos (.inl hD0)])
    have k1 : ¬ ((a : Int) + 1 < (s.size : Int)) := by omega
    subst hD0
    clear hdr hc hD
    go_enter Tryz.func42, Tryz.ntmps42
    go_wp2_with (go_at_call 87; go_must (refine (digits_at (a := a + 1) hs (by omega) HD.out).mono ?_); rintro e w' ⟨rfl, rfl⟩)
    try simp only [Exit.inBlock, Exit.then]
    refine bodyPost_ret (res_dol (heap_alloc_new w _) rfl rfl rfl) rfl ?_
    exact ⟨DolR.no HT.out, hb0 _⟩
  have hg := RfA.get_at hlt
  rw [hc] at hg
  replace hg := hg.symm
  have k1 : (a : Int) + 1 < (s.size : Int) := by omega
  have e36 : ((c : Int) == 36) = false := beq_eq_false_iff_ne.2 (by omega)
  by_cases hD0 : D = 0
  · have HT := Lib.hid (show dolL (rest s (a + 1)) = none by rw [hdr, if_pos (.inl hD0)])
    subst hD0
    clear hdr hc hD
    go_enter Tryz.func42, Tryz.ntmps42
    go_wp2_with (go_at_call 87; go_must (refine (digits_at (a := a + 1) hs (by omega) HD.out).mono ?_); rintro e w' ⟨rfl, rfl⟩)
    try simp only [Exit.inBlock, Exit.then]
    refine bodyPost_ret (res_dol (heap_alloc_new w _) rfl rfl rfl) rfl ?_
    exact ⟨DolR.no HT.out, hb0 _⟩
  have d1 : (1 : Int) ≤ (D : Int) := by omega
  by_cases hD2 : 2 < D
  · have HT := Lib.hid (show dolL (rest s (a + 1)) = none by rw [hdr, if_pos (.inr (.inl hD2))])
    have d2 : (2 : Int) < (D : Int) := by omega
    clear hdr hc hD
    go_enter Tryz.func42, Tryz.ntmps42
    go_wp2_with (go_at_call 87; go_must (refine (digits_at (a := a + 1) hs (by omega) HD.out).mono ?_); rintro e w' ⟨rfl, rfl⟩)
    try simp only [Exit.inBlock, Exit.then]
    refine bodyPost_ret (res_dol (heap_alloc_new w _) rfl rfl rfl) rfl ?_
    exact ⟨DolR.no HT.out, hb0 _⟩
  have d2 : (D : Int) ≤ 2 := by omega
  by_cases h48 : c = 48
  · have HT := Lib.hid (show dolL (rest s (a + 1)) = none by rw [hdr, if_pos (.inr (.inr (.inl h48)))])
    have e48 : ((c : Int) == 48) = true := by rw [h48]; rfl
    clear hdr hc hD h48
    go_enter Tryz.func42, Tryz.ntmps42
    go_wp2_with (go_at_call 87; go_must (refine (digits_at (a := a + 1) hs (by omega) HD.out).mono ?_); rintro e w' ⟨rfl, rfl⟩)
    try simp only [Exit.inBlock, Exit.then]
    refine bodyPost_ret (res_dol (heap_alloc_new w _) rfl rfl rfl) rfl ?_
    exact ⟨DolR.no HT.out, hb0 _⟩
  have e48 : ((c : Int) == 48) = false := beq_eq_false_iff_ne.2 (by omega)
  have hex := bs_extract s (a + 1) D (by omega)
  have HEX := Lib.hid hex
  have k2 : (a : Int) + 1 ≤ (a : Int) + 1 + (D : Int) := by omega
  have k3 : (a : Int) + 1 + (D : Int) ≤ (s.size : Int) := by omega
  by_cases hle : a + 1 + D < s.size
  case neg =>
    have hl : letN (byteAt s (a + 1 + D)) = false := by rw [(rest_nil (by omega)).2]; rfl
    have HT := Lib.hid (show dolL (rest s (a + 1)) = some ((rest s (a + 1)).take D, D + 1) by rw [hdr, if_neg (by rintro (h | h | h | h) <;> first | omega | (rw [hl] at h; cases h))])
    have k4 : ¬ ((a : Int) + 1 + (D : Int) < (s.size : Int)) := by omega
    clear hdr hc hD hl hex
    go_enter Tryz.func42, Tryz.ntmps42
    go_wp2_with (go_at_call 87; go_must (refine (digits_at (a := a + 1) hs (by omega) HD.out).mono ?_); rintro e w' ⟨rfl, rfl⟩)
    try simp only [Exit.inBlock, Exit.then]
    refine bodyPost_ret (res_dol (heap_alloc_new w _) rfl rfl rfl) rfl ?_
    exact ⟨DolR.ok HT.out HEX.out (by push_cast; omega), hb0 _⟩
  have hge := RfA.get_at hle
  have k4 : (a : Int) + 1 + (D : Int) < (s.size : Int) := by omega
  have k5 : (0 : Int) ≤ (a : Int) + 1 + (D : Int) := by omega
  cases hl : letN (byteAt s (a + 1 + D)) with
  | true =>
    have HT := Lib.hid (show dolL (rest s (a + 1)) = none by rw [hdr, if_pos (.inr (.inr (.inr hl)))])
    rw [hge] at hl
    have HL := Lib.hid hl
    clear hdr hc hD hl hex hge
    go_enter Tryz.func42, Tryz.ntmps42
    go_wp2_with (first | (go_at_call 87; go_must (refine (digits_at (a := a + 1) hs (by omega) HD.out).mono ?_); rintro e w' ⟨rfl, rfl⟩) | (go_at_call 35; go_must (refine (letter_is HL.out).mono ?_); rintro e w' ⟨rfl, rfl⟩))
    try simp only [Exit.inBlock, Exit.then]
    refine bodyPost_ret (res_dol (heap_alloc_new w _) rfl rfl rfl) rfl ?_
    exact ⟨DolR.no HT.out, hb0 _⟩
  | false =>
    have HT := Lib.hid (show dolL (rest s (a + 1)) = some ((rest s (a + 1)).take D, D + 1) by rw [hdr, if_neg (by rintro (h | h | h | h) <;> first | omega | (rw [hl] at h; cases h))])
    rw [hge] at hl
    have HL := Lib.hid hl
    clear hdr hc hD hl hex hge
    go_enter Tryz.func42, Tryz.ntmps42
    go_wp2_with (first | (go_at_call 87; go_must (refine (digits_at (a := a + 1) hs (by omega) HD.out).mono ?_); rintro e w' ⟨rfl, rfl⟩) | (go_at_call 35; go_must (refine (letter_is HL.out).mono ?_); rintro e w' ⟨rfl, rfl⟩))
    try simp only [Exit.inBlock, Exit.then]
    refine bodyPost_ret (res_dol (heap_alloc_new w _) rfl rfl rfl) rfl ?_
    exact ⟨DolR.ok HT.out HEX.out (by push_cast; omega), hb0 _⟩
end Go.Proofs.YtopbhopblpfjpaaGreatDoor.RfC
