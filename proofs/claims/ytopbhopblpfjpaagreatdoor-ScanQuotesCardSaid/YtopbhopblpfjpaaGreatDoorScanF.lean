/- The scanner's signs, names, dollars, walked. -/
import Derived.Test.YtopbhopblpfjpaaGreatDoorScanE
namespace Go.Proofs.YtopbhopblpfjpaaGreatDoor.ScanF
open Go.RowKit Go.Proofs.YtopbhopblpfjpaaGreatDoor.Lexy Go.Proofs.YtopbhopblpfjpaaGreatDoor.Heap Go.Proofs.YtopbhopblpfjpaaGreatDoor.Base Go.Proofs.YtopbhopblpfjpaaGreatDoor.Scany Go.Proofs.YtopbhopblpfjpaaGreatDoor.ScanA Go.Proofs.YtopbhopblpfjpaaGreatDoor.ScanB Go.Proofs.YtopbhopblpfjpaaGreatDoor.ScanC Go.Proofs.YtopbhopblpfjpaaGreatDoor.ScanD Go.Proofs.YtopbhopblpfjpaaGreatDoor.ScanE

theorem ne_empty {x : List UInt8} (h : x ≠ []) : (bs x).toList.isEmpty = false := by rw [bs_toList]; cases x with | nil => exact absurd rfl h | cons a r => rfl
theorem first_no {s : ByteArray} {a b g c n : Nat} {l : Value} {w : World} {L : List (List UInt8)} (hst : IsStrs w g L) (hg : g < w.heap.size) (hn : L.length = n) (hl : L.length ≤ 1000) (hr : Sc w b s a l) (hs : s.size ≤ 1000000) (ha : a ≤ s.size) (hx : firstL L (rest s a) = []) :
    Calls Tryz.prog 140 #[.pointer (some ⟨b, 0, none⟩), .slice (some ⟨g, 0, none⟩) n c] w fun e w' => e = .returned (.string { data := #[] }) ∧ Below w.heap.size w w' :=
  (first_any hst hg hn hl hr hs ha).mono fun _ _ ⟨h1, h2⟩ => ⟨by rw [h1, hx]; rfl, h2⟩
theorem first_is {s : ByteArray} {a b g c n : Nat} {l : Value} {w : World} {L : List (List UInt8)} {X : ByteArray} (hst : IsStrs w g L) (hg : g < w.heap.size) (hn : L.length = n) (hl : L.length ≤ 1000) (hr : Sc w b s a l) (hs : s.size ≤ 1000000) (ha : a ≤ s.size) (hx : X = bs (firstL L (rest s a))) :
    Calls Tryz.prog 140 #[.pointer (some ⟨b, 0, none⟩), .slice (some ⟨g, 0, none⟩) n c] w fun e w' => e = .returned (.string X) ∧ Below w.heap.size w w' :=
  (first_any hst hg hn hl hr hs ha).mono fun _ _ ⟨h1, h2⟩ => ⟨by rw [h1, hx], h2⟩
theorem tok_sign {s : ByteArray} {a : Nat} (ha : a < s.size) (h1 : letN (byteAt s a) = false) (h2 : digN (byteAt s a) = false) (h3 : byteAt s a ≠ 34) (h4 : byteAt s a ≠ 36) :
    tokS (rest s a) = if firstL oddS (rest s a) ≠ [] then .bad 101 else if firstL signsS (rest s a) = [] then .bad 100 else .good 6 (firstL signsS (rest s a)) (firstL signsS (rest s a)).length := by
  obtain ⟨c, e1, e2⟩ := rest_cons ha
  rw [e2] at h1 h2 h3 h4
  rw [e1, tokS, if_neg (by simp [h1]), if_neg (by simp [h2]), if_neg h3, if_neg h4]

set_option maxRecDepth 100000 in
set_option maxHeartbeats 2000000 in
theorem sign_odd {b H : Nat} {s : ByteArray} {a : Nat} {l : Value} {w : World} (hG : Gl w H) (hr : Sc w b s a l) (hs : s.size ≤ 1000000) (ha : a < s.size) (ht : tokS (rest s a) = if firstL oddS (rest s a) ≠ [] then .bad 101 else if firstL signsS (rest s a) = [] then .bad 100 else .good 6 (firstL signsS (rest s a)) (firstL signsS (rest s a)).length) (ho : firstL oddS (rest s a) ≠ []) :
    Calls Tryz.prog 84 #[.pointer (some ⟨b, 0, none⟩)] w (PartPost b s a l w) := by
  rw [if_pos ho] at ht
  have HT := Lib.hid ht; clear ht
  obtain ⟨X, hX⟩ : ∃ X, X = bs (firstL oddS (rest s a)) := ⟨_, rfl⟩
  have hXe : X.toList.isEmpty = false := by rw [hX]; exact ne_empty ho
  have HX := Lib.hid hX; clear hX ho
  have hr1 : Sc w.drew b s a l := hr
  have hG1 : Gl w.drew H := hG
  have hb0 : Below w.heap.size w w.drew := (Below.refl _ _).drew
  go_enter Tryz.func84, Tryz.ntmps84
  go_wp2
  go_region_with (first | (go_at_call 141; go_must (refine (odd_any hG1).mono ?_); rintro e w1 ⟨rfl, hb1, hst⟩; have HST := Lib.hid hst; clear hst; have hs1 : w.heap.size < w1.heap.size := (by have := World.block_lt_of_cell? _ _ (HST.out 0 (by decide)); simpa using this)) | (go_at_call 140; go_must (refine (first_is HST.out (by simpa using hs1) rfl (by decide) (hr1.new hb1) hs (Nat.le_of_lt ha) HX.out).mono ?_); rintro e w2 ⟨rfl, hb2⟩))
  all_goals
    go_wp2_with (go_at_call 138; refine (no_any _).mono ?_; rintro e w' ⟨rfl, rfl⟩)
    exact ⟨rfl, PartPost.bad HT.out rfl (grown_below ((hb0.trans hb1).trans (hb2.mono (by have := hb1.size; simpa using this))) _)⟩
set_option maxRecDepth 100000 in
set_option maxHeartbeats 2000000 in
theorem sign_none {b H : Nat} {s : ByteArray} {a : Nat} {l : Value} {w : World} (hG : Gl w H) (hH : H ≤ w.heap.size) (hr : Sc w b s a l) (hs : s.size ≤ 1000000) (ha : a < s.size) (ht : tokS (rest s a) = if firstL oddS (rest s a) ≠ [] then .bad 101 else if firstL signsS (rest s a) = [] then .bad 100 else .good 6 (firstL signsS (rest s a)) (firstL signsS (rest s a)).length) (ho : firstL oddS (rest s a) = []) (hn : firstL signsS (rest s a) = []) :
    Calls Tryz.prog 84 #[.pointer (some ⟨b, 0, none⟩)] w (PartPost b s a l w) := by
  rw [if_neg (by simp [ho]), if_pos hn] at ht
  have HT := Lib.hid ht; clear ht
  have HO := Lib.hid ho; have HN := Lib.hid hn; clear ho hn
  have hr1 : Sc w.drew b s a l := hr
  have hG1 : Gl w.drew H := hG
  have hb0 : Below w.heap.size w w.drew := (Below.refl _ _).drew
  go_enter Tryz.func84, Tryz.ntmps84
  go_wp2
  go_region_with (first | (go_at_call 141; go_must (refine (odd_any hG1).mono ?_); rintro e w1 ⟨rfl, hb1, hst⟩; have HST := Lib.hid hst; clear hst; have hs1 : w.heap.size < w1.heap.size := (by have := World.block_lt_of_cell? _ _ (HST.out 0 (by decide)); simpa using this)) | (go_at_call 140; go_must (refine (first_no HST.out (by simpa using hs1) rfl (by decide) (hr1.new hb1) hs (Nat.le_of_lt ha) HO.out).mono ?_); rintro e w2 ⟨rfl, hb2⟩))
  all_goals
    have hbw : Below w.heap.size w w2 := (hb0.trans hb1).trans (hb2.mono (by have := hb1.size; simpa using this))
    have hr2 : Sc w2.drew b s a l := hr.new hbw.drew
    have hG2 : Gl w2.drew H := hG.below (hbw.drew.mono hH)
    have hb3 : Below w2.heap.size w2 w2.drew := (Below.refl _ _).drew
    clear HST hs1 hb1 hb2
    go_wp2
    go_region_with (first | (go_at_call 142; go_must (refine (signs_any hG2).mono ?_); rintro e w3 ⟨rfl, hb4, hst⟩; have HST := Lib.hid hst; clear hst; have hs1 : w2.heap.size < w3.heap.size := (by have := World.block_lt_of_cell? _ _ (HST.out 0 (by decide)); simpa using this)) | (go_at_call 140; go_must (refine (first_no HST.out (by simpa using hs1) rfl (by decide) (hr2.new hb4) hs (Nat.le_of_lt ha) HN.out).mono ?_); rintro e w4 ⟨rfl, hb5⟩))
    all_goals
      go_wp2
      exact ⟨rfl, PartPost.bad (x := 100) HT.out rfl (grown_below (hbw.trans (((hb3.trans hb4).trans (hb5.mono (by have := hb4.size; simpa using this))).mono hbw.size)) _)⟩
set_option maxRecDepth 100000 in
set_option maxHeartbeats 2000000 in
theorem sign_good {b H : Nat} {s : ByteArray} {a : Nat} {l : Value} {w : World} (hG : Gl w H) (hH : H ≤ w.heap.size) (hr : Sc w b s a l) (hs : s.size ≤ 1000000) (ha : a < s.size) (ht : tokS (rest s a) = if firstL oddS (rest s a) ≠ [] then .bad 101 else if firstL signsS (rest s a) = [] then .bad 100 else .good 6 (firstL signsS (rest s a)) (firstL signsS (rest s a)).length) (ho : firstL oddS (rest s a) = []) (hn : firstL signsS (rest s a) ≠ []) :
    Calls Tryz.prog 84 #[.pointer (some ⟨b, 0, none⟩)] w (PartPost b s a l w) := by
  rw [if_neg (by simp [ho]), if_neg hn] at ht
  have hfl := (firstL_le signsS (rest s a) hn).2
  rw [rest_len] at hfl
  obtain ⟨X, hX⟩ : ∃ X, X = bs (firstL signsS (rest s a)) := ⟨_, rfl⟩
  have hXe : X.toList.isEmpty = false := by rw [hX]; exact ne_empty hn
  have hXs : X.size = (firstL signsS (rest s a)).length := by rw [hX, bs_size]
  obtain ⟨n, hnn⟩ : ∃ n, (firstL signsS (rest s a)).length = n := ⟨_, rfl⟩
  rw [hnn] at hXs hfl ht
  have HT := Lib.hid ht; clear ht
  have HX := Lib.hid hX; clear hX
  have HO := Lib.hid ho; clear ho hn hnn
  have hr1 : Sc w.drew b s a l := hr
  have hG1 : Gl w.drew H := hG
  have hb0 : Below w.heap.size w w.drew := (Below.refl _ _).drew
  go_enter Tryz.func84, Tryz.ntmps84
  go_wp2
  go_region_with (first | (go_at_call 141; go_must (refine (odd_any hG1).mono ?_); rintro e w1 ⟨rfl, hb1, hst⟩; have HST := Lib.hid hst; clear hst; have hs1 : w.heap.size < w1.heap.size := (by have := World.block_lt_of_cell? _ _ (HST.out 0 (by decide)); simpa using this)) | (go_at_call 140; go_must (refine (first_no HST.out (by simpa using hs1) rfl (by decide) (hr1.new hb1) hs (Nat.le_of_lt ha) HO.out).mono ?_); rintro e w2 ⟨rfl, hb2⟩))
  all_goals
    have hbw : Below w.heap.size w w2 := (hb0.trans hb1).trans (hb2.mono (by have := hb1.size; simpa using this))
    have hr2 : Sc w2.drew b s a l := hr.new hbw.drew
    have hG2 : Gl w2.drew H := hG.below (hbw.drew.mono hH)
    have hb3 : Below w2.heap.size w2 w2.drew := (Below.refl _ _).drew
    clear HST hs1 hb1 hb2
    go_wp2
    go_region_with (first | (go_at_call 142; go_must (refine (signs_any hG2).mono ?_); rintro e w3 ⟨rfl, hb4, hst⟩; have HST := Lib.hid hst; clear hst; have hs1 : w2.heap.size < w3.heap.size := (by have := World.block_lt_of_cell? _ _ (HST.out 0 (by decide)); simpa using this)) | (go_at_call 140; go_must (refine (first_is HST.out (by simpa using hs1) rfl (by decide) (hr2.new hb4) hs (Nat.le_of_lt ha) HX.out).mono ?_); rintro e w4 ⟨rfl, hb5⟩; have hbz := hbw.trans (((hb3.trans hb4).trans (hb5.mono (by have := hb4.size; simpa using this))).mono hbw.size); have hr5 := hr.new hbz; have c1 := hr5.c1; have f1 := hr5.fr 1))
    all_goals
      go_wp2
      go_ret2
      exact PartPost.good HT.out rfl HX.out (grown_trans (grown_below hbz _) (grown_set _ ⟨b, 1, none⟩ _)) (hr5.set1 (by simp))
/-- a sign -/
theorem sign_any {b H : Nat} {s : ByteArray} {a : Nat} {l : Value} {w : World} (hG : Gl w H) (hH : H ≤ w.heap.size) (hr : Sc w b s a l) (hs : s.size ≤ 1000000) (ha : a < s.size) (h1 : letN (byteAt s a) = false) (h2 : digN (byteAt s a) = false) (h3 : byteAt s a ≠ 34) (h4 : byteAt s a ≠ 36) :
    Calls Tryz.prog 84 #[.pointer (some ⟨b, 0, none⟩)] w (PartPost b s a l w) := by
  have ht := tok_sign ha h1 h2 h3 h4
  by_cases ho : firstL oddS (rest s a) = []
  · by_cases hn : firstL signsS (rest s a) = []
    · exact sign_none hG hH hr hs ha ht ho hn
    · exact sign_good hG hH hr hs ha ht ho hn
  · exact sign_odd hG hr hs ha ht ho

/-! a name -/
theorem contains_is {w : World} {g n c : Nat} {L : List (List UInt8)} {x : ByteArray} {v : Bool} (hst : IsStrs w g L) (hn : L.length = n) (hl : L.length ≤ 1000) (h : decide (x.data.toList ∈ L) = v) :
    Calls Tryz.prog 32 #[.slice (some ⟨g, 0, none⟩) n c, .string x] w fun e w' => e = .returned (.bool v) ∧ w = w' := by
  subst hn
  refine (Tryz.slices_Contains_string g 0 L.length c (L.map bs) x w (by simp) (by omega) (fun j hj => ?_)).mono ?_
  · simp at hj
    rw [Nat.zero_add, hst j hj]
    simp [List.getD_eq_getElem?_getD, List.getElem?_eq_getElem hj]
  · rintro e w' ⟨he, rfl⟩
    refine ⟨?_, rfl⟩
    rw [he]
    refine ret_bool (Eq.trans ?_ h)
    rw [List.take_of_length_le (by simp), Bool.eq_iff_iff, Lib.containsS_iff, decide_eq_true_iff]
    constructor
    · intro hm
      obtain ⟨y, hy, e⟩ := List.mem_map.1 hm
      rw [← e, bs_list]; exact hy
    · intro hm
      exact List.mem_map.2 ⟨_, hm, by apply ByteArray.ext; apply Array.ext'; simp [bs]⟩
theorem run_ld_is {b : Nat} {s : ByteArray} {a : Nat} {l : Value} {w : World} {X : ByteArray} (hr : Sc w b s a l) (hs : s.size ≤ 1000000) (ha : a ≤ s.size) (hX : X = bs ((rest s a).take (runL (rest s a)))) :
    Calls Tryz.prog 29 #[.pointer (some ⟨b, 0, none⟩), .func (.func 136) #[] #[]] w fun e w' => e = .returned (.string X) ∧ Sc w' b s (a + runL (rest s a)) l ∧ w.grownBy w' (some b) := by
  subst hX; exact run_ld hr hs ha
theorem tok_name {s : ByteArray} {a : Nat} (ha : a < s.size) (h : letN (byteAt s a) = true) : tokS (rest s a) = if (rest s a).take (runL (rest s a)) ∈ wordsS then .good 1 ((rest s a).take (runL (rest s a))) (runL (rest s a))
    else if (rest s a).take (runL (rest s a)) = [95] ∨ 40 < runL (rest s a) ∨ (rest s a).take (runL (rest s a)) ∈ foreignS then .bad 101 else .good 2 ((rest s a).take (runL (rest s a))) (runL (rest s a)) := by
  obtain ⟨c, e1, e2⟩ := rest_cons ha
  rw [e2] at h
  rw [e1, tokS, if_pos h]
set_option maxRecDepth 100000 in
set_option maxHeartbeats 2000000 in
theorem name_word {b H : Nat} {s : ByteArray} {a : Nat} {l : Value} {w : World} (hG : Gl w H) (hH : H ≤ b) (hr : Sc w b s a l) (hs : s.size ≤ 1000000) (ha : a < s.size) (h : letN (byteAt s a) = true) (hw : (rest s a).take (runL (rest s a)) ∈ wordsS) :
    Calls Tryz.prog 79 #[.pointer (some ⟨b, 0, none⟩)] w (PartPost b s a l w) := by
  have ht := tok_name ha h
  rw [if_pos hw] at ht
  have HT := Lib.hid ht; clear ht
  obtain ⟨X, hX⟩ : ∃ X, X = bs ((rest s a).take (runL (rest s a))) := ⟨_, rfl⟩
  have HW := Lib.hid (show decide (X.data.toList ∈ wordsS) = true by rw [hX, bs_list]; exact decide_eq_true hw)
  have HX := Lib.hid hX; clear hX hw h
  have hHw : H ≤ w.heap.size := Nat.le_trans hH (Nat.le_of_lt hr.lt)
  go_enter Tryz.func79, Tryz.ntmps79
  go_wp2_with (first | (go_at_call 29; go_must (refine (run_ld_is hr hs (Nat.le_of_lt ha) HX.out).mono ?_); rintro e w1 ⟨rfl, hr1, hg1⟩) | (go_at_call 26; go_must (refine (words_any (hG.grown hHw hg1 hH)).mono ?_); rintro e w2 ⟨rfl, hb2, hst⟩; have HST := Lib.hid hst; clear hst) | (go_at_call 32; go_must (refine (contains_is HST.out rfl (by decide) HW.out).mono ?_); rintro e w3 ⟨rfl, rfl⟩))
  go_ret2
  exact PartPost.good HT.out rfl HX.out (grown_trans hg1 (grown_below hb2 _)) (hr1.new hb2)
theorem str_eq' (x y : ByteArray) : (x.toList == y.toList) = decide (x.data.toList = y.data.toList) := by
  rw [ByteArray.toList_eq, ByteArray.toList_eq]
  by_cases h : x.data.toList = y.data.toList
  · rw [decide_eq_true h]; exact beq_iff_eq.2 h
  · rw [decide_eq_false h]; exact beq_eq_false_iff_ne.2 h
set_option maxRecDepth 100000 in
set_option maxHeartbeats 2000000 in
theorem name_under {b H : Nat} {s : ByteArray} {a : Nat} {l : Value} {w : World} (hG : Gl w H) (hH : H ≤ b) (hr : Sc w b s a l) (hs : s.size ≤ 1000000) (ha : a < s.size) (h : letN (byteAt s a) = true) (hw : (rest s a).take (runL (rest s a)) ∉ wordsS) (h95 : (rest s a).take (runL (rest s a)) = [95]) :
    Calls Tryz.prog 79 #[.pointer (some ⟨b, 0, none⟩)] w (PartPost b s a l w) := by
  have ht := tok_name ha h
  rw [if_neg hw, if_pos (.inl h95)] at ht
  have HT := Lib.hid ht; clear ht
  have hle := runL_le (rest s a)
  rw [rest_len] at hle
  obtain ⟨X, hX⟩ : ∃ X : ByteArray, X = bs ((rest s a).take (runL (rest s a))) := ⟨_, rfl⟩
  have hXl : X = { data := #[95] } := by rw [hX, h95]; rfl
  have HW := Lib.hid (show decide (X.data.toList ∈ wordsS) = false by rw [hX, bs_list]; exact decide_eq_false hw)
  subst hXl
  have HX := Lib.hid hX; clear hX hw h
  have hHw : H ≤ w.heap.size := Nat.le_trans hH (Nat.le_of_lt hr.lt)
  clear h95
  go_enter Tryz.func79, Tryz.ntmps79
  go_wp2_with (first | (go_at_call 29; go_must (refine (run_ld_is hr hs (Nat.le_of_lt ha) HX.out).mono ?_); rintro e w1 ⟨rfl, hr1, hg1⟩) | (go_at_call 26; go_must (refine (words_any (hG.grown hHw hg1 hH)).mono ?_); rintro e w2 ⟨rfl, hb2, hst⟩; have HST := Lib.hid hst; clear hst; have hG2 := (hG.grown hHw hg1 hH).below (hb2.mono (Nat.le_trans hHw hg1.size))) | (go_at_call 32; refine (contains_is HSF.out rfl (by decide) HF.out).mono ?_; rintro e w5 ⟨rfl, rfl⟩) | (go_at_call 32; go_must (refine (contains_is HST.out rfl (by decide) HW.out).mono ?_); rintro e w3 ⟨rfl, rfl⟩)  | (go_at_call 138; refine (no_any _).mono ?_; rintro e w' ⟨rfl, rfl⟩))
  exact ⟨rfl, PartPost.bad HT.out rfl (grown_trans hg1 (grown_below hb2 _))⟩
set_option maxRecDepth 100000 in
set_option maxHeartbeats 2000000 in
theorem name_long {b H : Nat} {s : ByteArray} {a : Nat} {l : Value} {w : World} (hG : Gl w H) (hH : H ≤ b) (hr : Sc w b s a l) (hs : s.size ≤ 1000000) (ha : a < s.size) (h : letN (byteAt s a) = true) (hw : (rest s a).take (runL (rest s a)) ∉ wordsS) (h95 : (rest s a).take (runL (rest s a)) ≠ [95]) (h40 : 40 < runL (rest s a)) :
    Calls Tryz.prog 79 #[.pointer (some ⟨b, 0, none⟩)] w (PartPost b s a l w) := by
  have ht := tok_name ha h
  rw [if_neg hw, if_pos (.inr (.inl h40))] at ht
  have HT := Lib.hid ht; clear ht
  have hle := runL_le (rest s a)
  rw [rest_len] at hle
  obtain ⟨X, hX⟩ : ∃ X, X = bs ((rest s a).take (runL (rest s a))) := ⟨_, rfl⟩
  have hXs : X.size = runL (rest s a) := by rw [hX]; exact take_size (by omega)
  obtain ⟨n, hnn⟩ : ∃ n, runL (rest s a) = n := ⟨_, rfl⟩
  rw [hnn] at hXs
  have HW := Lib.hid (show decide (X.data.toList ∈ wordsS) = false by rw [hX, bs_list]; exact decide_eq_false hw)
  have e95 : (X.toList == ({ data := #[95] } : ByteArray).toList) = false := by rw [str_eq']; exact decide_eq_false (by rw [hX, bs_list]; exact h95)
  have e96 : (X.toList == [95]) = false := by have q : ({ data := #[95] } : ByteArray).toList = [95] := bs_toList [95]; rw [← q]; exact e95
  have g40 : (40 : Int) < (n : Int) := by omega
  have HX := Lib.hid hX; clear hX hw h
  have hHw : H ≤ w.heap.size := Nat.le_trans hH (Nat.le_of_lt hr.lt)
  clear h95 h40 hnn hle
  go_enter Tryz.func79, Tryz.ntmps79
  go_wp2_with (first | (go_at_call 29; go_must (refine (run_ld_is hr hs (Nat.le_of_lt ha) HX.out).mono ?_); rintro e w1 ⟨rfl, hr1, hg1⟩) | (go_at_call 26; go_must (refine (words_any (hG.grown hHw hg1 hH)).mono ?_); rintro e w2 ⟨rfl, hb2, hst⟩; have HST := Lib.hid hst; clear hst; have hG2 := (hG.grown hHw hg1 hH).below (hb2.mono (Nat.le_trans hHw hg1.size))) | (go_at_call 32; refine (contains_is HSF.out rfl (by decide) HF.out).mono ?_; rintro e w5 ⟨rfl, rfl⟩) | (go_at_call 32; go_must (refine (contains_is HST.out rfl (by decide) HW.out).mono ?_); rintro e w3 ⟨rfl, rfl⟩)  | (go_at_call 138; refine (no_any _).mono ?_; rintro e w' ⟨rfl, rfl⟩))
  exact ⟨rfl, PartPost.bad HT.out rfl (grown_trans hg1 (grown_below hb2 _))⟩
set_option maxRecDepth 100000 in
set_option maxHeartbeats 2000000 in
theorem name_foreign {b H : Nat} {s : ByteArray} {a : Nat} {l : Value} {w : World} (hG : Gl w H) (hH : H ≤ b) (hr : Sc w b s a l) (hs : s.size ≤ 1000000) (ha : a < s.size) (h : letN (byteAt s a) = true) (hw : (rest s a).take (runL (rest s a)) ∉ wordsS) (h95 : (rest s a).take (runL (rest s a)) ≠ [95]) (h40 : ¬ 40 < runL (rest s a)) (hf : (rest s a).take (runL (rest s a)) ∈ foreignS) :
    Calls Tryz.prog 79 #[.pointer (some ⟨b, 0, none⟩)] w (PartPost b s a l w) := by
  have ht := tok_name ha h
  rw [if_neg hw, if_pos (.inr (.inr hf))] at ht
  have HT := Lib.hid ht; clear ht
  have hle := runL_le (rest s a)
  rw [rest_len] at hle
  obtain ⟨X, hX⟩ : ∃ X, X = bs ((rest s a).take (runL (rest s a))) := ⟨_, rfl⟩
  have hXs : X.size = runL (rest s a) := by rw [hX]; exact take_size (by omega)
  obtain ⟨n, hnn⟩ : ∃ n, runL (rest s a) = n := ⟨_, rfl⟩
  rw [hnn] at hXs
  have HW := Lib.hid (show decide (X.data.toList ∈ wordsS) = false by rw [hX, bs_list]; exact decide_eq_false hw)
  have e95 : (X.toList == ({ data := #[95] } : ByteArray).toList) = false := by rw [str_eq']; exact decide_eq_false (by rw [hX, bs_list]; exact h95)
  have e96 : (X.toList == [95]) = false := by have q : ({ data := #[95] } : ByteArray).toList = [95] := bs_toList [95]; rw [← q]; exact e95
  have g40 : decide ((40 : Int) < (n : Int)) = false := by simp; omega
  have HF := Lib.hid (show decide (X.data.toList ∈ foreignS) = true by rw [hX, bs_list]; exact decide_eq_true hf)
  have HX := Lib.hid hX; clear hX hw h
  have hHw : H ≤ w.heap.size := Nat.le_trans hH (Nat.le_of_lt hr.lt)
  clear h95 h40 hnn hle hf
  go_enter Tryz.func79, Tryz.ntmps79
  go_wp2_with (first | (go_at_call 29; go_must (refine (run_ld_is hr hs (Nat.le_of_lt ha) HX.out).mono ?_); rintro e w1 ⟨rfl, hr1, hg1⟩) | (go_at_call 26; go_must (refine (words_any (hG.grown hHw hg1 hH)).mono ?_); rintro e w2 ⟨rfl, hb2, hst⟩; have HST := Lib.hid hst; clear hst; have hG2 := (hG.grown hHw hg1 hH).below (hb2.mono (Nat.le_trans hHw hg1.size))) | (go_at_call 32; refine (contains_is HSF.out rfl (by decide) HF.out).mono ?_; rintro e w5 ⟨rfl, rfl⟩) | (go_at_call 32; go_must (refine (contains_is HST.out rfl (by decide) HW.out).mono ?_); rintro e w3 ⟨rfl, rfl⟩)  | (go_at_call 137; go_must (refine (foreign_any hG2).mono ?_); rintro e w4 ⟨rfl, hb4, hst⟩; have HSF := Lib.hid hst; clear hst) | (go_at_call 138; refine (no_any _).mono ?_; rintro e w' ⟨rfl, rfl⟩))
  exact ⟨rfl, PartPost.bad HT.out rfl (grown_trans (grown_trans hg1 (grown_below hb2 _)) (grown_below hb4 _))⟩
set_option maxRecDepth 100000 in
set_option maxHeartbeats 2000000 in
theorem name_good {b H : Nat} {s : ByteArray} {a : Nat} {l : Value} {w : World} (hG : Gl w H) (hH : H ≤ b) (hr : Sc w b s a l) (hs : s.size ≤ 1000000) (ha : a < s.size) (h : letN (byteAt s a) = true) (hw : (rest s a).take (runL (rest s a)) ∉ wordsS) (h95 : (rest s a).take (runL (rest s a)) ≠ [95]) (h40 : ¬ 40 < runL (rest s a)) (hf : (rest s a).take (runL (rest s a)) ∉ foreignS) :
    Calls Tryz.prog 79 #[.pointer (some ⟨b, 0, none⟩)] w (PartPost b s a l w) := by
  have ht := tok_name ha h
  rw [if_neg hw, if_neg (fun hh => hh.elim h95 (fun hh => hh.elim h40 hf))] at ht
  have HT := Lib.hid ht; clear ht
  have hle := runL_le (rest s a)
  rw [rest_len] at hle
  obtain ⟨X, hX⟩ : ∃ X, X = bs ((rest s a).take (runL (rest s a))) := ⟨_, rfl⟩
  have hXs : X.size = runL (rest s a) := by rw [hX]; exact take_size (by omega)
  obtain ⟨n, hnn⟩ : ∃ n, runL (rest s a) = n := ⟨_, rfl⟩
  rw [hnn] at hXs
  have HW := Lib.hid (show decide (X.data.toList ∈ wordsS) = false by rw [hX, bs_list]; exact decide_eq_false hw)
  have e95 : (X.toList == ({ data := #[95] } : ByteArray).toList) = false := by rw [str_eq']; exact decide_eq_false (by rw [hX, bs_list]; exact h95)
  have e96 : (X.toList == [95]) = false := by have q : ({ data := #[95] } : ByteArray).toList = [95] := bs_toList [95]; rw [← q]; exact e95
  have g40 : decide ((40 : Int) < (n : Int)) = false := by simp; omega
  have HF := Lib.hid (show decide (X.data.toList ∈ foreignS) = false by rw [hX, bs_list]; exact decide_eq_false hf)
  have HX := Lib.hid hX; clear hX hw h
  have hHw : H ≤ w.heap.size := Nat.le_trans hH (Nat.le_of_lt hr.lt)
  clear h95 h40 hnn hle hf
  go_enter Tryz.func79, Tryz.ntmps79
  go_wp2_with (first | (go_at_call 29; go_must (refine (run_ld_is hr hs (Nat.le_of_lt ha) HX.out).mono ?_); rintro e w1 ⟨rfl, hr1, hg1⟩) | (go_at_call 26; go_must (refine (words_any (hG.grown hHw hg1 hH)).mono ?_); rintro e w2 ⟨rfl, hb2, hst⟩; have HST := Lib.hid hst; clear hst; have hG2 := (hG.grown hHw hg1 hH).below (hb2.mono (Nat.le_trans hHw hg1.size))) | (go_at_call 32; refine (contains_is HSF.out rfl (by decide) HF.out).mono ?_; rintro e w5 ⟨rfl, rfl⟩) | (go_at_call 32; go_must (refine (contains_is HST.out rfl (by decide) HW.out).mono ?_); rintro e w3 ⟨rfl, rfl⟩)  | (go_at_call 137; go_must (refine (foreign_any hG2).mono ?_); rintro e w4 ⟨rfl, hb4, hst⟩; have HSF := Lib.hid hst; clear hst))
  go_ret2
  exact PartPost.good HT.out rfl HX.out (grown_trans (grown_trans hg1 (grown_below hb2 _)) (grown_below hb4 _)) ((hr1.new hb2).new hb4)
/-- a name, a word -/
theorem name_any {b H : Nat} {s : ByteArray} {a : Nat} {l : Value} {w : World} (hG : Gl w H) (hH : H ≤ b) (hr : Sc w b s a l) (hs : s.size ≤ 1000000) (ha : a < s.size) (h : letN (byteAt s a) = true) :
    Calls Tryz.prog 79 #[.pointer (some ⟨b, 0, none⟩)] w (PartPost b s a l w) := by
  by_cases hw : (rest s a).take (runL (rest s a)) ∈ wordsS
  · exact name_word hG hH hr hs ha h hw
  · by_cases h95 : (rest s a).take (runL (rest s a)) = [95]
    · exact name_under hG hH hr hs ha h hw h95
    · by_cases h40 : 40 < runL (rest s a)
      · exact name_long hG hH hr hs ha h hw h95 h40
      · by_cases hf : (rest s a).take (runL (rest s a)) ∈ foreignS
        · exact name_foreign hG hH hr hs ha h hw h95 h40 hf
        · exact name_good hG hH hr hs ha h hw h95 h40 hf
end Go.Proofs.YtopbhopblpfjpaaGreatDoor.ScanF
