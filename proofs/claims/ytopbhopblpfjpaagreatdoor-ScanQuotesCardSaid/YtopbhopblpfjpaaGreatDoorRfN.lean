/- The document's numbers, walked. (Printed by rf_n.py.) -/
import Derived.Test.YtopbhopblpfjpaaGreatDoorRfC
namespace Go.Proofs.YtopbhopblpfjpaaGreatDoor.RfN
open Go.RowKit Go.Proofs.YtopbhopblpfjpaaGreatDoor.Lexy Go.Proofs.YtopbhopblpfjpaaGreatDoor.Heap Go.Proofs.YtopbhopblpfjpaaGreatDoor.Base Go.Proofs.YtopbhopblpfjpaaGreatDoor.Scany Go.Proofs.YtopbhopblpfjpaaGreatDoor.ScanC Go.Proofs.YtopbhopblpfjpaaGreatDoor.ScanD Go.Proofs.YtopbhopblpfjpaaGreatDoor.ScanE Go.Proofs.YtopbhopblpfjpaaGreatDoor.RfA Go.Proofs.YtopbhopblpfjpaaGreatDoor.RfB

/-- what comes of a number -/
def NumR (s : ByteArray) (a : Nat) (w : World) (e : Ending) (w' : World) : Prop :=
  Below w.heap.size w w' ∧ ∃ (k n : Nat) (v : Bool) (t : ByteArray), e = .returned (.tuple #[.agg #[.int .u8 (k : Int), .string t, .int .i64 (a : Int)], .int .i64 ((a + n : Nat) : Int), .bool v]) ∧
    numLen (rest s a) = n ∧ t = bs ((rest s a).take n) ∧ (if pointL (rest s (a + digL (rest s a))) then 4 else 3) = k ∧ numBad (rest s a) = !v
theorem NumR.mk {s : ByteArray} {a k n : Nat} {v : Bool} {w w' : World} {t : ByteArray} {y z : Int} (h1 : numLen (rest s a) = n) (h2 : t = bs ((rest s a).take n)) (h3 : (if pointL (rest s (a + digL (rest s a))) then 4 else 3) = k) (h4 : numBad (rest s a) = !v) (hy : y = ((a + n : Nat) : Int)) (hz : z = (k : Int)) (hb : Below w.heap.size w w') :
    NumR s a w (.returned (.tuple #[.agg #[.int .u8 z, .string t, .int .i64 (a : Int)], .int .i64 y, .bool v])) w' := by
  subst hy hz; exact ⟨hb, k, n, v, t, rfl, h1, h2, h3, h4⟩
theorem res_num {w : World} {H : Nat} {v0 v1 v2 v5 v6 : Value} {tmps : Array Value} (hH : w.heap[H]? = some (.cells #[v0, v1, v2] 50 (0, 0)))
    (h4 : tmps[4]?.getD undef = .pointer (some ⟨H, 0, none⟩)) (h5 : tmps[5]?.getD undef = v5) (h6 : tmps[6]?.getD undef = v6) : (results Tryz.f40 tmps).run Tryz.prog w = .ok (.tuple #[.agg #[v0, v1, v2], v5, v6]) w := by
  obtain ⟨a0, a1, a2, _⟩ := cells3 hH
  simp [results, Tryz.results40, go_sem, h4, h5, h6, a0, a1, a2]
theorem digits_is {s : ByteArray} {a : Nat} {x y : Int} {w : World} (hs : s.size ≤ 1000000) (ha : a ≤ s.size) (hx : x = (a : Int)) (hy : y = ((a + digL (rest s a) : Nat) : Int)) :
    Calls Tryz.prog 87 #[.string s, .int .i64 x] w fun e w' => e = .returned (.int .i64 y) ∧ w = w' := by subst hx hy; exact digits_r hs ha
theorem two_heap (w : World) (o1 o2 : Obj) : ((w.alloc o1).alloc o2).heap[w.heap.size]? = some o1 := (Below.heap_alloc _ _ _ (by simp)).trans (heap_alloc_new w _)
theorem two_below (w : World) (o1 o2 : Obj) : Below w.heap.size w ((w.alloc o1).alloc o2) := ((Below.refl _ _).alloc (Nat.le_refl _) _).alloc (by simp) _

set_option maxRecDepth 100000 in
set_option maxHeartbeats 2000000 in
theorem num_p_z1_all {s : ByteArray} {a ca d c0 c1 m c : Nat} {w : World} (hs : s.size ≤ 1000000) (ha : a < s.size) (hca : byteAt s a = ca) (hd : digL (rest s a) = d) (hc0 : byteAt s (a + d) = c0) (hlt1 : a + d + 1 < s.size) (h46 : c0 = 46) (hc1 : byteAt s (a + d + 1) = c1) (hdg1 : digN c1 = true) (hm : digL (rest s (a + d + 1)) = m) (hc : byteAt s (a + d + 1 + m) = c) (hz2 : ca = 48) (hz1 : 1 < d) :
    Calls Tryz.prog 40 #[.string s, .int .i64 (a : Int)] w (NumR s a w) := by
  have hdl := dig_le s a; rw [hd] at hdl
  have hpt : pointL (rest s (a + d)) = true := by rw [point_rest, hc0, hc1, hdg1]; simp [h46]
  have hml := dig_le s (a + d + 1); rw [hm] at hml
  obtain ⟨hnl, hnc⟩ := num_point hd hpt hm
  have hcc : byteAt s (a + (d + 1 + m)) = c := by rw [show a + (d + 1 + m) = a + d + 1 + m by omega]; exact hc
  have hnb := bad_rest hd hnl; rw [hnc, hca, hcc] at hnb
  have hnv : numBad (rest s a) = !false := by rw [hnb]; simp [hz2, hz1]
  have hk : (if pointL (rest s (a + digL (rest s a))) then 4 else 3) = 4 := by rw [hd, hpt]; rfl
  have hex : s.extract a (a + d + 1 + m) = bs ((rest s a).take (d + 1 + m)) := by
    have := bs_extract s a (d + 1 + m) (by omega)
    rw [← this]; congr 1; omega
  have HNL := Lib.hid hnl; have HNV := Lib.hid hnv; have HK := Lib.hid hk; have HEX := Lib.hid hex
  have HY0 := Lib.hid (show (a : Int) + (d : Int) = ((a + digL (rest s a) : Nat) : Int) by rw [hd]; push_cast; rfl)
  have la0 := Nat.le_of_lt ha
  have hga := RfA.get_at ha; rw [hca] at hga; replace hga := hga.symm
  have j0 : (0 : Int) ≤ (a : Int) := by omega
  have j1 : (a : Int) < (s.size : Int) := by omega
  have k0 : (0 : Int) ≤ (a : Int) + (d : Int) := by omega
  have k00 : (0 : Int) ≤ (a : Int) + (d : Int) + 1 := by omega
  have k1 : (a : Int) + (d : Int) + 1 < (s.size : Int) := by omega
  have k2 : (a : Int) + (d : Int) < (s.size : Int) := by omega
  have hg0 := RfA.get_at (Nat.lt_of_succ_lt hlt1); rw [hc0] at hg0; replace hg0 := hg0.symm
  have e46 : ((c0 : Int) == 46) = true := by rw [h46]; rfl
  have hg1 := RfA.get_at hlt1; rw [hc1] at hg1; replace hg1 := hg1.symm
  have HG1 := Lib.hid hdg1
  have HX1 := Lib.hid (show (a : Int) + (d : Int) + 1 = ((a + d + 1 : Nat) : Int) by push_cast; rfl); have HY1 := Lib.hid (show (a : Int) + (d : Int) + 1 + (m : Int) = ((a + d + 1 + digL (rest s (a + d + 1)) : Nat) : Int) by rw [hm]; push_cast; rfl)
  have la1 := Nat.le_of_lt hlt1
  have k3 : (a : Int) ≤ (a : Int) + (d : Int) + 1 + (m : Int) := by omega
  have k4 : (a : Int) + (d : Int) + 1 + (m : Int) ≤ (s.size : Int) := by omega
  have k5 : (0 : Int) ≤ (a : Int) + (d : Int) + 1 + (m : Int) := by omega
  have e48 : ((ca : Int) == 48) = true := by rw [hz2]; rfl
  have g1 : (1 : Int) < (d : Int) := by omega
  have g1' : decide ((1 : Int) < (d : Int)) = true := decide_eq_true g1
  clear hd hnl hnc hpt hnb hnv hk hex hca hc0 hz2 hz1 hcc hm hc hc1 hdg1 h46
  go_enter Tryz.func40, Tryz.ntmps40
  go_wp2_with (first | (go_at_call 87; (with_reducible refine (digits_is (x := (a : Int)) hs la0 rfl HY0.out).mono ?_); rintro e w' ⟨rfl, rfl⟩) | (go_at_call 87; (with_reducible refine (digits_is hs la1 HX1.out HY1.out).mono ?_); rintro e w' ⟨rfl, rfl⟩) | (go_at_call 39; (with_reducible refine (digit_is HG1.out).mono ?_); rintro e w' ⟨rfl, rfl⟩))
  try simp only [Exit.inBlock, Exit.then]
  refine bodyPost_ret (res_num (two_heap _ _ _) rfl rfl rfl) rfl ?_
  exact NumR.mk HNL.out HEX.out HK.out HNV.out (by push_cast; omega) rfl (two_below _ _ _)
set_option maxRecDepth 100000 in
set_option maxHeartbeats 2000000 in
theorem num_p_z2_many {s : ByteArray} {a ca d c0 c1 m c : Nat} {w : World} (hs : s.size ≤ 1000000) (ha : a < s.size) (hca : byteAt s a = ca) (hd : digL (rest s a) = d) (hc0 : byteAt s (a + d) = c0) (hlt1 : a + d + 1 < s.size) (h46 : c0 = 46) (hc1 : byteAt s (a + d + 1) = c1) (hdg1 : digN c1 = true) (hm : digL (rest s (a + d + 1)) = m) (hc : byteAt s (a + d + 1 + m) = c) (hz2 : ca = 48) (hz1 : ¬ 1 < d) (ho1 : 40 < d + m) :
    Calls Tryz.prog 40 #[.string s, .int .i64 (a : Int)] w (NumR s a w) := by
  have hdl := dig_le s a; rw [hd] at hdl
  have hpt : pointL (rest s (a + d)) = true := by rw [point_rest, hc0, hc1, hdg1]; simp [h46]
  have hml := dig_le s (a + d + 1); rw [hm] at hml
  obtain ⟨hnl, hnc⟩ := num_point hd hpt hm
  have hcc : byteAt s (a + (d + 1 + m)) = c := by rw [show a + (d + 1 + m) = a + d + 1 + m by omega]; exact hc
  have hnb := bad_rest hd hnl; rw [hnc, hca, hcc] at hnb
  have hnv : numBad (rest s a) = !false := by rw [hnb]; simp [ho1]
  have hk : (if pointL (rest s (a + digL (rest s a))) then 4 else 3) = 4 := by rw [hd, hpt]; rfl
  have hex : s.extract a (a + d + 1 + m) = bs ((rest s a).take (d + 1 + m)) := by
    have := bs_extract s a (d + 1 + m) (by omega)
    rw [← this]; congr 1; omega
  have HNL := Lib.hid hnl; have HNV := Lib.hid hnv; have HK := Lib.hid hk; have HEX := Lib.hid hex
  have HY0 := Lib.hid (show (a : Int) + (d : Int) = ((a + digL (rest s a) : Nat) : Int) by rw [hd]; push_cast; rfl)
  have la0 := Nat.le_of_lt ha
  have hga := RfA.get_at ha; rw [hca] at hga; replace hga := hga.symm
  have j0 : (0 : Int) ≤ (a : Int) := by omega
  have j1 : (a : Int) < (s.size : Int) := by omega
  have k0 : (0 : Int) ≤ (a : Int) + (d : Int) := by omega
  have k00 : (0 : Int) ≤ (a : Int) + (d : Int) + 1 := by omega
  have k1 : (a : Int) + (d : Int) + 1 < (s.size : Int) := by omega
  have k2 : (a : Int) + (d : Int) < (s.size : Int) := by omega
  have hg0 := RfA.get_at (Nat.lt_of_succ_lt hlt1); rw [hc0] at hg0; replace hg0 := hg0.symm
  have e46 : ((c0 : Int) == 46) = true := by rw [h46]; rfl
  have hg1 := RfA.get_at hlt1; rw [hc1] at hg1; replace hg1 := hg1.symm
  have HG1 := Lib.hid hdg1
  have HX1 := Lib.hid (show (a : Int) + (d : Int) + 1 = ((a + d + 1 : Nat) : Int) by push_cast; rfl); have HY1 := Lib.hid (show (a : Int) + (d : Int) + 1 + (m : Int) = ((a + d + 1 + digL (rest s (a + d + 1)) : Nat) : Int) by rw [hm]; push_cast; rfl)
  have la1 := Nat.le_of_lt hlt1
  have k3 : (a : Int) ≤ (a : Int) + (d : Int) + 1 + (m : Int) := by omega
  have k4 : (a : Int) + (d : Int) + 1 + (m : Int) ≤ (s.size : Int) := by omega
  have k5 : (0 : Int) ≤ (a : Int) + (d : Int) + 1 + (m : Int) := by omega
  have e48 : ((ca : Int) == 48) = true := by rw [hz2]; rfl
  have g1 : ¬ ((1 : Int) < (d : Int)) := by omega
  have g1' : decide ((1 : Int) < (d : Int)) = false := decide_eq_false g1
  have g40 : (40 : Int) < (a : Int) + (d : Int) - (a : Int) + ((a : Int) + (d : Int) + 1 + (m : Int)) - ((a : Int) + (d : Int)) - 1 := by omega
  have g40' : decide ((40 : Int) < (a : Int) + (d : Int) - (a : Int) + ((a : Int) + (d : Int) + 1 + (m : Int)) - ((a : Int) + (d : Int)) - 1) = true := decide_eq_true g40
  clear hd hnl hnc hpt hnb hnv hk hex hca hc0 hz2 hz1 hcc hm hc hc1 hdg1 h46
  go_enter Tryz.func40, Tryz.ntmps40
  go_wp2_with (first | (go_at_call 87; (with_reducible refine (digits_is (x := (a : Int)) hs la0 rfl HY0.out).mono ?_); rintro e w' ⟨rfl, rfl⟩) | (go_at_call 87; (with_reducible refine (digits_is hs la1 HX1.out HY1.out).mono ?_); rintro e w' ⟨rfl, rfl⟩) | (go_at_call 39; (with_reducible refine (digit_is HG1.out).mono ?_); rintro e w' ⟨rfl, rfl⟩))
  try simp only [Exit.inBlock, Exit.then]
  refine bodyPost_ret (res_num (two_heap _ _ _) rfl rfl rfl) rfl ?_
  exact NumR.mk HNL.out HEX.out HK.out HNV.out (by push_cast; omega) rfl (two_below _ _ _)
set_option maxRecDepth 100000 in
set_option maxHeartbeats 2000000 in
theorem num_p_z2_E0 {s : ByteArray} {a ca d c0 c1 m c : Nat} {w : World} (hs : s.size ≤ 1000000) (ha : a < s.size) (hca : byteAt s a = ca) (hd : digL (rest s a) = d) (hc0 : byteAt s (a + d) = c0) (hlt1 : a + d + 1 < s.size) (h46 : c0 = 46) (hc1 : byteAt s (a + d + 1) = c1) (hdg1 : digN c1 = true) (hm : digL (rest s (a + d + 1)) = m) (hc : byteAt s (a + d + 1 + m) = c) (hz2 : ca = 48) (hz1 : ¬ 1 < d) (ho1 : ¬ 40 < d + m) (ho2 : ¬ a + d + 1 + m < s.size) :
    Calls Tryz.prog 40 #[.string s, .int .i64 (a : Int)] w (NumR s a w) := by
  have hdl := dig_le s a; rw [hd] at hdl
  have hpt : pointL (rest s (a + d)) = true := by rw [point_rest, hc0, hc1, hdg1]; simp [h46]
  have hml := dig_le s (a + d + 1); rw [hm] at hml
  obtain ⟨hnl, hnc⟩ := num_point hd hpt hm
  have hcc : byteAt s (a + (d + 1 + m)) = c := by rw [show a + (d + 1 + m) = a + d + 1 + m by omega]; exact hc
  have hnb := bad_rest hd hnl; rw [hnc, hca, hcc] at hnb
  have hzc : c = 0 := by rw [← hc, (rest_nil (s := s) (a := a + d + 1 + m) (by omega)).2]
  have hnv : numBad (rest s a) = !true := by rw [hnb]; simp [hzc, ho1, hz1, letN]
  have hk : (if pointL (rest s (a + digL (rest s a))) then 4 else 3) = 4 := by rw [hd, hpt]; rfl
  have hex : s.extract a (a + d + 1 + m) = bs ((rest s a).take (d + 1 + m)) := by
    have := bs_extract s a (d + 1 + m) (by omega)
    rw [← this]; congr 1; omega
  have HNL := Lib.hid hnl; have HNV := Lib.hid hnv; have HK := Lib.hid hk; have HEX := Lib.hid hex
  have HY0 := Lib.hid (show (a : Int) + (d : Int) = ((a + digL (rest s a) : Nat) : Int) by rw [hd]; push_cast; rfl)
  have la0 := Nat.le_of_lt ha
  have hga := RfA.get_at ha; rw [hca] at hga; replace hga := hga.symm
  have j0 : (0 : Int) ≤ (a : Int) := by omega
  have j1 : (a : Int) < (s.size : Int) := by omega
  have k0 : (0 : Int) ≤ (a : Int) + (d : Int) := by omega
  have k00 : (0 : Int) ≤ (a : Int) + (d : Int) + 1 := by omega
  have k1 : (a : Int) + (d : Int) + 1 < (s.size : Int) := by omega
  have k2 : (a : Int) + (d : Int) < (s.size : Int) := by omega
  have hg0 := RfA.get_at (Nat.lt_of_succ_lt hlt1); rw [hc0] at hg0; replace hg0 := hg0.symm
  have e46 : ((c0 : Int) == 46) = true := by rw [h46]; rfl
  have hg1 := RfA.get_at hlt1; rw [hc1] at hg1; replace hg1 := hg1.symm
  have HG1 := Lib.hid hdg1
  have HX1 := Lib.hid (show (a : Int) + (d : Int) + 1 = ((a + d + 1 : Nat) : Int) by push_cast; rfl); have HY1 := Lib.hid (show (a : Int) + (d : Int) + 1 + (m : Int) = ((a + d + 1 + digL (rest s (a + d + 1)) : Nat) : Int) by rw [hm]; push_cast; rfl)
  have la1 := Nat.le_of_lt hlt1
  have k3 : (a : Int) ≤ (a : Int) + (d : Int) + 1 + (m : Int) := by omega
  have k4 : (a : Int) + (d : Int) + 1 + (m : Int) ≤ (s.size : Int) := by omega
  have k5 : (0 : Int) ≤ (a : Int) + (d : Int) + 1 + (m : Int) := by omega
  have e48 : ((ca : Int) == 48) = true := by rw [hz2]; rfl
  have g1 : ¬ ((1 : Int) < (d : Int)) := by omega
  have g1' : decide ((1 : Int) < (d : Int)) = false := decide_eq_false g1
  have g40 : ¬ ((40 : Int) < (a : Int) + (d : Int) - (a : Int) + ((a : Int) + (d : Int) + 1 + (m : Int)) - ((a : Int) + (d : Int)) - 1) := by omega
  have g40' : decide ((40 : Int) < (a : Int) + (d : Int) - (a : Int) + ((a : Int) + (d : Int) + 1 + (m : Int)) - ((a : Int) + (d : Int)) - 1) = false := decide_eq_false g40
  have k6 : ¬ ((a : Int) + (d : Int) + 1 + (m : Int) < (s.size : Int)) := by omega
  clear hd hnl hnc hpt hnb hnv hk hex hca hc0 hz2 hz1 hcc hm hc hc1 hdg1 h46 hzc
  go_enter Tryz.func40, Tryz.ntmps40
  go_wp2_with (first | (go_at_call 87; (with_reducible refine (digits_is (x := (a : Int)) hs la0 rfl HY0.out).mono ?_); rintro e w' ⟨rfl, rfl⟩) | (go_at_call 87; (with_reducible refine (digits_is hs la1 HX1.out HY1.out).mono ?_); rintro e w' ⟨rfl, rfl⟩) | (go_at_call 39; (with_reducible refine (digit_is HG1.out).mono ?_); rintro e w' ⟨rfl, rfl⟩))
  try simp only [Exit.inBlock, Exit.then]
  refine bodyPost_ret (res_num (two_heap _ _ _) rfl rfl rfl) rfl ?_
  exact NumR.mk HNL.out HEX.out HK.out HNV.out (by push_cast; omega) rfl (two_below _ _ _)
set_option maxRecDepth 100000 in
set_option maxHeartbeats 2000000 in
theorem num_p_z2_E1 {s : ByteArray} {a ca d c0 c1 m c : Nat} {w : World} (hs : s.size ≤ 1000000) (ha : a < s.size) (hca : byteAt s a = ca) (hd : digL (rest s a) = d) (hc0 : byteAt s (a + d) = c0) (hlt1 : a + d + 1 < s.size) (h46 : c0 = 46) (hc1 : byteAt s (a + d + 1) = c1) (hdg1 : digN c1 = true) (hm : digL (rest s (a + d + 1)) = m) (hc : byteAt s (a + d + 1 + m) = c) (hz2 : ca = 48) (hz1 : ¬ 1 < d) (ho1 : ¬ 40 < d + m) (ho2 : a + d + 1 + m < s.size) (ho3 : letN c = true) :
    Calls Tryz.prog 40 #[.string s, .int .i64 (a : Int)] w (NumR s a w) := by
  have hdl := dig_le s a; rw [hd] at hdl
  have hpt : pointL (rest s (a + d)) = true := by rw [point_rest, hc0, hc1, hdg1]; simp [h46]
  have hml := dig_le s (a + d + 1); rw [hm] at hml
  obtain ⟨hnl, hnc⟩ := num_point hd hpt hm
  have hcc : byteAt s (a + (d + 1 + m)) = c := by rw [show a + (d + 1 + m) = a + d + 1 + m by omega]; exact hc
  have hnb := bad_rest hd hnl; rw [hnc, hca, hcc] at hnb
  have hnv : numBad (rest s a) = !false := by rw [hnb]; simp [ho3]
  have hk : (if pointL (rest s (a + digL (rest s a))) then 4 else 3) = 4 := by rw [hd, hpt]; rfl
  have hex : s.extract a (a + d + 1 + m) = bs ((rest s a).take (d + 1 + m)) := by
    have := bs_extract s a (d + 1 + m) (by omega)
    rw [← this]; congr 1; omega
  have HNL := Lib.hid hnl; have HNV := Lib.hid hnv; have HK := Lib.hid hk; have HEX := Lib.hid hex
  have HY0 := Lib.hid (show (a : Int) + (d : Int) = ((a + digL (rest s a) : Nat) : Int) by rw [hd]; push_cast; rfl)
  have la0 := Nat.le_of_lt ha
  have hga := RfA.get_at ha; rw [hca] at hga; replace hga := hga.symm
  have j0 : (0 : Int) ≤ (a : Int) := by omega
  have j1 : (a : Int) < (s.size : Int) := by omega
  have k0 : (0 : Int) ≤ (a : Int) + (d : Int) := by omega
  have k00 : (0 : Int) ≤ (a : Int) + (d : Int) + 1 := by omega
  have k1 : (a : Int) + (d : Int) + 1 < (s.size : Int) := by omega
  have k2 : (a : Int) + (d : Int) < (s.size : Int) := by omega
  have hg0 := RfA.get_at (Nat.lt_of_succ_lt hlt1); rw [hc0] at hg0; replace hg0 := hg0.symm
  have e46 : ((c0 : Int) == 46) = true := by rw [h46]; rfl
  have hg1 := RfA.get_at hlt1; rw [hc1] at hg1; replace hg1 := hg1.symm
  have HG1 := Lib.hid hdg1
  have HX1 := Lib.hid (show (a : Int) + (d : Int) + 1 = ((a + d + 1 : Nat) : Int) by push_cast; rfl); have HY1 := Lib.hid (show (a : Int) + (d : Int) + 1 + (m : Int) = ((a + d + 1 + digL (rest s (a + d + 1)) : Nat) : Int) by rw [hm]; push_cast; rfl)
  have la1 := Nat.le_of_lt hlt1
  have k3 : (a : Int) ≤ (a : Int) + (d : Int) + 1 + (m : Int) := by omega
  have k4 : (a : Int) + (d : Int) + 1 + (m : Int) ≤ (s.size : Int) := by omega
  have k5 : (0 : Int) ≤ (a : Int) + (d : Int) + 1 + (m : Int) := by omega
  have e48 : ((ca : Int) == 48) = true := by rw [hz2]; rfl
  have g1 : ¬ ((1 : Int) < (d : Int)) := by omega
  have g1' : decide ((1 : Int) < (d : Int)) = false := decide_eq_false g1
  have g40 : ¬ ((40 : Int) < (a : Int) + (d : Int) - (a : Int) + ((a : Int) + (d : Int) + 1 + (m : Int)) - ((a : Int) + (d : Int)) - 1) := by omega
  have g40' : decide ((40 : Int) < (a : Int) + (d : Int) - (a : Int) + ((a : Int) + (d : Int) + 1 + (m : Int)) - ((a : Int) + (d : Int)) - 1) = false := decide_eq_false g40
  have k6 : (a : Int) + (d : Int) + 1 + (m : Int) < (s.size : Int) := by omega
  have hge := RfA.get_at ho2; rw [hc] at hge; replace hge := hge.symm
  have HL := Lib.hid ho3
  clear hd hnl hnc hpt hnb hnv hk hex hca hc0 hz2 hz1 hcc hm hc hc1 hdg1 h46 ho3
  go_enter Tryz.func40, Tryz.ntmps40
  go_wp2_with (first | (go_at_call 87; (with_reducible refine (digits_is (x := (a : Int)) hs la0 rfl HY0.out).mono ?_); rintro e w' ⟨rfl, rfl⟩) | (go_at_call 87; (with_reducible refine (digits_is hs la1 HX1.out HY1.out).mono ?_); rintro e w' ⟨rfl, rfl⟩) | (go_at_call 39; (with_reducible refine (digit_is HG1.out).mono ?_); rintro e w' ⟨rfl, rfl⟩) | (go_at_call 35; (with_reducible refine (letter_is HL.out).mono ?_); rintro e w' ⟨rfl, rfl⟩))
  try simp only [Exit.inBlock, Exit.then]
  refine bodyPost_ret (res_num (two_heap _ _ _) rfl rfl rfl) rfl ?_
  exact NumR.mk HNL.out HEX.out HK.out HNV.out (by push_cast; omega) rfl (two_below _ _ _)
set_option maxRecDepth 100000 in
set_option maxHeartbeats 2000000 in
theorem num_p_z2_E2 {s : ByteArray} {a ca d c0 c1 m c : Nat} {w : World} (hs : s.size ≤ 1000000) (ha : a < s.size) (hca : byteAt s a = ca) (hd : digL (rest s a) = d) (hc0 : byteAt s (a + d) = c0) (hlt1 : a + d + 1 < s.size) (h46 : c0 = 46) (hc1 : byteAt s (a + d + 1) = c1) (hdg1 : digN c1 = true) (hm : digL (rest s (a + d + 1)) = m) (hc : byteAt s (a + d + 1 + m) = c) (hz2 : ca = 48) (hz1 : ¬ 1 < d) (ho1 : ¬ 40 < d + m) (ho2 : a + d + 1 + m < s.size) (ho4 : c = 46) :
    Calls Tryz.prog 40 #[.string s, .int .i64 (a : Int)] w (NumR s a w) := by
  have hdl := dig_le s a; rw [hd] at hdl
  have hpt : pointL (rest s (a + d)) = true := by rw [point_rest, hc0, hc1, hdg1]; simp [h46]
  have hml := dig_le s (a + d + 1); rw [hm] at hml
  obtain ⟨hnl, hnc⟩ := num_point hd hpt hm
  have hcc : byteAt s (a + (d + 1 + m)) = c := by rw [show a + (d + 1 + m) = a + d + 1 + m by omega]; exact hc
  have hnb := bad_rest hd hnl; rw [hnc, hca, hcc] at hnb
  have hnv : numBad (rest s a) = !false := by rw [hnb]; simp [ho4]
  have hk : (if pointL (rest s (a + digL (rest s a))) then 4 else 3) = 4 := by rw [hd, hpt]; rfl
  have hex : s.extract a (a + d + 1 + m) = bs ((rest s a).take (d + 1 + m)) := by
    have := bs_extract s a (d + 1 + m) (by omega)
    rw [← this]; congr 1; omega
  have HNL := Lib.hid hnl; have HNV := Lib.hid hnv; have HK := Lib.hid hk; have HEX := Lib.hid hex
  have HY0 := Lib.hid (show (a : Int) + (d : Int) = ((a + digL (rest s a) : Nat) : Int) by rw [hd]; push_cast; rfl)
  have la0 := Nat.le_of_lt ha
  have hga := RfA.get_at ha; rw [hca] at hga; replace hga := hga.symm
  have j0 : (0 : Int) ≤ (a : Int) := by omega
  have j1 : (a : Int) < (s.size : Int) := by omega
  have k0 : (0 : Int) ≤ (a : Int) + (d : Int) := by omega
  have k00 : (0 : Int) ≤ (a : Int) + (d : Int) + 1 := by omega
  have k1 : (a : Int) + (d : Int) + 1 < (s.size : Int) := by omega
  have k2 : (a : Int) + (d : Int) < (s.size : Int) := by omega
  have hg0 := RfA.get_at (Nat.lt_of_succ_lt hlt1); rw [hc0] at hg0; replace hg0 := hg0.symm
  have e46 : ((c0 : Int) == 46) = true := by rw [h46]; rfl
  have hg1 := RfA.get_at hlt1; rw [hc1] at hg1; replace hg1 := hg1.symm
  have HG1 := Lib.hid hdg1
  have HX1 := Lib.hid (show (a : Int) + (d : Int) + 1 = ((a + d + 1 : Nat) : Int) by push_cast; rfl); have HY1 := Lib.hid (show (a : Int) + (d : Int) + 1 + (m : Int) = ((a + d + 1 + digL (rest s (a + d + 1)) : Nat) : Int) by rw [hm]; push_cast; rfl)
  have la1 := Nat.le_of_lt hlt1
  have k3 : (a : Int) ≤ (a : Int) + (d : Int) + 1 + (m : Int) := by omega
  have k4 : (a : Int) + (d : Int) + 1 + (m : Int) ≤ (s.size : Int) := by omega
  have k5 : (0 : Int) ≤ (a : Int) + (d : Int) + 1 + (m : Int) := by omega
  have e48 : ((ca : Int) == 48) = true := by rw [hz2]; rfl
  have g1 : ¬ ((1 : Int) < (d : Int)) := by omega
  have g1' : decide ((1 : Int) < (d : Int)) = false := decide_eq_false g1
  have g40 : ¬ ((40 : Int) < (a : Int) + (d : Int) - (a : Int) + ((a : Int) + (d : Int) + 1 + (m : Int)) - ((a : Int) + (d : Int)) - 1) := by omega
  have g40' : decide ((40 : Int) < (a : Int) + (d : Int) - (a : Int) + ((a : Int) + (d : Int) + 1 + (m : Int)) - ((a : Int) + (d : Int)) - 1) = false := decide_eq_false g40
  have k6 : (a : Int) + (d : Int) + 1 + (m : Int) < (s.size : Int) := by omega
  have hge := RfA.get_at ho2; rw [hc] at hge; replace hge := hge.symm
  have hl2 : letN c = false := by rw [ho4]; rfl
  have HL := Lib.hid hl2
  clear hl2
  have f46 : ((c : Int) == 46) = true := by rw [ho4]; rfl
  clear hd hnl hnc hpt hnb hnv hk hex hca hc0 hz2 hz1 hcc hm hc hc1 hdg1 h46 ho4
  go_enter Tryz.func40, Tryz.ntmps40
  go_wp2_with (first | (go_at_call 87; (with_reducible refine (digits_is (x := (a : Int)) hs la0 rfl HY0.out).mono ?_); rintro e w' ⟨rfl, rfl⟩) | (go_at_call 87; (with_reducible refine (digits_is hs la1 HX1.out HY1.out).mono ?_); rintro e w' ⟨rfl, rfl⟩) | (go_at_call 39; (with_reducible refine (digit_is HG1.out).mono ?_); rintro e w' ⟨rfl, rfl⟩) | (go_at_call 35; (with_reducible refine (letter_is HL.out).mono ?_); rintro e w' ⟨rfl, rfl⟩))
  try simp only [Exit.inBlock, Exit.then]
  refine bodyPost_ret (res_num (two_heap _ _ _) rfl rfl rfl) rfl ?_
  exact NumR.mk HNL.out HEX.out HK.out HNV.out (by push_cast; omega) rfl (two_below _ _ _)
set_option maxRecDepth 100000 in
set_option maxHeartbeats 2000000 in
theorem num_p_z2_E3 {s : ByteArray} {a ca d c0 c1 m c : Nat} {w : World} (hs : s.size ≤ 1000000) (ha : a < s.size) (hca : byteAt s a = ca) (hd : digL (rest s a) = d) (hc0 : byteAt s (a + d) = c0) (hlt1 : a + d + 1 < s.size) (h46 : c0 = 46) (hc1 : byteAt s (a + d + 1) = c1) (hdg1 : digN c1 = true) (hm : digL (rest s (a + d + 1)) = m) (hc : byteAt s (a + d + 1 + m) = c) (hz2 : ca = 48) (hz1 : ¬ 1 < d) (ho1 : ¬ 40 < d + m) (ho2 : a + d + 1 + m < s.size) (ho3 : letN c = false) (ho4 : c ≠ 46) :
    Calls Tryz.prog 40 #[.string s, .int .i64 (a : Int)] w (NumR s a w) := by
  have hdl := dig_le s a; rw [hd] at hdl
  have hpt : pointL (rest s (a + d)) = true := by rw [point_rest, hc0, hc1, hdg1]; simp [h46]
  have hml := dig_le s (a + d + 1); rw [hm] at hml
  obtain ⟨hnl, hnc⟩ := num_point hd hpt hm
  have hcc : byteAt s (a + (d + 1 + m)) = c := by rw [show a + (d + 1 + m) = a + d + 1 + m by omega]; exact hc
  have hnb := bad_rest hd hnl; rw [hnc, hca, hcc] at hnb
  have hnv : numBad (rest s a) = !true := by rw [hnb]; simp [ho3, ho4, ho1, hz1]
  have hk : (if pointL (rest s (a + digL (rest s a))) then 4 else 3) = 4 := by rw [hd, hpt]; rfl
  have hex : s.extract a (a + d + 1 + m) = bs ((rest s a).take (d + 1 + m)) := by
    have := bs_extract s a (d + 1 + m) (by omega)
    rw [← this]; congr 1; omega
  have HNL := Lib.hid hnl; have HNV := Lib.hid hnv; have HK := Lib.hid hk; have HEX := Lib.hid hex
  have HY0 := Lib.hid (show (a : Int) + (d : Int) = ((a + digL (rest s a) : Nat) : Int) by rw [hd]; push_cast; rfl)
  have la0 := Nat.le_of_lt ha
  have hga := RfA.get_at ha; rw [hca] at hga; replace hga := hga.symm
  have j0 : (0 : Int) ≤ (a : Int) := by omega
  have j1 : (a : Int) < (s.size : Int) := by omega
  have k0 : (0 : Int) ≤ (a : Int) + (d : Int) := by omega
  have k00 : (0 : Int) ≤ (a : Int) + (d : Int) + 1 := by omega
  have k1 : (a : Int) + (d : Int) + 1 < (s.size : Int) := by omega
  have k2 : (a : Int) + (d : Int) < (s.size : Int) := by omega
  have hg0 := RfA.get_at (Nat.lt_of_succ_lt hlt1); rw [hc0] at hg0; replace hg0 := hg0.symm
  have e46 : ((c0 : Int) == 46) = true := by rw [h46]; rfl
  have hg1 := RfA.get_at hlt1; rw [hc1] at hg1; replace hg1 := hg1.symm
  have HG1 := Lib.hid hdg1
  have HX1 := Lib.hid (show (a : Int) + (d : Int) + 1 = ((a + d + 1 : Nat) : Int) by push_cast; rfl); have HY1 := Lib.hid (show (a : Int) + (d : Int) + 1 + (m : Int) = ((a + d + 1 + digL (rest s (a + d + 1)) : Nat) : Int) by rw [hm]; push_cast; rfl)
  have la1 := Nat.le_of_lt hlt1
  have k3 : (a : Int) ≤ (a : Int) + (d : Int) + 1 + (m : Int) := by omega
  have k4 : (a : Int) + (d : Int) + 1 + (m : Int) ≤ (s.size : Int) := by omega
  have k5 : (0 : Int) ≤ (a : Int) + (d : Int) + 1 + (m : Int) := by omega
  have e48 : ((ca : Int) == 48) = true := by rw [hz2]; rfl
  have g1 : ¬ ((1 : Int) < (d : Int)) := by omega
  have g1' : decide ((1 : Int) < (d : Int)) = false := decide_eq_false g1
  have g40 : ¬ ((40 : Int) < (a : Int) + (d : Int) - (a : Int) + ((a : Int) + (d : Int) + 1 + (m : Int)) - ((a : Int) + (d : Int)) - 1) := by omega
  have g40' : decide ((40 : Int) < (a : Int) + (d : Int) - (a : Int) + ((a : Int) + (d : Int) + 1 + (m : Int)) - ((a : Int) + (d : Int)) - 1) = false := decide_eq_false g40
  have k6 : (a : Int) + (d : Int) + 1 + (m : Int) < (s.size : Int) := by omega
  have hge := RfA.get_at ho2; rw [hc] at hge; replace hge := hge.symm
  have HL := Lib.hid ho3
  have f46 : ((c : Int) == 46) = false := beq_eq_false_iff_ne.2 (by omega)
  clear hd hnl hnc hpt hnb hnv hk hex hca hc0 hz2 hz1 hcc hm hc hc1 hdg1 h46 ho3 ho4
  go_enter Tryz.func40, Tryz.ntmps40
  go_wp2_with (first | (go_at_call 87; (with_reducible refine (digits_is (x := (a : Int)) hs la0 rfl HY0.out).mono ?_); rintro e w' ⟨rfl, rfl⟩) | (go_at_call 87; (with_reducible refine (digits_is hs la1 HX1.out HY1.out).mono ?_); rintro e w' ⟨rfl, rfl⟩) | (go_at_call 39; (with_reducible refine (digit_is HG1.out).mono ?_); rintro e w' ⟨rfl, rfl⟩) | (go_at_call 35; (with_reducible refine (letter_is HL.out).mono ?_); rintro e w' ⟨rfl, rfl⟩))
  try simp only [Exit.inBlock, Exit.then]
  refine bodyPost_ret (res_num (two_heap _ _ _) rfl rfl rfl) rfl ?_
  exact NumR.mk HNL.out HEX.out HK.out HNV.out (by push_cast; omega) rfl (two_below _ _ _)
set_option maxRecDepth 100000 in
set_option maxHeartbeats 2000000 in
theorem num_p_z3_many {s : ByteArray} {a ca d c0 c1 m c : Nat} {w : World} (hs : s.size ≤ 1000000) (ha : a < s.size) (hca : byteAt s a = ca) (hd : digL (rest s a) = d) (hc0 : byteAt s (a + d) = c0) (hlt1 : a + d + 1 < s.size) (h46 : c0 = 46) (hc1 : byteAt s (a + d + 1) = c1) (hdg1 : digN c1 = true) (hm : digL (rest s (a + d + 1)) = m) (hc : byteAt s (a + d + 1 + m) = c) (hz2 : ca ≠ 48) (ho1 : 40 < d + m) :
    Calls Tryz.prog 40 #[.string s, .int .i64 (a : Int)] w (NumR s a w) := by
  have hdl := dig_le s a; rw [hd] at hdl
  have hpt : pointL (rest s (a + d)) = true := by rw [point_rest, hc0, hc1, hdg1]; simp [h46]
  have hml := dig_le s (a + d + 1); rw [hm] at hml
  obtain ⟨hnl, hnc⟩ := num_point hd hpt hm
  have hcc : byteAt s (a + (d + 1 + m)) = c := by rw [show a + (d + 1 + m) = a + d + 1 + m by omega]; exact hc
  have hnb := bad_rest hd hnl; rw [hnc, hca, hcc] at hnb
  have hnv : numBad (rest s a) = !false := by rw [hnb]; simp [ho1]
  have hk : (if pointL (rest s (a + digL (rest s a))) then 4 else 3) = 4 := by rw [hd, hpt]; rfl
  have hex : s.extract a (a + d + 1 + m) = bs ((rest s a).take (d + 1 + m)) := by
    have := bs_extract s a (d + 1 + m) (by omega)
    rw [← this]; congr 1; omega
  have HNL := Lib.hid hnl; have HNV := Lib.hid hnv; have HK := Lib.hid hk; have HEX := Lib.hid hex
  have HY0 := Lib.hid (show (a : Int) + (d : Int) = ((a + digL (rest s a) : Nat) : Int) by rw [hd]; push_cast; rfl)
  have la0 := Nat.le_of_lt ha
  have hga := RfA.get_at ha; rw [hca] at hga; replace hga := hga.symm
  have j0 : (0 : Int) ≤ (a : Int) := by omega
  have j1 : (a : Int) < (s.size : Int) := by omega
  have k0 : (0 : Int) ≤ (a : Int) + (d : Int) := by omega
  have k00 : (0 : Int) ≤ (a : Int) + (d : Int) + 1 := by omega
  have k1 : (a : Int) + (d : Int) + 1 < (s.size : Int) := by omega
  have k2 : (a : Int) + (d : Int) < (s.size : Int) := by omega
  have hg0 := RfA.get_at (Nat.lt_of_succ_lt hlt1); rw [hc0] at hg0; replace hg0 := hg0.symm
  have e46 : ((c0 : Int) == 46) = true := by rw [h46]; rfl
  have hg1 := RfA.get_at hlt1; rw [hc1] at hg1; replace hg1 := hg1.symm
  have HG1 := Lib.hid hdg1
  have HX1 := Lib.hid (show (a : Int) + (d : Int) + 1 = ((a + d + 1 : Nat) : Int) by push_cast; rfl); have HY1 := Lib.hid (show (a : Int) + (d : Int) + 1 + (m : Int) = ((a + d + 1 + digL (rest s (a + d + 1)) : Nat) : Int) by rw [hm]; push_cast; rfl)
  have la1 := Nat.le_of_lt hlt1
  have k3 : (a : Int) ≤ (a : Int) + (d : Int) + 1 + (m : Int) := by omega
  have k4 : (a : Int) + (d : Int) + 1 + (m : Int) ≤ (s.size : Int) := by omega
  have k5 : (0 : Int) ≤ (a : Int) + (d : Int) + 1 + (m : Int) := by omega
  have e48 : ((ca : Int) == 48) = false := beq_eq_false_iff_ne.2 (by omega)
  have g40 : (40 : Int) < (a : Int) + (d : Int) - (a : Int) + ((a : Int) + (d : Int) + 1 + (m : Int)) - ((a : Int) + (d : Int)) - 1 := by omega
  have g40' : decide ((40 : Int) < (a : Int) + (d : Int) - (a : Int) + ((a : Int) + (d : Int) + 1 + (m : Int)) - ((a : Int) + (d : Int)) - 1) = true := decide_eq_true g40
  clear hd hnl hnc hpt hnb hnv hk hex hca hc0 hz2 hcc hm hc hc1 hdg1 h46
  go_enter Tryz.func40, Tryz.ntmps40
  go_wp2_with (first | (go_at_call 87; (with_reducible refine (digits_is (x := (a : Int)) hs la0 rfl HY0.out).mono ?_); rintro e w' ⟨rfl, rfl⟩) | (go_at_call 87; (with_reducible refine (digits_is hs la1 HX1.out HY1.out).mono ?_); rintro e w' ⟨rfl, rfl⟩) | (go_at_call 39; (with_reducible refine (digit_is HG1.out).mono ?_); rintro e w' ⟨rfl, rfl⟩))
  try simp only [Exit.inBlock, Exit.then]
  refine bodyPost_ret (res_num (two_heap _ _ _) rfl rfl rfl) rfl ?_
  exact NumR.mk HNL.out HEX.out HK.out HNV.out (by push_cast; omega) rfl (two_below _ _ _)
set_option maxRecDepth 100000 in
set_option maxHeartbeats 2000000 in
theorem num_p_z3_E0 {s : ByteArray} {a ca d c0 c1 m c : Nat} {w : World} (hs : s.size ≤ 1000000) (ha : a < s.size) (hca : byteAt s a = ca) (hd : digL (rest s a) = d) (hc0 : byteAt s (a + d) = c0) (hlt1 : a + d + 1 < s.size) (h46 : c0 = 46) (hc1 : byteAt s (a + d + 1) = c1) (hdg1 : digN c1 = true) (hm : digL (rest s (a + d + 1)) = m) (hc : byteAt s (a + d + 1 + m) = c) (hz2 : ca ≠ 48) (ho1 : ¬ 40 < d + m) (ho2 : ¬ a + d + 1 + m < s.size) :
    Calls Tryz.prog 40 #[.string s, .int .i64 (a : Int)] w (NumR s a w) := by
  have hdl := dig_le s a; rw [hd] at hdl
  have hpt : pointL (rest s (a + d)) = true := by rw [point_rest, hc0, hc1, hdg1]; simp [h46]
  have hml := dig_le s (a + d + 1); rw [hm] at hml
  obtain ⟨hnl, hnc⟩ := num_point hd hpt hm
  have hcc : byteAt s (a + (d + 1 + m)) = c := by rw [show a + (d + 1 + m) = a + d + 1 + m by omega]; exact hc
  have hnb := bad_rest hd hnl; rw [hnc, hca, hcc] at hnb
  have hzc : c = 0 := by rw [← hc, (rest_nil (s := s) (a := a + d + 1 + m) (by omega)).2]
  have hnv : numBad (rest s a) = !true := by rw [hnb]; simp [hzc, ho1, hz2, letN]
  have hk : (if pointL (rest s (a + digL (rest s a))) then 4 else 3) = 4 := by rw [hd, hpt]; rfl
  have hex : s.extract a (a + d + 1 + m) = bs ((rest s a).take (d + 1 + m)) := by
    have := bs_extract s a (d + 1 + m) (by omega)
    rw [← this]; congr 1; omega
  have HNL := Lib.hid hnl; have HNV := Lib.hid hnv; have HK := Lib.hid hk; have HEX := Lib.hid hex
  have HY0 := Lib.hid (show (a : Int) + (d : Int) = ((a + digL (rest s a) : Nat) : Int) by rw [hd]; push_cast; rfl)
  have la0 := Nat.le_of_lt ha
  have hga := RfA.get_at ha; rw [hca] at hga; replace hga := hga.symm
  have j0 : (0 : Int) ≤ (a : Int) := by omega
  have j1 : (a : Int) < (s.size : Int) := by omega
  have k0 : (0 : Int) ≤ (a : Int) + (d : Int) := by omega
  have k00 : (0 : Int) ≤ (a : Int) + (d : Int) + 1 := by omega
  have k1 : (a : Int) + (d : Int) + 1 < (s.size : Int) := by omega
  have k2 : (a : Int) + (d : Int) < (s.size : Int) := by omega
  have hg0 := RfA.get_at (Nat.lt_of_succ_lt hlt1); rw [hc0] at hg0; replace hg0 := hg0.symm
  have e46 : ((c0 : Int) == 46) = true := by rw [h46]; rfl
  have hg1 := RfA.get_at hlt1; rw [hc1] at hg1; replace hg1 := hg1.symm
  have HG1 := Lib.hid hdg1
  have HX1 := Lib.hid (show (a : Int) + (d : Int) + 1 = ((a + d + 1 : Nat) : Int) by push_cast; rfl); have HY1 := Lib.hid (show (a : Int) + (d : Int) + 1 + (m : Int) = ((a + d + 1 + digL (rest s (a + d + 1)) : Nat) : Int) by rw [hm]; push_cast; rfl)
  have la1 := Nat.le_of_lt hlt1
  have k3 : (a : Int) ≤ (a : Int) + (d : Int) + 1 + (m : Int) := by omega
  have k4 : (a : Int) + (d : Int) + 1 + (m : Int) ≤ (s.size : Int) := by omega
  have k5 : (0 : Int) ≤ (a : Int) + (d : Int) + 1 + (m : Int) := by omega
  have e48 : ((ca : Int) == 48) = false := beq_eq_false_iff_ne.2 (by omega)
  have g40 : ¬ ((40 : Int) < (a : Int) + (d : Int) - (a : Int) + ((a : Int) + (d : Int) + 1 + (m : Int)) - ((a : Int) + (d : Int)) - 1) := by omega
  have g40' : decide ((40 : Int) < (a : Int) + (d : Int) - (a : Int) + ((a : Int) + (d : Int) + 1 + (m : Int)) - ((a : Int) + (d : Int)) - 1) = false := decide_eq_false g40
  have k6 : ¬ ((a : Int) + (d : Int) + 1 + (m : Int) < (s.size : Int)) := by omega
  clear hd hnl hnc hpt hnb hnv hk hex hca hc0 hz2 hcc hm hc hc1 hdg1 h46 hzc
  go_enter Tryz.func40, Tryz.ntmps40
  go_wp2_with (first | (go_at_call 87; (with_reducible refine (digits_is (x := (a : Int)) hs la0 rfl HY0.out).mono ?_); rintro e w' ⟨rfl, rfl⟩) | (go_at_call 87; (with_reducible refine (digits_is hs la1 HX1.out HY1.out).mono ?_); rintro e w' ⟨rfl, rfl⟩) | (go_at_call 39; (with_reducible refine (digit_is HG1.out).mono ?_); rintro e w' ⟨rfl, rfl⟩))
  try simp only [Exit.inBlock, Exit.then]
  refine bodyPost_ret (res_num (two_heap _ _ _) rfl rfl rfl) rfl ?_
  exact NumR.mk HNL.out HEX.out HK.out HNV.out (by push_cast; omega) rfl (two_below _ _ _)
set_option maxRecDepth 100000 in
set_option maxHeartbeats 2000000 in
theorem num_p_z3_E1 {s : ByteArray} {a ca d c0 c1 m c : Nat} {w : World} (hs : s.size ≤ 1000000) (ha : a < s.size) (hca : byteAt s a = ca) (hd : digL (rest s a) = d) (hc0 : byteAt s (a + d) = c0) (hlt1 : a + d + 1 < s.size) (h46 : c0 = 46) (hc1 : byteAt s (a + d + 1) = c1) (hdg1 : digN c1 = true) (hm : digL (rest s (a + d + 1)) = m) (hc : byteAt s (a + d + 1 + m) = c) (hz2 : ca ≠ 48) (ho1 : ¬ 40 < d + m) (ho2 : a + d + 1 + m < s.size) (ho3 : letN c = true) :
    Calls Tryz.prog 40 #[.string s, .int .i64 (a : Int)] w (NumR s a w) := by
  have hdl := dig_le s a; rw [hd] at hdl
  have hpt : pointL (rest s (a + d)) = true := by rw [point_rest, hc0, hc1, hdg1]; simp [h46]
  have hml := dig_le s (a + d + 1); rw [hm] at hml
  obtain ⟨hnl, hnc⟩ := num_point hd hpt hm
  have hcc : byteAt s (a + (d + 1 + m)) = c := by rw [show a + (d + 1 + m) = a + d + 1 + m by omega]; exact hc
  have hnb := bad_rest hd hnl; rw [hnc, hca, hcc] at hnb
  have hnv : numBad (rest s a) = !false := by rw [hnb]; simp [ho3]
  have hk : (if pointL (rest s (a + digL (rest s a))) then 4 else 3) = 4 := by rw [hd, hpt]; rfl
  have hex : s.extract a (a + d + 1 + m) = bs ((rest s a).take (d + 1 + m)) := by
    have := bs_extract s a (d + 1 + m) (by omega)
    rw [← this]; congr 1; omega
  have HNL := Lib.hid hnl; have HNV := Lib.hid hnv; have HK := Lib.hid hk; have HEX := Lib.hid hex
  have HY0 := Lib.hid (show (a : Int) + (d : Int) = ((a + digL (rest s a) : Nat) : Int) by rw [hd]; push_cast; rfl)
  have la0 := Nat.le_of_lt ha
  have hga := RfA.get_at ha; rw [hca] at hga; replace hga := hga.symm
  have j0 : (0 : Int) ≤ (a : Int) := by omega
  have j1 : (a : Int) < (s.size : Int) := by omega
  have k0 : (0 : Int) ≤ (a : Int) + (d : Int) := by omega
  have k00 : (0 : Int) ≤ (a : Int) + (d : Int) + 1 := by omega
  have k1 : (a : Int) + (d : Int) + 1 < (s.size : Int) := by omega
  have k2 : (a : Int) + (d : Int) < (s.size : Int) := by omega
  have hg0 := RfA.get_at (Nat.lt_of_succ_lt hlt1); rw [hc0] at hg0; replace hg0 := hg0.symm
  have e46 : ((c0 : Int) == 46) = true := by rw [h46]; rfl
  have hg1 := RfA.get_at hlt1; rw [hc1] at hg1; replace hg1 := hg1.symm
  have HG1 := Lib.hid hdg1
  have HX1 := Lib.hid (show (a : Int) + (d : Int) + 1 = ((a + d + 1 : Nat) : Int) by push_cast; rfl); have HY1 := Lib.hid (show (a : Int) + (d : Int) + 1 + (m : Int) = ((a + d + 1 + digL (rest s (a + d + 1)) : Nat) : Int) by rw [hm]; push_cast; rfl)
  have la1 := Nat.le_of_lt hlt1
  have k3 : (a : Int) ≤ (a : Int) + (d : Int) + 1 + (m : Int) := by omega
  have k4 : (a : Int) + (d : Int) + 1 + (m : Int) ≤ (s.size : Int) := by omega
  have k5 : (0 : Int) ≤ (a : Int) + (d : Int) + 1 + (m : Int) := by omega
  have e48 : ((ca : Int) == 48) = false := beq_eq_false_iff_ne.2 (by omega)
  have g40 : ¬ ((40 : Int) < (a : Int) + (d : Int) - (a : Int) + ((a : Int) + (d : Int) + 1 + (m : Int)) - ((a : Int) + (d : Int)) - 1) := by omega
  have g40' : decide ((40 : Int) < (a : Int) + (d : Int) - (a : Int) + ((a : Int) + (d : Int) + 1 + (m : Int)) - ((a : Int) + (d : Int)) - 1) = false := decide_eq_false g40
  have k6 : (a : Int) + (d : Int) + 1 + (m : Int) < (s.size : Int) := by omega
  have hge := RfA.get_at ho2; rw [hc] at hge; replace hge := hge.symm
  have HL := Lib.hid ho3
  clear hd hnl hnc hpt hnb hnv hk hex hca hc0 hz2 hcc hm hc hc1 hdg1 h46 ho3
  go_enter Tryz.func40, Tryz.ntmps40
  go_wp2_with (first | (go_at_call 87; (with_reducible refine (digits_is (x := (a : Int)) hs la0 rfl HY0.out).mono ?_); rintro e w' ⟨rfl, rfl⟩) | (go_at_call 87; (with_reducible refine (digits_is hs la1 HX1.out HY1.out).mono ?_); rintro e w' ⟨rfl, rfl⟩) | (go_at_call 39; (with_reducible refine (digit_is HG1.out).mono ?_); rintro e w' ⟨rfl, rfl⟩) | (go_at_call 35; (with_reducible refine (letter_is HL.out).mono ?_); rintro e w' ⟨rfl, rfl⟩))
  try simp only [Exit.inBlock, Exit.then]
  refine bodyPost_ret (res_num (two_heap _ _ _) rfl rfl rfl) rfl ?_
  exact NumR.mk HNL.out HEX.out HK.out HNV.out (by push_cast; omega) rfl (two_below _ _ _)
set_option maxRecDepth 100000 in
set_option maxHeartbeats 2000000 in
theorem num_p_z3_E2 {s : ByteArray} {a ca d c0 c1 m c : Nat} {w : World} (hs : s.size ≤ 1000000) (ha : a < s.size) (hca : byteAt s a = ca) (hd : digL (rest s a) = d) (hc0 : byteAt s (a + d) = c0) (hlt1 : a + d + 1 < s.size) (h46 : c0 = 46) (hc1 : byteAt s (a + d + 1) = c1) (hdg1 : digN c1 = true) (hm : digL (rest s (a + d + 1)) = m) (hc : byteAt s (a + d + 1 + m) = c) (hz2 : ca ≠ 48) (ho1 : ¬ 40 < d + m) (ho2 : a + d + 1 + m < s.size) (ho4 : c = 46) :
    Calls Tryz.prog 40 #[.string s, .int .i64 (a : Int)] w (NumR s a w) := by
  have hdl := dig_le s a; rw [hd] at hdl
  have hpt : pointL (rest s (a + d)) = true := by rw [point_rest, hc0, hc1, hdg1]; simp [h46]
  have hml := dig_le s (a + d + 1); rw [hm] at hml
  obtain ⟨hnl, hnc⟩ := num_point hd hpt hm
  have hcc : byteAt s (a + (d + 1 + m)) = c := by rw [show a + (d + 1 + m) = a + d + 1 + m by omega]; exact hc
  have hnb := bad_rest hd hnl; rw [hnc, hca, hcc] at hnb
  have hnv : numBad (rest s a) = !false := by rw [hnb]; simp [ho4]
  have hk : (if pointL (rest s (a + digL (rest s a))) then 4 else 3) = 4 := by rw [hd, hpt]; rfl
  have hex : s.extract a (a + d + 1 + m) = bs ((rest s a).take (d + 1 + m)) := by
    have := bs_extract s a (d + 1 + m) (by omega)
    rw [← this]; congr 1; omega
  have HNL := Lib.hid hnl; have HNV := Lib.hid hnv; have HK := Lib.hid hk; have HEX := Lib.hid hex
  have HY0 := Lib.hid (show (a : Int) + (d : Int) = ((a + digL (rest s a) : Nat) : Int) by rw [hd]; push_cast; rfl)
  have la0 := Nat.le_of_lt ha
  have hga := RfA.get_at ha; rw [hca] at hga; replace hga := hga.symm
  have j0 : (0 : Int) ≤ (a : Int) := by omega
  have j1 : (a : Int) < (s.size : Int) := by omega
  have k0 : (0 : Int) ≤ (a : Int) + (d : Int) := by omega
  have k00 : (0 : Int) ≤ (a : Int) + (d : Int) + 1 := by omega
  have k1 : (a : Int) + (d : Int) + 1 < (s.size : Int) := by omega
  have k2 : (a : Int) + (d : Int) < (s.size : Int) := by omega
  have hg0 := RfA.get_at (Nat.lt_of_succ_lt hlt1); rw [hc0] at hg0; replace hg0 := hg0.symm
  have e46 : ((c0 : Int) == 46) = true := by rw [h46]; rfl
  have hg1 := RfA.get_at hlt1; rw [hc1] at hg1; replace hg1 := hg1.symm
  have HG1 := Lib.hid hdg1
  have HX1 := Lib.hid (show (a : Int) + (d : Int) + 1 = ((a + d + 1 : Nat) : Int) by push_cast; rfl); have HY1 := Lib.hid (show (a : Int) + (d : Int) + 1 + (m : Int) = ((a + d + 1 + digL (rest s (a + d + 1)) : Nat) : Int) by rw [hm]; push_cast; rfl)
  have la1 := Nat.le_of_lt hlt1
  have k3 : (a : Int) ≤ (a : Int) + (d : Int) + 1 + (m : Int) := by omega
  have k4 : (a : Int) + (d : Int) + 1 + (m : Int) ≤ (s.size : Int) := by omega
  have k5 : (0 : Int) ≤ (a : Int) + (d : Int) + 1 + (m : Int) := by omega
  have e48 : ((ca : Int) == 48) = false := beq_eq_false_iff_ne.2 (by omega)
  have g40 : ¬ ((40 : Int) < (a : Int) + (d : Int) - (a : Int) + ((a : Int) + (d : Int) + 1 + (m : Int)) - ((a : Int) + (d : Int)) - 1) := by omega
  have g40' : decide ((40 : Int) < (a : Int) + (d : Int) - (a : Int) + ((a : Int) + (d : Int) + 1 + (m : Int)) - ((a : Int) + (d : Int)) - 1) = false := decide_eq_false g40
  have k6 : (a : Int) + (d : Int) + 1 + (m : Int) < (s.size : Int) := by omega
  have hge := RfA.get_at ho2; rw [hc] at hge; replace hge := hge.symm
  have hl2 : letN c = false := by rw [ho4]; rfl
  have HL := Lib.hid hl2
  clear hl2
  have f46 : ((c : Int) == 46) = true := by rw [ho4]; rfl
  clear hd hnl hnc hpt hnb hnv hk hex hca hc0 hz2 hcc hm hc hc1 hdg1 h46 ho4
  go_enter Tryz.func40, Tryz.ntmps40
  go_wp2_with (first | (go_at_call 87; (with_reducible refine (digits_is (x := (a : Int)) hs la0 rfl HY0.out).mono ?_); rintro e w' ⟨rfl, rfl⟩) | (go_at_call 87; (with_reducible refine (digits_is hs la1 HX1.out HY1.out).mono ?_); rintro e w' ⟨rfl, rfl⟩) | (go_at_call 39; (with_reducible refine (digit_is HG1.out).mono ?_); rintro e w' ⟨rfl, rfl⟩) | (go_at_call 35; (with_reducible refine (letter_is HL.out).mono ?_); rintro e w' ⟨rfl, rfl⟩))
  try simp only [Exit.inBlock, Exit.then]
  refine bodyPost_ret (res_num (two_heap _ _ _) rfl rfl rfl) rfl ?_
  exact NumR.mk HNL.out HEX.out HK.out HNV.out (by push_cast; omega) rfl (two_below _ _ _)
set_option maxRecDepth 100000 in
set_option maxHeartbeats 2000000 in
theorem num_p_z3_E3 {s : ByteArray} {a ca d c0 c1 m c : Nat} {w : World} (hs : s.size ≤ 1000000) (ha : a < s.size) (hca : byteAt s a = ca) (hd : digL (rest s a) = d) (hc0 : byteAt s (a + d) = c0) (hlt1 : a + d + 1 < s.size) (h46 : c0 = 46) (hc1 : byteAt s (a + d + 1) = c1) (hdg1 : digN c1 = true) (hm : digL (rest s (a + d + 1)) = m) (hc : byteAt s (a + d + 1 + m) = c) (hz2 : ca ≠ 48) (ho1 : ¬ 40 < d + m) (ho2 : a + d + 1 + m < s.size) (ho3 : letN c = false) (ho4 : c ≠ 46) :
    Calls Tryz.prog 40 #[.string s, .int .i64 (a : Int)] w (NumR s a w) := by
  have hdl := dig_le s a; rw [hd] at hdl
  have hpt : pointL (rest s (a + d)) = true := by rw [point_rest, hc0, hc1, hdg1]; simp [h46]
  have hml := dig_le s (a + d + 1); rw [hm] at hml
  obtain ⟨hnl, hnc⟩ := num_point hd hpt hm
  have hcc : byteAt s (a + (d + 1 + m)) = c := by rw [show a + (d + 1 + m) = a + d + 1 + m by omega]; exact hc
  have hnb := bad_rest hd hnl; rw [hnc, hca, hcc] at hnb
  have hnv : numBad (rest s a) = !true := by rw [hnb]; simp [ho3, ho4, ho1, hz2]
  have hk : (if pointL (rest s (a + digL (rest s a))) then 4 else 3) = 4 := by rw [hd, hpt]; rfl
  have hex : s.extract a (a + d + 1 + m) = bs ((rest s a).take (d + 1 + m)) := by
    have := bs_extract s a (d + 1 + m) (by omega)
    rw [← this]; congr 1; omega
  have HNL := Lib.hid hnl; have HNV := Lib.hid hnv; have HK := Lib.hid hk; have HEX := Lib.hid hex
  have HY0 := Lib.hid (show (a : Int) + (d : Int) = ((a + digL (rest s a) : Nat) : Int) by rw [hd]; push_cast; rfl)
  have la0 := Nat.le_of_lt ha
  have hga := RfA.get_at ha; rw [hca] at hga; replace hga := hga.symm
  have j0 : (0 : Int) ≤ (a : Int) := by omega
  have j1 : (a : Int) < (s.size : Int) := by omega
  have k0 : (0 : Int) ≤ (a : Int) + (d : Int) := by omega
  have k00 : (0 : Int) ≤ (a : Int) + (d : Int) + 1 := by omega
  have k1 : (a : Int) + (d : Int) + 1 < (s.size : Int) := by omega
  have k2 : (a : Int) + (d : Int) < (s.size : Int) := by omega
  have hg0 := RfA.get_at (Nat.lt_of_succ_lt hlt1); rw [hc0] at hg0; replace hg0 := hg0.symm
  have e46 : ((c0 : Int) == 46) = true := by rw [h46]; rfl
  have hg1 := RfA.get_at hlt1; rw [hc1] at hg1; replace hg1 := hg1.symm
  have HG1 := Lib.hid hdg1
  have HX1 := Lib.hid (show (a : Int) + (d : Int) + 1 = ((a + d + 1 : Nat) : Int) by push_cast; rfl); have HY1 := Lib.hid (show (a : Int) + (d : Int) + 1 + (m : Int) = ((a + d + 1 + digL (rest s (a + d + 1)) : Nat) : Int) by rw [hm]; push_cast; rfl)
  have la1 := Nat.le_of_lt hlt1
  have k3 : (a : Int) ≤ (a : Int) + (d : Int) + 1 + (m : Int) := by omega
  have k4 : (a : Int) + (d : Int) + 1 + (m : Int) ≤ (s.size : Int) := by omega
  have k5 : (0 : Int) ≤ (a : Int) + (d : Int) + 1 + (m : Int) := by omega
  have e48 : ((ca : Int) == 48) = false := beq_eq_false_iff_ne.2 (by omega)
  have g40 : ¬ ((40 : Int) < (a : Int) + (d : Int) - (a : Int) + ((a : Int) + (d : Int) + 1 + (m : Int)) - ((a : Int) + (d : Int)) - 1) := by omega
  have g40' : decide ((40 : Int) < (a : Int) + (d : Int) - (a : Int) + ((a : Int) + (d : Int) + 1 + (m : Int)) - ((a : Int) + (d : Int)) - 1) = false := decide_eq_false g40
  have k6 : (a : Int) + (d : Int) + 1 + (m : Int) < (s.size : Int) := by omega
  have hge := RfA.get_at ho2; rw [hc] at hge; replace hge := hge.symm
  have HL := Lib.hid ho3
  have f46 : ((c : Int) == 46) = false := beq_eq_false_iff_ne.2 (by omega)
  clear hd hnl hnc hpt hnb hnv hk hex hca hc0 hz2 hcc hm hc hc1 hdg1 h46 ho3 ho4
  go_enter Tryz.func40, Tryz.ntmps40
  go_wp2_with (first | (go_at_call 87; (with_reducible refine (digits_is (x := (a : Int)) hs la0 rfl HY0.out).mono ?_); rintro e w' ⟨rfl, rfl⟩) | (go_at_call 87; (with_reducible refine (digits_is hs la1 HX1.out HY1.out).mono ?_); rintro e w' ⟨rfl, rfl⟩) | (go_at_call 39; (with_reducible refine (digit_is HG1.out).mono ?_); rintro e w' ⟨rfl, rfl⟩) | (go_at_call 35; (with_reducible refine (letter_is HL.out).mono ?_); rintro e w' ⟨rfl, rfl⟩))
  try simp only [Exit.inBlock, Exit.then]
  refine bodyPost_ret (res_num (two_heap _ _ _) rfl rfl rfl) rfl ?_
  exact NumR.mk HNL.out HEX.out HK.out HNV.out (by push_cast; omega) rfl (two_below _ _ _)
set_option maxRecDepth 100000 in
set_option maxHeartbeats 2000000 in
theorem num_q1_z1_all {s : ByteArray} {a ca d c0 : Nat} {w : World} (hs : s.size ≤ 1000000) (ha : a < s.size) (hca : byteAt s a = ca) (hd : digL (rest s a) = d) (hc0 : byteAt s (a + d) = c0) (hlt1 : a + d + 1 < s.size) (h46 : c0 ≠ 46) (hz2 : ca = 48) (hz1 : 1 < d) :
    Calls Tryz.prog 40 #[.string s, .int .i64 (a : Int)] w (NumR s a w) := by
  have hdl := dig_le s a; rw [hd] at hdl
  have hpt : pointL (rest s (a + d)) = false := by rw [point_rest, hc0]; simp [h46]
  obtain ⟨hnl, hnc⟩ := num_plain hd hpt
  have hnb := bad_rest hd hnl; rw [hnc, hca, hc0] at hnb
  have hnv : numBad (rest s a) = !false := by rw [hnb]; simp [hz2, hz1]
  have hk : (if pointL (rest s (a + digL (rest s a))) then 4 else 3) = 3 := by rw [hd, hpt]; rfl
  have hex : s.extract a (a + d) = bs ((rest s a).take (d)) := by
    have := bs_extract s a (d) (by omega)
    rw [← this]
  have HNL := Lib.hid hnl; have HNV := Lib.hid hnv; have HK := Lib.hid hk; have HEX := Lib.hid hex
  have HY0 := Lib.hid (show (a : Int) + (d : Int) = ((a + digL (rest s a) : Nat) : Int) by rw [hd]; push_cast; rfl)
  have la0 := Nat.le_of_lt ha
  have hga := RfA.get_at ha; rw [hca] at hga; replace hga := hga.symm
  have j0 : (0 : Int) ≤ (a : Int) := by omega
  have j1 : (a : Int) < (s.size : Int) := by omega
  have k0 : (0 : Int) ≤ (a : Int) + (d : Int) := by omega
  have k00 : (0 : Int) ≤ (a : Int) + (d : Int) + 1 := by omega
  have k1 : (a : Int) + (d : Int) + 1 < (s.size : Int) := by omega
  have k2 : (a : Int) + (d : Int) < (s.size : Int) := by omega
  have hg0 := RfA.get_at (Nat.lt_of_succ_lt hlt1); rw [hc0] at hg0; replace hg0 := hg0.symm
  have e46 : ((c0 : Int) == 46) = false := beq_eq_false_iff_ne.2 (by omega)
  have k3 : (a : Int) ≤ (a : Int) + (d : Int) := by omega
  have k4 : (a : Int) + (d : Int) ≤ (s.size : Int) := by omega
  have k5 : (0 : Int) ≤ (a : Int) + (d : Int) := by omega
  have e48 : ((ca : Int) == 48) = true := by rw [hz2]; rfl
  have g1 : (1 : Int) < (d : Int) := by omega
  have g1' : decide ((1 : Int) < (d : Int)) = true := decide_eq_true g1
  clear hd hnl hnc hpt hnb hnv hk hex hca hc0 hz2 hz1 h46
  go_enter Tryz.func40, Tryz.ntmps40
  go_wp2_with (first | (go_at_call 87; (with_reducible refine (digits_is (x := (a : Int)) hs la0 rfl HY0.out).mono ?_); rintro e w' ⟨rfl, rfl⟩))
  try simp only [Exit.inBlock, Exit.then]
  refine bodyPost_ret (res_num (two_heap _ _ _) rfl rfl rfl) rfl ?_
  exact NumR.mk HNL.out HEX.out HK.out HNV.out (by push_cast; omega) rfl (two_below _ _ _)
set_option maxRecDepth 100000 in
set_option maxHeartbeats 2000000 in
theorem num_q1_z2_E1 {s : ByteArray} {a ca d c0 : Nat} {w : World} (hs : s.size ≤ 1000000) (ha : a < s.size) (hca : byteAt s a = ca) (hd : digL (rest s a) = d) (hc0 : byteAt s (a + d) = c0) (hlt1 : a + d + 1 < s.size) (h46 : c0 ≠ 46) (hz2 : ca = 48) (hz1 : ¬ 1 < d) (ho1 : ¬ 40 < d) (ho2 : a + d < s.size) (ho3 : letN c0 = true) :
    Calls Tryz.prog 40 #[.string s, .int .i64 (a : Int)] w (NumR s a w) := by
  have hdl := dig_le s a; rw [hd] at hdl
  have hpt : pointL (rest s (a + d)) = false := by rw [point_rest, hc0]; simp [h46]
  obtain ⟨hnl, hnc⟩ := num_plain hd hpt
  have hnb := bad_rest hd hnl; rw [hnc, hca, hc0] at hnb
  have hnv : numBad (rest s a) = !false := by rw [hnb]; simp [ho3]
  have hk : (if pointL (rest s (a + digL (rest s a))) then 4 else 3) = 3 := by rw [hd, hpt]; rfl
  have hex : s.extract a (a + d) = bs ((rest s a).take (d)) := by
    have := bs_extract s a (d) (by omega)
    rw [← this]
  have HNL := Lib.hid hnl; have HNV := Lib.hid hnv; have HK := Lib.hid hk; have HEX := Lib.hid hex
  have HY0 := Lib.hid (show (a : Int) + (d : Int) = ((a + digL (rest s a) : Nat) : Int) by rw [hd]; push_cast; rfl)
  have la0 := Nat.le_of_lt ha
  have hga := RfA.get_at ha; rw [hca] at hga; replace hga := hga.symm
  have j0 : (0 : Int) ≤ (a : Int) := by omega
  have j1 : (a : Int) < (s.size : Int) := by omega
  have k0 : (0 : Int) ≤ (a : Int) + (d : Int) := by omega
  have k00 : (0 : Int) ≤ (a : Int) + (d : Int) + 1 := by omega
  have k1 : (a : Int) + (d : Int) + 1 < (s.size : Int) := by omega
  have k2 : (a : Int) + (d : Int) < (s.size : Int) := by omega
  have hg0 := RfA.get_at (Nat.lt_of_succ_lt hlt1); rw [hc0] at hg0; replace hg0 := hg0.symm
  have e46 : ((c0 : Int) == 46) = false := beq_eq_false_iff_ne.2 (by omega)
  have k3 : (a : Int) ≤ (a : Int) + (d : Int) := by omega
  have k4 : (a : Int) + (d : Int) ≤ (s.size : Int) := by omega
  have k5 : (0 : Int) ≤ (a : Int) + (d : Int) := by omega
  have e48 : ((ca : Int) == 48) = true := by rw [hz2]; rfl
  have g1 : ¬ ((1 : Int) < (d : Int)) := by omega
  have g1' : decide ((1 : Int) < (d : Int)) = false := decide_eq_false g1
  have g40 : ¬ ((40 : Int) < (a : Int) + (d : Int) - (a : Int)) := by omega
  have g40' : decide ((40 : Int) < (a : Int) + (d : Int) - (a : Int)) = false := decide_eq_false g40
  have k6 : (a : Int) + (d : Int) < (s.size : Int) := by omega
  have HL := Lib.hid ho3
  clear hd hnl hnc hpt hnb hnv hk hex hca hc0 hz2 hz1 h46 ho3
  go_enter Tryz.func40, Tryz.ntmps40
  go_wp2_with (first | (go_at_call 87; (with_reducible refine (digits_is (x := (a : Int)) hs la0 rfl HY0.out).mono ?_); rintro e w' ⟨rfl, rfl⟩) | (go_at_call 35; (with_reducible refine (letter_is HL.out).mono ?_); rintro e w' ⟨rfl, rfl⟩))
  try simp only [Exit.inBlock, Exit.then]
  refine bodyPost_ret (res_num (two_heap _ _ _) rfl rfl rfl) rfl ?_
  exact NumR.mk HNL.out HEX.out HK.out HNV.out (by push_cast; omega) rfl (two_below _ _ _)
set_option maxRecDepth 100000 in
set_option maxHeartbeats 2000000 in
theorem num_q1_z2_E3 {s : ByteArray} {a ca d c0 : Nat} {w : World} (hs : s.size ≤ 1000000) (ha : a < s.size) (hca : byteAt s a = ca) (hd : digL (rest s a) = d) (hc0 : byteAt s (a + d) = c0) (hlt1 : a + d + 1 < s.size) (h46 : c0 ≠ 46) (hz2 : ca = 48) (hz1 : ¬ 1 < d) (ho1 : ¬ 40 < d) (ho2 : a + d < s.size) (ho3 : letN c0 = false) (ho4 : c0 ≠ 46) :
    Calls Tryz.prog 40 #[.string s, .int .i64 (a : Int)] w (NumR s a w) := by
  have hdl := dig_le s a; rw [hd] at hdl
  have hpt : pointL (rest s (a + d)) = false := by rw [point_rest, hc0]; simp [h46]
  obtain ⟨hnl, hnc⟩ := num_plain hd hpt
  have hnb := bad_rest hd hnl; rw [hnc, hca, hc0] at hnb
  have hnv : numBad (rest s a) = !true := by rw [hnb]; simp [ho3, ho4, ho1, hz1]
  have hk : (if pointL (rest s (a + digL (rest s a))) then 4 else 3) = 3 := by rw [hd, hpt]; rfl
  have hex : s.extract a (a + d) = bs ((rest s a).take (d)) := by
    have := bs_extract s a (d) (by omega)
    rw [← this]
  have HNL := Lib.hid hnl; have HNV := Lib.hid hnv; have HK := Lib.hid hk; have HEX := Lib.hid hex
  have HY0 := Lib.hid (show (a : Int) + (d : Int) = ((a + digL (rest s a) : Nat) : Int) by rw [hd]; push_cast; rfl)
  have la0 := Nat.le_of_lt ha
  have hga := RfA.get_at ha; rw [hca] at hga; replace hga := hga.symm
  have j0 : (0 : Int) ≤ (a : Int) := by omega
  have j1 : (a : Int) < (s.size : Int) := by omega
  have k0 : (0 : Int) ≤ (a : Int) + (d : Int) := by omega
  have k00 : (0 : Int) ≤ (a : Int) + (d : Int) + 1 := by omega
  have k1 : (a : Int) + (d : Int) + 1 < (s.size : Int) := by omega
  have k2 : (a : Int) + (d : Int) < (s.size : Int) := by omega
  have hg0 := RfA.get_at (Nat.lt_of_succ_lt hlt1); rw [hc0] at hg0; replace hg0 := hg0.symm
  have e46 : ((c0 : Int) == 46) = false := beq_eq_false_iff_ne.2 (by omega)
  have k3 : (a : Int) ≤ (a : Int) + (d : Int) := by omega
  have k4 : (a : Int) + (d : Int) ≤ (s.size : Int) := by omega
  have k5 : (0 : Int) ≤ (a : Int) + (d : Int) := by omega
  have e48 : ((ca : Int) == 48) = true := by rw [hz2]; rfl
  have g1 : ¬ ((1 : Int) < (d : Int)) := by omega
  have g1' : decide ((1 : Int) < (d : Int)) = false := decide_eq_false g1
  have g40 : ¬ ((40 : Int) < (a : Int) + (d : Int) - (a : Int)) := by omega
  have g40' : decide ((40 : Int) < (a : Int) + (d : Int) - (a : Int)) = false := decide_eq_false g40
  have k6 : (a : Int) + (d : Int) < (s.size : Int) := by omega
  have HL := Lib.hid ho3
  clear hd hnl hnc hpt hnb hnv hk hex hca hc0 hz2 hz1 h46 ho3 ho4
  go_enter Tryz.func40, Tryz.ntmps40
  go_wp2_with (first | (go_at_call 87; (with_reducible refine (digits_is (x := (a : Int)) hs la0 rfl HY0.out).mono ?_); rintro e w' ⟨rfl, rfl⟩) | (go_at_call 35; (with_reducible refine (letter_is HL.out).mono ?_); rintro e w' ⟨rfl, rfl⟩))
  try simp only [Exit.inBlock, Exit.then]
  refine bodyPost_ret (res_num (two_heap _ _ _) rfl rfl rfl) rfl ?_
  exact NumR.mk HNL.out HEX.out HK.out HNV.out (by push_cast; omega) rfl (two_below _ _ _)
set_option maxRecDepth 100000 in
set_option maxHeartbeats 2000000 in
theorem num_q1_z3_many {s : ByteArray} {a ca d c0 : Nat} {w : World} (hs : s.size ≤ 1000000) (ha : a < s.size) (hca : byteAt s a = ca) (hd : digL (rest s a) = d) (hc0 : byteAt s (a + d) = c0) (hlt1 : a + d + 1 < s.size) (h46 : c0 ≠ 46) (hz2 : ca ≠ 48) (ho1 : 40 < d) :
    Calls Tryz.prog 40 #[.string s, .int .i64 (a : Int)] w (NumR s a w) := by
  have hdl := dig_le s a; rw [hd] at hdl
  have hpt : pointL (rest s (a + d)) = false := by rw [point_rest, hc0]; simp [h46]
  obtain ⟨hnl, hnc⟩ := num_plain hd hpt
  have hnb := bad_rest hd hnl; rw [hnc, hca, hc0] at hnb
  have hnv : numBad (rest s a) = !false := by rw [hnb]; simp [ho1]
  have hk : (if pointL (rest s (a + digL (rest s a))) then 4 else 3) = 3 := by rw [hd, hpt]; rfl
  have hex : s.extract a (a + d) = bs ((rest s a).take (d)) := by
    have := bs_extract s a (d) (by omega)
    rw [← this]
  have HNL := Lib.hid hnl; have HNV := Lib.hid hnv; have HK := Lib.hid hk; have HEX := Lib.hid hex
  have HY0 := Lib.hid (show (a : Int) + (d : Int) = ((a + digL (rest s a) : Nat) : Int) by rw [hd]; push_cast; rfl)
  have la0 := Nat.le_of_lt ha
  have hga := RfA.get_at ha; rw [hca] at hga; replace hga := hga.symm
  have j0 : (0 : Int) ≤ (a : Int) := by omega
  have j1 : (a : Int) < (s.size : Int) := by omega
  have k0 : (0 : Int) ≤ (a : Int) + (d : Int) := by omega
  have k00 : (0 : Int) ≤ (a : Int) + (d : Int) + 1 := by omega
  have k1 : (a : Int) + (d : Int) + 1 < (s.size : Int) := by omega
  have k2 : (a : Int) + (d : Int) < (s.size : Int) := by omega
  have hg0 := RfA.get_at (Nat.lt_of_succ_lt hlt1); rw [hc0] at hg0; replace hg0 := hg0.symm
  have e46 : ((c0 : Int) == 46) = false := beq_eq_false_iff_ne.2 (by omega)
  have k3 : (a : Int) ≤ (a : Int) + (d : Int) := by omega
  have k4 : (a : Int) + (d : Int) ≤ (s.size : Int) := by omega
  have k5 : (0 : Int) ≤ (a : Int) + (d : Int) := by omega
  have e48 : ((ca : Int) == 48) = false := beq_eq_false_iff_ne.2 (by omega)
  have g40 : (40 : Int) < (a : Int) + (d : Int) - (a : Int) := by omega
  have g40' : decide ((40 : Int) < (a : Int) + (d : Int) - (a : Int)) = true := decide_eq_true g40
  clear hd hnl hnc hpt hnb hnv hk hex hca hc0 hz2 h46
  go_enter Tryz.func40, Tryz.ntmps40
  go_wp2_with (first | (go_at_call 87; (with_reducible refine (digits_is (x := (a : Int)) hs la0 rfl HY0.out).mono ?_); rintro e w' ⟨rfl, rfl⟩))
  try simp only [Exit.inBlock, Exit.then]
  refine bodyPost_ret (res_num (two_heap _ _ _) rfl rfl rfl) rfl ?_
  exact NumR.mk HNL.out HEX.out HK.out HNV.out (by push_cast; omega) rfl (two_below _ _ _)
set_option maxRecDepth 100000 in
set_option maxHeartbeats 2000000 in
theorem num_q1_z3_E1 {s : ByteArray} {a ca d c0 : Nat} {w : World} (hs : s.size ≤ 1000000) (ha : a < s.size) (hca : byteAt s a = ca) (hd : digL (rest s a) = d) (hc0 : byteAt s (a + d) = c0) (hlt1 : a + d + 1 < s.size) (h46 : c0 ≠ 46) (hz2 : ca ≠ 48) (ho1 : ¬ 40 < d) (ho2 : a + d < s.size) (ho3 : letN c0 = true) :
    Calls Tryz.prog 40 #[.string s, .int .i64 (a : Int)] w (NumR s a w) := by
  have hdl := dig_le s a; rw [hd] at hdl
  have hpt : pointL (rest s (a + d)) = false := by rw [point_rest, hc0]; simp [h46]
  obtain ⟨hnl, hnc⟩ := num_plain hd hpt
  have hnb := bad_rest hd hnl; rw [hnc, hca, hc0] at hnb
  have hnv : numBad (rest s a) = !false := by rw [hnb]; simp [ho3]
  have hk : (if pointL (rest s (a + digL (rest s a))) then 4 else 3) = 3 := by rw [hd, hpt]; rfl
  have hex : s.extract a (a + d) = bs ((rest s a).take (d)) := by
    have := bs_extract s a (d) (by omega)
    rw [← this]
  have HNL := Lib.hid hnl; have HNV := Lib.hid hnv; have HK := Lib.hid hk; have HEX := Lib.hid hex
  have HY0 := Lib.hid (show (a : Int) + (d : Int) = ((a + digL (rest s a) : Nat) : Int) by rw [hd]; push_cast; rfl)
  have la0 := Nat.le_of_lt ha
  have hga := RfA.get_at ha; rw [hca] at hga; replace hga := hga.symm
  have j0 : (0 : Int) ≤ (a : Int) := by omega
  have j1 : (a : Int) < (s.size : Int) := by omega
  have k0 : (0 : Int) ≤ (a : Int) + (d : Int) := by omega
  have k00 : (0 : Int) ≤ (a : Int) + (d : Int) + 1 := by omega
  have k1 : (a : Int) + (d : Int) + 1 < (s.size : Int) := by omega
  have k2 : (a : Int) + (d : Int) < (s.size : Int) := by omega
  have hg0 := RfA.get_at (Nat.lt_of_succ_lt hlt1); rw [hc0] at hg0; replace hg0 := hg0.symm
  have e46 : ((c0 : Int) == 46) = false := beq_eq_false_iff_ne.2 (by omega)
  have k3 : (a : Int) ≤ (a : Int) + (d : Int) := by omega
  have k4 : (a : Int) + (d : Int) ≤ (s.size : Int) := by omega
  have k5 : (0 : Int) ≤ (a : Int) + (d : Int) := by omega
  have e48 : ((ca : Int) == 48) = false := beq_eq_false_iff_ne.2 (by omega)
  have g40 : ¬ ((40 : Int) < (a : Int) + (d : Int) - (a : Int)) := by omega
  have g40' : decide ((40 : Int) < (a : Int) + (d : Int) - (a : Int)) = false := decide_eq_false g40
  have k6 : (a : Int) + (d : Int) < (s.size : Int) := by omega
  have HL := Lib.hid ho3
  clear hd hnl hnc hpt hnb hnv hk hex hca hc0 hz2 h46 ho3
  go_enter Tryz.func40, Tryz.ntmps40
  go_wp2_with (first | (go_at_call 87; (with_reducible refine (digits_is (x := (a : Int)) hs la0 rfl HY0.out).mono ?_); rintro e w' ⟨rfl, rfl⟩) | (go_at_call 35; (with_reducible refine (letter_is HL.out).mono ?_); rintro e w' ⟨rfl, rfl⟩))
  try simp only [Exit.inBlock, Exit.then]
  refine bodyPost_ret (res_num (two_heap _ _ _) rfl rfl rfl) rfl ?_
  exact NumR.mk HNL.out HEX.out HK.out HNV.out (by push_cast; omega) rfl (two_below _ _ _)
set_option maxRecDepth 100000 in
set_option maxHeartbeats 2000000 in
theorem num_q1_z3_E3 {s : ByteArray} {a ca d c0 : Nat} {w : World} (hs : s.size ≤ 1000000) (ha : a < s.size) (hca : byteAt s a = ca) (hd : digL (rest s a) = d) (hc0 : byteAt s (a + d) = c0) (hlt1 : a + d + 1 < s.size) (h46 : c0 ≠ 46) (hz2 : ca ≠ 48) (ho1 : ¬ 40 < d) (ho2 : a + d < s.size) (ho3 : letN c0 = false) (ho4 : c0 ≠ 46) :
    Calls Tryz.prog 40 #[.string s, .int .i64 (a : Int)] w (NumR s a w) := by
  have hdl := dig_le s a; rw [hd] at hdl
  have hpt : pointL (rest s (a + d)) = false := by rw [point_rest, hc0]; simp [h46]
  obtain ⟨hnl, hnc⟩ := num_plain hd hpt
  have hnb := bad_rest hd hnl; rw [hnc, hca, hc0] at hnb
  have hnv : numBad (rest s a) = !true := by rw [hnb]; simp [ho3, ho4, ho1, hz2]
  have hk : (if pointL (rest s (a + digL (rest s a))) then 4 else 3) = 3 := by rw [hd, hpt]; rfl
  have hex : s.extract a (a + d) = bs ((rest s a).take (d)) := by
    have := bs_extract s a (d) (by omega)
    rw [← this]
  have HNL := Lib.hid hnl; have HNV := Lib.hid hnv; have HK := Lib.hid hk; have HEX := Lib.hid hex
  have HY0 := Lib.hid (show (a : Int) + (d : Int) = ((a + digL (rest s a) : Nat) : Int) by rw [hd]; push_cast; rfl)
  have la0 := Nat.le_of_lt ha
  have hga := RfA.get_at ha; rw [hca] at hga; replace hga := hga.symm
  have j0 : (0 : Int) ≤ (a : Int) := by omega
  have j1 : (a : Int) < (s.size : Int) := by omega
  have k0 : (0 : Int) ≤ (a : Int) + (d : Int) := by omega
  have k00 : (0 : Int) ≤ (a : Int) + (d : Int) + 1 := by omega
  have k1 : (a : Int) + (d : Int) + 1 < (s.size : Int) := by omega
  have k2 : (a : Int) + (d : Int) < (s.size : Int) := by omega
  have hg0 := RfA.get_at (Nat.lt_of_succ_lt hlt1); rw [hc0] at hg0; replace hg0 := hg0.symm
  have e46 : ((c0 : Int) == 46) = false := beq_eq_false_iff_ne.2 (by omega)
  have k3 : (a : Int) ≤ (a : Int) + (d : Int) := by omega
  have k4 : (a : Int) + (d : Int) ≤ (s.size : Int) := by omega
  have k5 : (0 : Int) ≤ (a : Int) + (d : Int) := by omega
  have e48 : ((ca : Int) == 48) = false := beq_eq_false_iff_ne.2 (by omega)
  have g40 : ¬ ((40 : Int) < (a : Int) + (d : Int) - (a : Int)) := by omega
  have g40' : decide ((40 : Int) < (a : Int) + (d : Int) - (a : Int)) = false := decide_eq_false g40
  have k6 : (a : Int) + (d : Int) < (s.size : Int) := by omega
  have HL := Lib.hid ho3
  clear hd hnl hnc hpt hnb hnv hk hex hca hc0 hz2 h46 ho3 ho4
  go_enter Tryz.func40, Tryz.ntmps40
  go_wp2_with (first | (go_at_call 87; (with_reducible refine (digits_is (x := (a : Int)) hs la0 rfl HY0.out).mono ?_); rintro e w' ⟨rfl, rfl⟩) | (go_at_call 35; (with_reducible refine (letter_is HL.out).mono ?_); rintro e w' ⟨rfl, rfl⟩))
  try simp only [Exit.inBlock, Exit.then]
  refine bodyPost_ret (res_num (two_heap _ _ _) rfl rfl rfl) rfl ?_
  exact NumR.mk HNL.out HEX.out HK.out HNV.out (by push_cast; omega) rfl (two_below _ _ _)
set_option maxRecDepth 100000 in
set_option maxHeartbeats 2000000 in
theorem num_q2_z1_all {s : ByteArray} {a ca d c0 c1 : Nat} {w : World} (hs : s.size ≤ 1000000) (ha : a < s.size) (hca : byteAt s a = ca) (hd : digL (rest s a) = d) (hc0 : byteAt s (a + d) = c0) (hlt1 : a + d + 1 < s.size) (h46 : c0 = 46) (hc1 : byteAt s (a + d + 1) = c1) (hdg1 : digN c1 = false) (hz2 : ca = 48) (hz1 : 1 < d) :
    Calls Tryz.prog 40 #[.string s, .int .i64 (a : Int)] w (NumR s a w) := by
  have hdl := dig_le s a; rw [hd] at hdl
  have hpt : pointL (rest s (a + d)) = false := by rw [point_rest, hc0, hc1, hdg1]; simp [h46]
  obtain ⟨hnl, hnc⟩ := num_plain hd hpt
  have hnb := bad_rest hd hnl; rw [hnc, hca, hc0] at hnb
  have hnv : numBad (rest s a) = !false := by rw [hnb]; simp [hz2, hz1]
  have hk : (if pointL (rest s (a + digL (rest s a))) then 4 else 3) = 3 := by rw [hd, hpt]; rfl
  have hex : s.extract a (a + d) = bs ((rest s a).take (d)) := by
    have := bs_extract s a (d) (by omega)
    rw [← this]
  have HNL := Lib.hid hnl; have HNV := Lib.hid hnv; have HK := Lib.hid hk; have HEX := Lib.hid hex
  have HY0 := Lib.hid (show (a : Int) + (d : Int) = ((a + digL (rest s a) : Nat) : Int) by rw [hd]; push_cast; rfl)
  have la0 := Nat.le_of_lt ha
  have hga := RfA.get_at ha; rw [hca] at hga; replace hga := hga.symm
  have j0 : (0 : Int) ≤ (a : Int) := by omega
  have j1 : (a : Int) < (s.size : Int) := by omega
  have k0 : (0 : Int) ≤ (a : Int) + (d : Int) := by omega
  have k00 : (0 : Int) ≤ (a : Int) + (d : Int) + 1 := by omega
  have k1 : (a : Int) + (d : Int) + 1 < (s.size : Int) := by omega
  have k2 : (a : Int) + (d : Int) < (s.size : Int) := by omega
  have hg0 := RfA.get_at (Nat.lt_of_succ_lt hlt1); rw [hc0] at hg0; replace hg0 := hg0.symm
  have e46 : ((c0 : Int) == 46) = true := by rw [h46]; rfl
  have hg1 := RfA.get_at hlt1; rw [hc1] at hg1; replace hg1 := hg1.symm
  have HG1 := Lib.hid hdg1
  have k3 : (a : Int) ≤ (a : Int) + (d : Int) := by omega
  have k4 : (a : Int) + (d : Int) ≤ (s.size : Int) := by omega
  have k5 : (0 : Int) ≤ (a : Int) + (d : Int) := by omega
  have e48 : ((ca : Int) == 48) = true := by rw [hz2]; rfl
  have g1 : (1 : Int) < (d : Int) := by omega
  have g1' : decide ((1 : Int) < (d : Int)) = true := decide_eq_true g1
  clear hd hnl hnc hpt hnb hnv hk hex hca hc0 hz2 hz1 hc1 hdg1 h46
  go_enter Tryz.func40, Tryz.ntmps40
  go_wp2_with (first | (go_at_call 87; (with_reducible refine (digits_is (x := (a : Int)) hs la0 rfl HY0.out).mono ?_); rintro e w' ⟨rfl, rfl⟩) | (go_at_call 39; (with_reducible refine (digit_is HG1.out).mono ?_); rintro e w' ⟨rfl, rfl⟩))
  try simp only [Exit.inBlock, Exit.then]
  refine bodyPost_ret (res_num (two_heap _ _ _) rfl rfl rfl) rfl ?_
  exact NumR.mk HNL.out HEX.out HK.out HNV.out (by push_cast; omega) rfl (two_below _ _ _)
set_option maxRecDepth 100000 in
set_option maxHeartbeats 2000000 in
theorem num_q2_z2_E2 {s : ByteArray} {a ca d c0 c1 : Nat} {w : World} (hs : s.size ≤ 1000000) (ha : a < s.size) (hca : byteAt s a = ca) (hd : digL (rest s a) = d) (hc0 : byteAt s (a + d) = c0) (hlt1 : a + d + 1 < s.size) (h46 : c0 = 46) (hc1 : byteAt s (a + d + 1) = c1) (hdg1 : digN c1 = false) (hz2 : ca = 48) (hz1 : ¬ 1 < d) (ho1 : ¬ 40 < d) (ho2 : a + d < s.size) (ho4 : c0 = 46) :
    Calls Tryz.prog 40 #[.string s, .int .i64 (a : Int)] w (NumR s a w) := by
  have hdl := dig_le s a; rw [hd] at hdl
  have hpt : pointL (rest s (a + d)) = false := by rw [point_rest, hc0, hc1, hdg1]; simp [h46]
  obtain ⟨hnl, hnc⟩ := num_plain hd hpt
  have hnb := bad_rest hd hnl; rw [hnc, hca, hc0] at hnb
  have hnv : numBad (rest s a) = !false := by rw [hnb]; simp [ho4]
  have hk : (if pointL (rest s (a + digL (rest s a))) then 4 else 3) = 3 := by rw [hd, hpt]; rfl
  have hex : s.extract a (a + d) = bs ((rest s a).take (d)) := by
    have := bs_extract s a (d) (by omega)
    rw [← this]
  have HNL := Lib.hid hnl; have HNV := Lib.hid hnv; have HK := Lib.hid hk; have HEX := Lib.hid hex
  have HY0 := Lib.hid (show (a : Int) + (d : Int) = ((a + digL (rest s a) : Nat) : Int) by rw [hd]; push_cast; rfl)
  have la0 := Nat.le_of_lt ha
  have hga := RfA.get_at ha; rw [hca] at hga; replace hga := hga.symm
  have j0 : (0 : Int) ≤ (a : Int) := by omega
  have j1 : (a : Int) < (s.size : Int) := by omega
  have k0 : (0 : Int) ≤ (a : Int) + (d : Int) := by omega
  have k00 : (0 : Int) ≤ (a : Int) + (d : Int) + 1 := by omega
  have k1 : (a : Int) + (d : Int) + 1 < (s.size : Int) := by omega
  have k2 : (a : Int) + (d : Int) < (s.size : Int) := by omega
  have hg0 := RfA.get_at (Nat.lt_of_succ_lt hlt1); rw [hc0] at hg0; replace hg0 := hg0.symm
  have e46 : ((c0 : Int) == 46) = true := by rw [h46]; rfl
  have hg1 := RfA.get_at hlt1; rw [hc1] at hg1; replace hg1 := hg1.symm
  have HG1 := Lib.hid hdg1
  have k3 : (a : Int) ≤ (a : Int) + (d : Int) := by omega
  have k4 : (a : Int) + (d : Int) ≤ (s.size : Int) := by omega
  have k5 : (0 : Int) ≤ (a : Int) + (d : Int) := by omega
  have e48 : ((ca : Int) == 48) = true := by rw [hz2]; rfl
  have g1 : ¬ ((1 : Int) < (d : Int)) := by omega
  have g1' : decide ((1 : Int) < (d : Int)) = false := decide_eq_false g1
  have g40 : ¬ ((40 : Int) < (a : Int) + (d : Int) - (a : Int)) := by omega
  have g40' : decide ((40 : Int) < (a : Int) + (d : Int) - (a : Int)) = false := decide_eq_false g40
  have k6 : (a : Int) + (d : Int) < (s.size : Int) := by omega
  have hl2 : letN c0 = false := by rw [ho4]; rfl
  have HL := Lib.hid hl2
  clear hl2
  clear hd hnl hnc hpt hnb hnv hk hex hca hc0 hz2 hz1 hc1 hdg1 h46 ho4
  go_enter Tryz.func40, Tryz.ntmps40
  go_wp2_with (first | (go_at_call 87; (with_reducible refine (digits_is (x := (a : Int)) hs la0 rfl HY0.out).mono ?_); rintro e w' ⟨rfl, rfl⟩) | (go_at_call 39; (with_reducible refine (digit_is HG1.out).mono ?_); rintro e w' ⟨rfl, rfl⟩) | (go_at_call 35; (with_reducible refine (letter_is HL.out).mono ?_); rintro e w' ⟨rfl, rfl⟩))
  try simp only [Exit.inBlock, Exit.then]
  refine bodyPost_ret (res_num (two_heap _ _ _) rfl rfl rfl) rfl ?_
  exact NumR.mk HNL.out HEX.out HK.out HNV.out (by push_cast; omega) rfl (two_below _ _ _)
set_option maxRecDepth 100000 in
set_option maxHeartbeats 2000000 in
theorem num_q2_z3_many {s : ByteArray} {a ca d c0 c1 : Nat} {w : World} (hs : s.size ≤ 1000000) (ha : a < s.size) (hca : byteAt s a = ca) (hd : digL (rest s a) = d) (hc0 : byteAt s (a + d) = c0) (hlt1 : a + d + 1 < s.size) (h46 : c0 = 46) (hc1 : byteAt s (a + d + 1) = c1) (hdg1 : digN c1 = false) (hz2 : ca ≠ 48) (ho1 : 40 < d) :
    Calls Tryz.prog 40 #[.string s, .int .i64 (a : Int)] w (NumR s a w) := by
  have hdl := dig_le s a; rw [hd] at hdl
  have hpt : pointL (rest s (a + d)) = false := by rw [point_rest, hc0, hc1, hdg1]; simp [h46]
  obtain ⟨hnl, hnc⟩ := num_plain hd hpt
  have hnb := bad_rest hd hnl; rw [hnc, hca, hc0] at hnb
  have hnv : numBad (rest s a) = !false := by rw [hnb]; simp [ho1]
  have hk : (if pointL (rest s (a + digL (rest s a))) then 4 else 3) = 3 := by rw [hd, hpt]; rfl
  have hex : s.extract a (a + d) = bs ((rest s a).take (d)) := by
    have := bs_extract s a (d) (by omega)
    rw [← this]
  have HNL := Lib.hid hnl; have HNV := Lib.hid hnv; have HK := Lib.hid hk; have HEX := Lib.hid hex
  have HY0 := Lib.hid (show (a : Int) + (d : Int) = ((a + digL (rest s a) : Nat) : Int) by rw [hd]; push_cast; rfl)
  have la0 := Nat.le_of_lt ha
  have hga := RfA.get_at ha; rw [hca] at hga; replace hga := hga.symm
  have j0 : (0 : Int) ≤ (a : Int) := by omega
  have j1 : (a : Int) < (s.size : Int) := by omega
  have k0 : (0 : Int) ≤ (a : Int) + (d : Int) := by omega
  have k00 : (0 : Int) ≤ (a : Int) + (d : Int) + 1 := by omega
  have k1 : (a : Int) + (d : Int) + 1 < (s.size : Int) := by omega
  have k2 : (a : Int) + (d : Int) < (s.size : Int) := by omega
  have hg0 := RfA.get_at (Nat.lt_of_succ_lt hlt1); rw [hc0] at hg0; replace hg0 := hg0.symm
  have e46 : ((c0 : Int) == 46) = true := by rw [h46]; rfl
  have hg1 := RfA.get_at hlt1; rw [hc1] at hg1; replace hg1 := hg1.symm
  have HG1 := Lib.hid hdg1
  have k3 : (a : Int) ≤ (a : Int) + (d : Int) := by omega
  have k4 : (a : Int) + (d : Int) ≤ (s.size : Int) := by omega
  have k5 : (0 : Int) ≤ (a : Int) + (d : Int) := by omega
  have e48 : ((ca : Int) == 48) = false := beq_eq_false_iff_ne.2 (by omega)
  have g40 : (40 : Int) < (a : Int) + (d : Int) - (a : Int) := by omega
  have g40' : decide ((40 : Int) < (a : Int) + (d : Int) - (a : Int)) = true := decide_eq_true g40
  clear hd hnl hnc hpt hnb hnv hk hex hca hc0 hz2 hc1 hdg1 h46
  go_enter Tryz.func40, Tryz.ntmps40
  go_wp2_with (first | (go_at_call 87; (with_reducible refine (digits_is (x := (a : Int)) hs la0 rfl HY0.out).mono ?_); rintro e w' ⟨rfl, rfl⟩) | (go_at_call 39; (with_reducible refine (digit_is HG1.out).mono ?_); rintro e w' ⟨rfl, rfl⟩))
  try simp only [Exit.inBlock, Exit.then]
  refine bodyPost_ret (res_num (two_heap _ _ _) rfl rfl rfl) rfl ?_
  exact NumR.mk HNL.out HEX.out HK.out HNV.out (by push_cast; omega) rfl (two_below _ _ _)
set_option maxRecDepth 100000 in
set_option maxHeartbeats 2000000 in
theorem num_q2_z3_E2 {s : ByteArray} {a ca d c0 c1 : Nat} {w : World} (hs : s.size ≤ 1000000) (ha : a < s.size) (hca : byteAt s a = ca) (hd : digL (rest s a) = d) (hc0 : byteAt s (a + d) = c0) (hlt1 : a + d + 1 < s.size) (h46 : c0 = 46) (hc1 : byteAt s (a + d + 1) = c1) (hdg1 : digN c1 = false) (hz2 : ca ≠ 48) (ho1 : ¬ 40 < d) (ho2 : a + d < s.size) (ho4 : c0 = 46) :
    Calls Tryz.prog 40 #[.string s, .int .i64 (a : Int)] w (NumR s a w) := by
  have hdl := dig_le s a; rw [hd] at hdl
  have hpt : pointL (rest s (a + d)) = false := by rw [point_rest, hc0, hc1, hdg1]; simp [h46]
  obtain ⟨hnl, hnc⟩ := num_plain hd hpt
  have hnb := bad_rest hd hnl; rw [hnc, hca, hc0] at hnb
  have hnv : numBad (rest s a) = !false := by rw [hnb]; simp [ho4]
  have hk : (if pointL (rest s (a + digL (rest s a))) then 4 else 3) = 3 := by rw [hd, hpt]; rfl
  have hex : s.extract a (a + d) = bs ((rest s a).take (d)) := by
    have := bs_extract s a (d) (by omega)
    rw [← this]
  have HNL := Lib.hid hnl; have HNV := Lib.hid hnv; have HK := Lib.hid hk; have HEX := Lib.hid hex
  have HY0 := Lib.hid (show (a : Int) + (d : Int) = ((a + digL (rest s a) : Nat) : Int) by rw [hd]; push_cast; rfl)
  have la0 := Nat.le_of_lt ha
  have hga := RfA.get_at ha; rw [hca] at hga; replace hga := hga.symm
  have j0 : (0 : Int) ≤ (a : Int) := by omega
  have j1 : (a : Int) < (s.size : Int) := by omega
  have k0 : (0 : Int) ≤ (a : Int) + (d : Int) := by omega
  have k00 : (0 : Int) ≤ (a : Int) + (d : Int) + 1 := by omega
  have k1 : (a : Int) + (d : Int) + 1 < (s.size : Int) := by omega
  have k2 : (a : Int) + (d : Int) < (s.size : Int) := by omega
  have hg0 := RfA.get_at (Nat.lt_of_succ_lt hlt1); rw [hc0] at hg0; replace hg0 := hg0.symm
  have e46 : ((c0 : Int) == 46) = true := by rw [h46]; rfl
  have hg1 := RfA.get_at hlt1; rw [hc1] at hg1; replace hg1 := hg1.symm
  have HG1 := Lib.hid hdg1
  have k3 : (a : Int) ≤ (a : Int) + (d : Int) := by omega
  have k4 : (a : Int) + (d : Int) ≤ (s.size : Int) := by omega
  have k5 : (0 : Int) ≤ (a : Int) + (d : Int) := by omega
  have e48 : ((ca : Int) == 48) = false := beq_eq_false_iff_ne.2 (by omega)
  have g40 : ¬ ((40 : Int) < (a : Int) + (d : Int) - (a : Int)) := by omega
  have g40' : decide ((40 : Int) < (a : Int) + (d : Int) - (a : Int)) = false := decide_eq_false g40
  have k6 : (a : Int) + (d : Int) < (s.size : Int) := by omega
  have hl2 : letN c0 = false := by rw [ho4]; rfl
  have HL := Lib.hid hl2
  clear hl2
  clear hd hnl hnc hpt hnb hnv hk hex hca hc0 hz2 hc1 hdg1 h46 ho4
  go_enter Tryz.func40, Tryz.ntmps40
  go_wp2_with (first | (go_at_call 87; (with_reducible refine (digits_is (x := (a : Int)) hs la0 rfl HY0.out).mono ?_); rintro e w' ⟨rfl, rfl⟩) | (go_at_call 39; (with_reducible refine (digit_is HG1.out).mono ?_); rintro e w' ⟨rfl, rfl⟩) | (go_at_call 35; (with_reducible refine (letter_is HL.out).mono ?_); rintro e w' ⟨rfl, rfl⟩))
  try simp only [Exit.inBlock, Exit.then]
  refine bodyPost_ret (res_num (two_heap _ _ _) rfl rfl rfl) rfl ?_
  exact NumR.mk HNL.out HEX.out HK.out HNV.out (by push_cast; omega) rfl (two_below _ _ _)
set_option maxRecDepth 100000 in
set_option maxHeartbeats 2000000 in
theorem num_q3_z1_all {s : ByteArray} {a ca d c0 : Nat} {w : World} (hs : s.size ≤ 1000000) (ha : a < s.size) (hca : byteAt s a = ca) (hd : digL (rest s a) = d) (hc0 : byteAt s (a + d) = c0) (hlt1 : ¬ a + d + 1 < s.size) (hz2 : ca = 48) (hz1 : 1 < d) :
    Calls Tryz.prog 40 #[.string s, .int .i64 (a : Int)] w (NumR s a w) := by
  have hdl := dig_le s a; rw [hd] at hdl
  have hpt : pointL (rest s (a + d)) = false := by rw [point_rest, (rest_nil (s := s) (a := a + d + 1) (by omega)).2]; simp [digN]
  obtain ⟨hnl, hnc⟩ := num_plain hd hpt
  have hnb := bad_rest hd hnl; rw [hnc, hca, hc0] at hnb
  have hnv : numBad (rest s a) = !false := by rw [hnb]; simp [hz2, hz1]
  have hk : (if pointL (rest s (a + digL (rest s a))) then 4 else 3) = 3 := by rw [hd, hpt]; rfl
  have hex : s.extract a (a + d) = bs ((rest s a).take (d)) := by
    have := bs_extract s a (d) (by omega)
    rw [← this]
  have HNL := Lib.hid hnl; have HNV := Lib.hid hnv; have HK := Lib.hid hk; have HEX := Lib.hid hex
  have HY0 := Lib.hid (show (a : Int) + (d : Int) = ((a + digL (rest s a) : Nat) : Int) by rw [hd]; push_cast; rfl)
  have la0 := Nat.le_of_lt ha
  have hga := RfA.get_at ha; rw [hca] at hga; replace hga := hga.symm
  have j0 : (0 : Int) ≤ (a : Int) := by omega
  have j1 : (a : Int) < (s.size : Int) := by omega
  have k0 : (0 : Int) ≤ (a : Int) + (d : Int) := by omega
  have k00 : (0 : Int) ≤ (a : Int) + (d : Int) + 1 := by omega
  have k1 : ¬ ((a : Int) + (d : Int) + 1 < (s.size : Int)) := by omega
  have k3 : (a : Int) ≤ (a : Int) + (d : Int) := by omega
  have k4 : (a : Int) + (d : Int) ≤ (s.size : Int) := by omega
  have k5 : (0 : Int) ≤ (a : Int) + (d : Int) := by omega
  have e48 : ((ca : Int) == 48) = true := by rw [hz2]; rfl
  have g1 : (1 : Int) < (d : Int) := by omega
  have g1' : decide ((1 : Int) < (d : Int)) = true := decide_eq_true g1
  clear hd hnl hnc hpt hnb hnv hk hex hca hc0 hz2 hz1
  go_enter Tryz.func40, Tryz.ntmps40
  go_wp2_with (first | (go_at_call 87; (with_reducible refine (digits_is (x := (a : Int)) hs la0 rfl HY0.out).mono ?_); rintro e w' ⟨rfl, rfl⟩))
  try simp only [Exit.inBlock, Exit.then]
  refine bodyPost_ret (res_num (two_heap _ _ _) rfl rfl rfl) rfl ?_
  exact NumR.mk HNL.out HEX.out HK.out HNV.out (by push_cast; omega) rfl (two_below _ _ _)
set_option maxRecDepth 100000 in
set_option maxHeartbeats 2000000 in
theorem num_q3_z2_E0 {s : ByteArray} {a ca d c0 : Nat} {w : World} (hs : s.size ≤ 1000000) (ha : a < s.size) (hca : byteAt s a = ca) (hd : digL (rest s a) = d) (hc0 : byteAt s (a + d) = c0) (hlt1 : ¬ a + d + 1 < s.size) (hz2 : ca = 48) (hz1 : ¬ 1 < d) (ho1 : ¬ 40 < d) (ho2 : ¬ a + d < s.size) :
    Calls Tryz.prog 40 #[.string s, .int .i64 (a : Int)] w (NumR s a w) := by
  have hdl := dig_le s a; rw [hd] at hdl
  have hpt : pointL (rest s (a + d)) = false := by rw [point_rest, (rest_nil (s := s) (a := a + d + 1) (by omega)).2]; simp [digN]
  obtain ⟨hnl, hnc⟩ := num_plain hd hpt
  have hnb := bad_rest hd hnl; rw [hnc, hca, hc0] at hnb
  have hzc : c0 = 0 := by rw [← hc0, (rest_nil (s := s) (a := a + d) (by omega)).2]
  have hnv : numBad (rest s a) = !true := by rw [hnb]; simp [hzc, ho1, hz1, letN]
  have hk : (if pointL (rest s (a + digL (rest s a))) then 4 else 3) = 3 := by rw [hd, hpt]; rfl
  have hex : s.extract a (a + d) = bs ((rest s a).take (d)) := by
    have := bs_extract s a (d) (by omega)
    rw [← this]
  have HNL := Lib.hid hnl; have HNV := Lib.hid hnv; have HK := Lib.hid hk; have HEX := Lib.hid hex
  have HY0 := Lib.hid (show (a : Int) + (d : Int) = ((a + digL (rest s a) : Nat) : Int) by rw [hd]; push_cast; rfl)
  have la0 := Nat.le_of_lt ha
  have hga := RfA.get_at ha; rw [hca] at hga; replace hga := hga.symm
  have j0 : (0 : Int) ≤ (a : Int) := by omega
  have j1 : (a : Int) < (s.size : Int) := by omega
  have k0 : (0 : Int) ≤ (a : Int) + (d : Int) := by omega
  have k00 : (0 : Int) ≤ (a : Int) + (d : Int) + 1 := by omega
  have k1 : ¬ ((a : Int) + (d : Int) + 1 < (s.size : Int)) := by omega
  have k3 : (a : Int) ≤ (a : Int) + (d : Int) := by omega
  have k4 : (a : Int) + (d : Int) ≤ (s.size : Int) := by omega
  have k5 : (0 : Int) ≤ (a : Int) + (d : Int) := by omega
  have e48 : ((ca : Int) == 48) = true := by rw [hz2]; rfl
  have g1 : ¬ ((1 : Int) < (d : Int)) := by omega
  have g1' : decide ((1 : Int) < (d : Int)) = false := decide_eq_false g1
  have g40 : ¬ ((40 : Int) < (a : Int) + (d : Int) - (a : Int)) := by omega
  have g40' : decide ((40 : Int) < (a : Int) + (d : Int) - (a : Int)) = false := decide_eq_false g40
  have k6 : ¬ ((a : Int) + (d : Int) < (s.size : Int)) := by omega
  clear hd hnl hnc hpt hnb hnv hk hex hca hc0 hz2 hz1 hzc
  go_enter Tryz.func40, Tryz.ntmps40
  go_wp2_with (first | (go_at_call 87; (with_reducible refine (digits_is (x := (a : Int)) hs la0 rfl HY0.out).mono ?_); rintro e w' ⟨rfl, rfl⟩))
  try simp only [Exit.inBlock, Exit.then]
  refine bodyPost_ret (res_num (two_heap _ _ _) rfl rfl rfl) rfl ?_
  exact NumR.mk HNL.out HEX.out HK.out HNV.out (by push_cast; omega) rfl (two_below _ _ _)
set_option maxRecDepth 100000 in
set_option maxHeartbeats 2000000 in
theorem num_q3_z2_E1 {s : ByteArray} {a ca d c0 : Nat} {w : World} (hs : s.size ≤ 1000000) (ha : a < s.size) (hca : byteAt s a = ca) (hd : digL (rest s a) = d) (hc0 : byteAt s (a + d) = c0) (hlt1 : ¬ a + d + 1 < s.size) (hz2 : ca = 48) (hz1 : ¬ 1 < d) (ho1 : ¬ 40 < d) (ho2 : a + d < s.size) (ho3 : letN c0 = true) :
    Calls Tryz.prog 40 #[.string s, .int .i64 (a : Int)] w (NumR s a w) := by
  have hdl := dig_le s a; rw [hd] at hdl
  have hpt : pointL (rest s (a + d)) = false := by rw [point_rest, (rest_nil (s := s) (a := a + d + 1) (by omega)).2]; simp [digN]
  obtain ⟨hnl, hnc⟩ := num_plain hd hpt
  have hnb := bad_rest hd hnl; rw [hnc, hca, hc0] at hnb
  have hnv : numBad (rest s a) = !false := by rw [hnb]; simp [ho3]
  have hk : (if pointL (rest s (a + digL (rest s a))) then 4 else 3) = 3 := by rw [hd, hpt]; rfl
  have hex : s.extract a (a + d) = bs ((rest s a).take (d)) := by
    have := bs_extract s a (d) (by omega)
    rw [← this]
  have HNL := Lib.hid hnl; have HNV := Lib.hid hnv; have HK := Lib.hid hk; have HEX := Lib.hid hex
  have HY0 := Lib.hid (show (a : Int) + (d : Int) = ((a + digL (rest s a) : Nat) : Int) by rw [hd]; push_cast; rfl)
  have la0 := Nat.le_of_lt ha
  have hga := RfA.get_at ha; rw [hca] at hga; replace hga := hga.symm
  have j0 : (0 : Int) ≤ (a : Int) := by omega
  have j1 : (a : Int) < (s.size : Int) := by omega
  have k0 : (0 : Int) ≤ (a : Int) + (d : Int) := by omega
  have k00 : (0 : Int) ≤ (a : Int) + (d : Int) + 1 := by omega
  have k1 : ¬ ((a : Int) + (d : Int) + 1 < (s.size : Int)) := by omega
  have k3 : (a : Int) ≤ (a : Int) + (d : Int) := by omega
  have k4 : (a : Int) + (d : Int) ≤ (s.size : Int) := by omega
  have k5 : (0 : Int) ≤ (a : Int) + (d : Int) := by omega
  have e48 : ((ca : Int) == 48) = true := by rw [hz2]; rfl
  have g1 : ¬ ((1 : Int) < (d : Int)) := by omega
  have g1' : decide ((1 : Int) < (d : Int)) = false := decide_eq_false g1
  have g40 : ¬ ((40 : Int) < (a : Int) + (d : Int) - (a : Int)) := by omega
  have g40' : decide ((40 : Int) < (a : Int) + (d : Int) - (a : Int)) = false := decide_eq_false g40
  have k6 : (a : Int) + (d : Int) < (s.size : Int) := by omega
  have hge := RfA.get_at ho2; rw [hc0] at hge; replace hge := hge.symm
  have HL := Lib.hid ho3
  clear hd hnl hnc hpt hnb hnv hk hex hca hc0 hz2 hz1 ho3
  go_enter Tryz.func40, Tryz.ntmps40
  go_wp2_with (first | (go_at_call 87; (with_reducible refine (digits_is (x := (a : Int)) hs la0 rfl HY0.out).mono ?_); rintro e w' ⟨rfl, rfl⟩) | (go_at_call 35; (with_reducible refine (letter_is HL.out).mono ?_); rintro e w' ⟨rfl, rfl⟩))
  try simp only [Exit.inBlock, Exit.then]
  refine bodyPost_ret (res_num (two_heap _ _ _) rfl rfl rfl) rfl ?_
  exact NumR.mk HNL.out HEX.out HK.out HNV.out (by push_cast; omega) rfl (two_below _ _ _)
set_option maxRecDepth 100000 in
set_option maxHeartbeats 2000000 in
theorem num_q3_z2_E2 {s : ByteArray} {a ca d c0 : Nat} {w : World} (hs : s.size ≤ 1000000) (ha : a < s.size) (hca : byteAt s a = ca) (hd : digL (rest s a) = d) (hc0 : byteAt s (a + d) = c0) (hlt1 : ¬ a + d + 1 < s.size) (hz2 : ca = 48) (hz1 : ¬ 1 < d) (ho1 : ¬ 40 < d) (ho2 : a + d < s.size) (ho4 : c0 = 46) :
    Calls Tryz.prog 40 #[.string s, .int .i64 (a : Int)] w (NumR s a w) := by
  have hdl := dig_le s a; rw [hd] at hdl
  have hpt : pointL (rest s (a + d)) = false := by rw [point_rest, (rest_nil (s := s) (a := a + d + 1) (by omega)).2]; simp [digN]
  obtain ⟨hnl, hnc⟩ := num_plain hd hpt
  have hnb := bad_rest hd hnl; rw [hnc, hca, hc0] at hnb
  have hnv : numBad (rest s a) = !false := by rw [hnb]; simp [ho4]
  have hk : (if pointL (rest s (a + digL (rest s a))) then 4 else 3) = 3 := by rw [hd, hpt]; rfl
  have hex : s.extract a (a + d) = bs ((rest s a).take (d)) := by
    have := bs_extract s a (d) (by omega)
    rw [← this]
  have HNL := Lib.hid hnl; have HNV := Lib.hid hnv; have HK := Lib.hid hk; have HEX := Lib.hid hex
  have HY0 := Lib.hid (show (a : Int) + (d : Int) = ((a + digL (rest s a) : Nat) : Int) by rw [hd]; push_cast; rfl)
  have la0 := Nat.le_of_lt ha
  have hga := RfA.get_at ha; rw [hca] at hga; replace hga := hga.symm
  have j0 : (0 : Int) ≤ (a : Int) := by omega
  have j1 : (a : Int) < (s.size : Int) := by omega
  have k0 : (0 : Int) ≤ (a : Int) + (d : Int) := by omega
  have k00 : (0 : Int) ≤ (a : Int) + (d : Int) + 1 := by omega
  have k1 : ¬ ((a : Int) + (d : Int) + 1 < (s.size : Int)) := by omega
  have k3 : (a : Int) ≤ (a : Int) + (d : Int) := by omega
  have k4 : (a : Int) + (d : Int) ≤ (s.size : Int) := by omega
  have k5 : (0 : Int) ≤ (a : Int) + (d : Int) := by omega
  have e48 : ((ca : Int) == 48) = true := by rw [hz2]; rfl
  have g1 : ¬ ((1 : Int) < (d : Int)) := by omega
  have g1' : decide ((1 : Int) < (d : Int)) = false := decide_eq_false g1
  have g40 : ¬ ((40 : Int) < (a : Int) + (d : Int) - (a : Int)) := by omega
  have g40' : decide ((40 : Int) < (a : Int) + (d : Int) - (a : Int)) = false := decide_eq_false g40
  have k6 : (a : Int) + (d : Int) < (s.size : Int) := by omega
  have hge := RfA.get_at ho2; rw [hc0] at hge; replace hge := hge.symm
  have hl2 : letN c0 = false := by rw [ho4]; rfl
  have HL := Lib.hid hl2
  clear hl2
  have f46 : ((c0 : Int) == 46) = true := by rw [ho4]; rfl
  clear hd hnl hnc hpt hnb hnv hk hex hca hc0 hz2 hz1 ho4
  go_enter Tryz.func40, Tryz.ntmps40
  go_wp2_with (first | (go_at_call 87; (with_reducible refine (digits_is (x := (a : Int)) hs la0 rfl HY0.out).mono ?_); rintro e w' ⟨rfl, rfl⟩) | (go_at_call 35; (with_reducible refine (letter_is HL.out).mono ?_); rintro e w' ⟨rfl, rfl⟩))
  try simp only [Exit.inBlock, Exit.then]
  refine bodyPost_ret (res_num (two_heap _ _ _) rfl rfl rfl) rfl ?_
  exact NumR.mk HNL.out HEX.out HK.out HNV.out (by push_cast; omega) rfl (two_below _ _ _)
set_option maxRecDepth 100000 in
set_option maxHeartbeats 2000000 in
theorem num_q3_z2_E3 {s : ByteArray} {a ca d c0 : Nat} {w : World} (hs : s.size ≤ 1000000) (ha : a < s.size) (hca : byteAt s a = ca) (hd : digL (rest s a) = d) (hc0 : byteAt s (a + d) = c0) (hlt1 : ¬ a + d + 1 < s.size) (hz2 : ca = 48) (hz1 : ¬ 1 < d) (ho1 : ¬ 40 < d) (ho2 : a + d < s.size) (ho3 : letN c0 = false) (ho4 : c0 ≠ 46) :
    Calls Tryz.prog 40 #[.string s, .int .i64 (a : Int)] w (NumR s a w) := by
  have hdl := dig_le s a; rw [hd] at hdl
  have hpt : pointL (rest s (a + d)) = false := by rw [point_rest, (rest_nil (s := s) (a := a + d + 1) (by omega)).2]; simp [digN]
  obtain ⟨hnl, hnc⟩ := num_plain hd hpt
  have hnb := bad_rest hd hnl; rw [hnc, hca, hc0] at hnb
  have hnv : numBad (rest s a) = !true := by rw [hnb]; simp [ho3, ho4, ho1, hz1]
  have hk : (if pointL (rest s (a + digL (rest s a))) then 4 else 3) = 3 := by rw [hd, hpt]; rfl
  have hex : s.extract a (a + d) = bs ((rest s a).take (d)) := by
    have := bs_extract s a (d) (by omega)
    rw [← this]
  have HNL := Lib.hid hnl; have HNV := Lib.hid hnv; have HK := Lib.hid hk; have HEX := Lib.hid hex
  have HY0 := Lib.hid (show (a : Int) + (d : Int) = ((a + digL (rest s a) : Nat) : Int) by rw [hd]; push_cast; rfl)
  have la0 := Nat.le_of_lt ha
  have hga := RfA.get_at ha; rw [hca] at hga; replace hga := hga.symm
  have j0 : (0 : Int) ≤ (a : Int) := by omega
  have j1 : (a : Int) < (s.size : Int) := by omega
  have k0 : (0 : Int) ≤ (a : Int) + (d : Int) := by omega
  have k00 : (0 : Int) ≤ (a : Int) + (d : Int) + 1 := by omega
  have k1 : ¬ ((a : Int) + (d : Int) + 1 < (s.size : Int)) := by omega
  have k3 : (a : Int) ≤ (a : Int) + (d : Int) := by omega
  have k4 : (a : Int) + (d : Int) ≤ (s.size : Int) := by omega
  have k5 : (0 : Int) ≤ (a : Int) + (d : Int) := by omega
  have e48 : ((ca : Int) == 48) = true := by rw [hz2]; rfl
  have g1 : ¬ ((1 : Int) < (d : Int)) := by omega
  have g1' : decide ((1 : Int) < (d : Int)) = false := decide_eq_false g1
  have g40 : ¬ ((40 : Int) < (a : Int) + (d : Int) - (a : Int)) := by omega
  have g40' : decide ((40 : Int) < (a : Int) + (d : Int) - (a : Int)) = false := decide_eq_false g40
  have k6 : (a : Int) + (d : Int) < (s.size : Int) := by omega
  have hge := RfA.get_at ho2; rw [hc0] at hge; replace hge := hge.symm
  have HL := Lib.hid ho3
  have f46 : ((c0 : Int) == 46) = false := beq_eq_false_iff_ne.2 (by omega)
  clear hd hnl hnc hpt hnb hnv hk hex hca hc0 hz2 hz1 ho3 ho4
  go_enter Tryz.func40, Tryz.ntmps40
  go_wp2_with (first | (go_at_call 87; (with_reducible refine (digits_is (x := (a : Int)) hs la0 rfl HY0.out).mono ?_); rintro e w' ⟨rfl, rfl⟩) | (go_at_call 35; (with_reducible refine (letter_is HL.out).mono ?_); rintro e w' ⟨rfl, rfl⟩))
  try simp only [Exit.inBlock, Exit.then]
  refine bodyPost_ret (res_num (two_heap _ _ _) rfl rfl rfl) rfl ?_
  exact NumR.mk HNL.out HEX.out HK.out HNV.out (by push_cast; omega) rfl (two_below _ _ _)
set_option maxRecDepth 100000 in
set_option maxHeartbeats 2000000 in
theorem num_q3_z3_many {s : ByteArray} {a ca d c0 : Nat} {w : World} (hs : s.size ≤ 1000000) (ha : a < s.size) (hca : byteAt s a = ca) (hd : digL (rest s a) = d) (hc0 : byteAt s (a + d) = c0) (hlt1 : ¬ a + d + 1 < s.size) (hz2 : ca ≠ 48) (ho1 : 40 < d) :
    Calls Tryz.prog 40 #[.string s, .int .i64 (a : Int)] w (NumR s a w) := by
  have hdl := dig_le s a; rw [hd] at hdl
  have hpt : pointL (rest s (a + d)) = false := by rw [point_rest, (rest_nil (s := s) (a := a + d + 1) (by omega)).2]; simp [digN]
  obtain ⟨hnl, hnc⟩ := num_plain hd hpt
  have hnb := bad_rest hd hnl; rw [hnc, hca, hc0] at hnb
  have hnv : numBad (rest s a) = !false := by rw [hnb]; simp [ho1]
  have hk : (if pointL (rest s (a + digL (rest s a))) then 4 else 3) = 3 := by rw [hd, hpt]; rfl
  have hex : s.extract a (a + d) = bs ((rest s a).take (d)) := by
    have := bs_extract s a (d) (by omega)
    rw [← this]
  have HNL := Lib.hid hnl; have HNV := Lib.hid hnv; have HK := Lib.hid hk; have HEX := Lib.hid hex
  have HY0 := Lib.hid (show (a : Int) + (d : Int) = ((a + digL (rest s a) : Nat) : Int) by rw [hd]; push_cast; rfl)
  have la0 := Nat.le_of_lt ha
  have hga := RfA.get_at ha; rw [hca] at hga; replace hga := hga.symm
  have j0 : (0 : Int) ≤ (a : Int) := by omega
  have j1 : (a : Int) < (s.size : Int) := by omega
  have k0 : (0 : Int) ≤ (a : Int) + (d : Int) := by omega
  have k00 : (0 : Int) ≤ (a : Int) + (d : Int) + 1 := by omega
  have k1 : ¬ ((a : Int) + (d : Int) + 1 < (s.size : Int)) := by omega
  have k3 : (a : Int) ≤ (a : Int) + (d : Int) := by omega
  have k4 : (a : Int) + (d : Int) ≤ (s.size : Int) := by omega
  have k5 : (0 : Int) ≤ (a : Int) + (d : Int) := by omega
  have e48 : ((ca : Int) == 48) = false := beq_eq_false_iff_ne.2 (by omega)
  have g40 : (40 : Int) < (a : Int) + (d : Int) - (a : Int) := by omega
  have g40' : decide ((40 : Int) < (a : Int) + (d : Int) - (a : Int)) = true := decide_eq_true g40
  clear hd hnl hnc hpt hnb hnv hk hex hca hc0 hz2
  go_enter Tryz.func40, Tryz.ntmps40
  go_wp2_with (first | (go_at_call 87; (with_reducible refine (digits_is (x := (a : Int)) hs la0 rfl HY0.out).mono ?_); rintro e w' ⟨rfl, rfl⟩))
  try simp only [Exit.inBlock, Exit.then]
  refine bodyPost_ret (res_num (two_heap _ _ _) rfl rfl rfl) rfl ?_
  exact NumR.mk HNL.out HEX.out HK.out HNV.out (by push_cast; omega) rfl (two_below _ _ _)
set_option maxRecDepth 100000 in
set_option maxHeartbeats 2000000 in
theorem num_q3_z3_E0 {s : ByteArray} {a ca d c0 : Nat} {w : World} (hs : s.size ≤ 1000000) (ha : a < s.size) (hca : byteAt s a = ca) (hd : digL (rest s a) = d) (hc0 : byteAt s (a + d) = c0) (hlt1 : ¬ a + d + 1 < s.size) (hz2 : ca ≠ 48) (ho1 : ¬ 40 < d) (ho2 : ¬ a + d < s.size) :
    Calls Tryz.prog 40 #[.string s, .int .i64 (a : Int)] w (NumR s a w) := by
  have hdl := dig_le s a; rw [hd] at hdl
  have hpt : pointL (rest s (a + d)) = false := by rw [point_rest, (rest_nil (s := s) (a := a + d + 1) (by omega)).2]; simp [digN]
  obtain ⟨hnl, hnc⟩ := num_plain hd hpt
  have hnb := bad_rest hd hnl; rw [hnc, hca, hc0] at hnb
  have hzc : c0 = 0 := by rw [← hc0, (rest_nil (s := s) (a := a + d) (by omega)).2]
  have hnv : numBad (rest s a) = !true := by rw [hnb]; simp [hzc, ho1, hz2, letN]
  have hk : (if pointL (rest s (a + digL (rest s a))) then 4 else 3) = 3 := by rw [hd, hpt]; rfl
  have hex : s.extract a (a + d) = bs ((rest s a).take (d)) := by
    have := bs_extract s a (d) (by omega)
    rw [← this]
  have HNL := Lib.hid hnl; have HNV := Lib.hid hnv; have HK := Lib.hid hk; have HEX := Lib.hid hex
  have HY0 := Lib.hid (show (a : Int) + (d : Int) = ((a + digL (rest s a) : Nat) : Int) by rw [hd]; push_cast; rfl)
  have la0 := Nat.le_of_lt ha
  have hga := RfA.get_at ha; rw [hca] at hga; replace hga := hga.symm
  have j0 : (0 : Int) ≤ (a : Int) := by omega
  have j1 : (a : Int) < (s.size : Int) := by omega
  have k0 : (0 : Int) ≤ (a : Int) + (d : Int) := by omega
  have k00 : (0 : Int) ≤ (a : Int) + (d : Int) + 1 := by omega
  have k1 : ¬ ((a : Int) + (d : Int) + 1 < (s.size : Int)) := by omega
  have k3 : (a : Int) ≤ (a : Int) + (d : Int) := by omega
  have k4 : (a : Int) + (d : Int) ≤ (s.size : Int) := by omega
  have k5 : (0 : Int) ≤ (a : Int) + (d : Int) := by omega
  have e48 : ((ca : Int) == 48) = false := beq_eq_false_iff_ne.2 (by omega)
  have g40 : ¬ ((40 : Int) < (a : Int) + (d : Int) - (a : Int)) := by omega
  have g40' : decide ((40 : Int) < (a : Int) + (d : Int) - (a : Int)) = false := decide_eq_false g40
  have k6 : ¬ ((a : Int) + (d : Int) < (s.size : Int)) := by omega
  clear hd hnl hnc hpt hnb hnv hk hex hca hc0 hz2 hzc
  go_enter Tryz.func40, Tryz.ntmps40
  go_wp2_with (first | (go_at_call 87; (with_reducible refine (digits_is (x := (a : Int)) hs la0 rfl HY0.out).mono ?_); rintro e w' ⟨rfl, rfl⟩))
  try simp only [Exit.inBlock, Exit.then]
  refine bodyPost_ret (res_num (two_heap _ _ _) rfl rfl rfl) rfl ?_
  exact NumR.mk HNL.out HEX.out HK.out HNV.out (by push_cast; omega) rfl (two_below _ _ _)
set_option maxRecDepth 100000 in
set_option maxHeartbeats 2000000 in
theorem num_q3_z3_E1 {s : ByteArray} {a ca d c0 : Nat} {w : World} (hs : s.size ≤ 1000000) (ha : a < s.size) (hca : byteAt s a = ca) (hd : digL (rest s a) = d) (hc0 : byteAt s (a + d) = c0) (hlt1 : ¬ a + d + 1 < s.size) (hz2 : ca ≠ 48) (ho1 : ¬ 40 < d) (ho2 : a + d < s.size) (ho3 : letN c0 = true) :
    Calls Tryz.prog 40 #[.string s, .int .i64 (a : Int)] w (NumR s a w) := by
  have hdl := dig_le s a; rw [hd] at hdl
  have hpt : pointL (rest s (a + d)) = false := by rw [point_rest, (rest_nil (s := s) (a := a + d + 1) (by omega)).2]; simp [digN]
  obtain ⟨hnl, hnc⟩ := num_plain hd hpt
  have hnb := bad_rest hd hnl; rw [hnc, hca, hc0] at hnb
  have hnv : numBad (rest s a) = !false := by rw [hnb]; simp [ho3]
  have hk : (if pointL (rest s (a + digL (rest s a))) then 4 else 3) = 3 := by rw [hd, hpt]; rfl
  have hex : s.extract a (a + d) = bs ((rest s a).take (d)) := by
    have := bs_extract s a (d) (by omega)
    rw [← this]
  have HNL := Lib.hid hnl; have HNV := Lib.hid hnv; have HK := Lib.hid hk; have HEX := Lib.hid hex
  have HY0 := Lib.hid (show (a : Int) + (d : Int) = ((a + digL (rest s a) : Nat) : Int) by rw [hd]; push_cast; rfl)
  have la0 := Nat.le_of_lt ha
  have hga := RfA.get_at ha; rw [hca] at hga; replace hga := hga.symm
  have j0 : (0 : Int) ≤ (a : Int) := by omega
  have j1 : (a : Int) < (s.size : Int) := by omega
  have k0 : (0 : Int) ≤ (a : Int) + (d : Int) := by omega
  have k00 : (0 : Int) ≤ (a : Int) + (d : Int) + 1 := by omega
  have k1 : ¬ ((a : Int) + (d : Int) + 1 < (s.size : Int)) := by omega
  have k3 : (a : Int) ≤ (a : Int) + (d : Int) := by omega
  have k4 : (a : Int) + (d : Int) ≤ (s.size : Int) := by omega
  have k5 : (0 : Int) ≤ (a : Int) + (d : Int) := by omega
  have e48 : ((ca : Int) == 48) = false := beq_eq_false_iff_ne.2 (by omega)
  have g40 : ¬ ((40 : Int) < (a : Int) + (d : Int) - (a : Int)) := by omega
  have g40' : decide ((40 : Int) < (a : Int) + (d : Int) - (a : Int)) = false := decide_eq_false g40
  have k6 : (a : Int) + (d : Int) < (s.size : Int) := by omega
  have hge := RfA.get_at ho2; rw [hc0] at hge; replace hge := hge.symm
  have HL := Lib.hid ho3
  clear hd hnl hnc hpt hnb hnv hk hex hca hc0 hz2 ho3
  go_enter Tryz.func40, Tryz.ntmps40
  go_wp2_with (first | (go_at_call 87; (with_reducible refine (digits_is (x := (a : Int)) hs la0 rfl HY0.out).mono ?_); rintro e w' ⟨rfl, rfl⟩) | (go_at_call 35; (with_reducible refine (letter_is HL.out).mono ?_); rintro e w' ⟨rfl, rfl⟩))
  try simp only [Exit.inBlock, Exit.then]
  refine bodyPost_ret (res_num (two_heap _ _ _) rfl rfl rfl) rfl ?_
  exact NumR.mk HNL.out HEX.out HK.out HNV.out (by push_cast; omega) rfl (two_below _ _ _)
set_option maxRecDepth 100000 in
set_option maxHeartbeats 2000000 in
theorem num_q3_z3_E2 {s : ByteArray} {a ca d c0 : Nat} {w : World} (hs : s.size ≤ 1000000) (ha : a < s.size) (hca : byteAt s a = ca) (hd : digL (rest s a) = d) (hc0 : byteAt s (a + d) = c0) (hlt1 : ¬ a + d + 1 < s.size) (hz2 : ca ≠ 48) (ho1 : ¬ 40 < d) (ho2 : a + d < s.size) (ho4 : c0 = 46) :
    Calls Tryz.prog 40 #[.string s, .int .i64 (a : Int)] w (NumR s a w) := by
  have hdl := dig_le s a; rw [hd] at hdl
  have hpt : pointL (rest s (a + d)) = false := by rw [point_rest, (rest_nil (s := s) (a := a + d + 1) (by omega)).2]; simp [digN]
  obtain ⟨hnl, hnc⟩ := num_plain hd hpt
  have hnb := bad_rest hd hnl; rw [hnc, hca, hc0] at hnb
  have hnv : numBad (rest s a) = !false := by rw [hnb]; simp [ho4]
  have hk : (if pointL (rest s (a + digL (rest s a))) then 4 else 3) = 3 := by rw [hd, hpt]; rfl
  have hex : s.extract a (a + d) = bs ((rest s a).take (d)) := by
    have := bs_extract s a (d) (by omega)
    rw [← this]
  have HNL := Lib.hid hnl; have HNV := Lib.hid hnv; have HK := Lib.hid hk; have HEX := Lib.hid hex
  have HY0 := Lib.hid (show (a : Int) + (d : Int) = ((a + digL (rest s a) : Nat) : Int) by rw [hd]; push_cast; rfl)
  have la0 := Nat.le_of_lt ha
  have hga := RfA.get_at ha; rw [hca] at hga; replace hga := hga.symm
  have j0 : (0 : Int) ≤ (a : Int) := by omega
  have j1 : (a : Int) < (s.size : Int) := by omega
  have k0 : (0 : Int) ≤ (a : Int) + (d : Int) := by omega
  have k00 : (0 : Int) ≤ (a : Int) + (d : Int) + 1 := by omega
  have k1 : ¬ ((a : Int) + (d : Int) + 1 < (s.size : Int)) := by omega
  have k3 : (a : Int) ≤ (a : Int) + (d : Int) := by omega
  have k4 : (a : Int) + (d : Int) ≤ (s.size : Int) := by omega
  have k5 : (0 : Int) ≤ (a : Int) + (d : Int) := by omega
  have e48 : ((ca : Int) == 48) = false := beq_eq_false_iff_ne.2 (by omega)
  have g40 : ¬ ((40 : Int) < (a : Int) + (d : Int) - (a : Int)) := by omega
  have g40' : decide ((40 : Int) < (a : Int) + (d : Int) - (a : Int)) = false := decide_eq_false g40
  have k6 : (a : Int) + (d : Int) < (s.size : Int) := by omega
  have hge := RfA.get_at ho2; rw [hc0] at hge; replace hge := hge.symm
  have hl2 : letN c0 = false := by rw [ho4]; rfl
  have HL := Lib.hid hl2
  clear hl2
  have f46 : ((c0 : Int) == 46) = true := by rw [ho4]; rfl
  clear hd hnl hnc hpt hnb hnv hk hex hca hc0 hz2 ho4
  go_enter Tryz.func40, Tryz.ntmps40
  go_wp2_with (first | (go_at_call 87; (with_reducible refine (digits_is (x := (a : Int)) hs la0 rfl HY0.out).mono ?_); rintro e w' ⟨rfl, rfl⟩) | (go_at_call 35; (with_reducible refine (letter_is HL.out).mono ?_); rintro e w' ⟨rfl, rfl⟩))
  try simp only [Exit.inBlock, Exit.then]
  refine bodyPost_ret (res_num (two_heap _ _ _) rfl rfl rfl) rfl ?_
  exact NumR.mk HNL.out HEX.out HK.out HNV.out (by push_cast; omega) rfl (two_below _ _ _)
set_option maxRecDepth 100000 in
set_option maxHeartbeats 2000000 in
theorem num_q3_z3_E3 {s : ByteArray} {a ca d c0 : Nat} {w : World} (hs : s.size ≤ 1000000) (ha : a < s.size) (hca : byteAt s a = ca) (hd : digL (rest s a) = d) (hc0 : byteAt s (a + d) = c0) (hlt1 : ¬ a + d + 1 < s.size) (hz2 : ca ≠ 48) (ho1 : ¬ 40 < d) (ho2 : a + d < s.size) (ho3 : letN c0 = false) (ho4 : c0 ≠ 46) :
    Calls Tryz.prog 40 #[.string s, .int .i64 (a : Int)] w (NumR s a w) := by
  have hdl := dig_le s a; rw [hd] at hdl
  have hpt : pointL (rest s (a + d)) = false := by rw [point_rest, (rest_nil (s := s) (a := a + d + 1) (by omega)).2]; simp [digN]
  obtain ⟨hnl, hnc⟩ := num_plain hd hpt
  have hnb := bad_rest hd hnl; rw [hnc, hca, hc0] at hnb
  have hnv : numBad (rest s a) = !true := by rw [hnb]; simp [ho3, ho4, ho1, hz2]
  have hk : (if pointL (rest s (a + digL (rest s a))) then 4 else 3) = 3 := by rw [hd, hpt]; rfl
  have hex : s.extract a (a + d) = bs ((rest s a).take (d)) := by
    have := bs_extract s a (d) (by omega)
    rw [← this]
  have HNL := Lib.hid hnl; have HNV := Lib.hid hnv; have HK := Lib.hid hk; have HEX := Lib.hid hex
  have HY0 := Lib.hid (show (a : Int) + (d : Int) = ((a + digL (rest s a) : Nat) : Int) by rw [hd]; push_cast; rfl)
  have la0 := Nat.le_of_lt ha
  have hga := RfA.get_at ha; rw [hca] at hga; replace hga := hga.symm
  have j0 : (0 : Int) ≤ (a : Int) := by omega
  have j1 : (a : Int) < (s.size : Int) := by omega
  have k0 : (0 : Int) ≤ (a : Int) + (d : Int) := by omega
  have k00 : (0 : Int) ≤ (a : Int) + (d : Int) + 1 := by omega
  have k1 : ¬ ((a : Int) + (d : Int) + 1 < (s.size : Int)) := by omega
  have k3 : (a : Int) ≤ (a : Int) + (d : Int) := by omega
  have k4 : (a : Int) + (d : Int) ≤ (s.size : Int) := by omega
  have k5 : (0 : Int) ≤ (a : Int) + (d : Int) := by omega
  have e48 : ((ca : Int) == 48) = false := beq_eq_false_iff_ne.2 (by omega)
  have g40 : ¬ ((40 : Int) < (a : Int) + (d : Int) - (a : Int)) := by omega
  have g40' : decide ((40 : Int) < (a : Int) + (d : Int) - (a : Int)) = false := decide_eq_false g40
  have k6 : (a : Int) + (d : Int) < (s.size : Int) := by omega
  have hge := RfA.get_at ho2; rw [hc0] at hge; replace hge := hge.symm
  have HL := Lib.hid ho3
  have f46 : ((c0 : Int) == 46) = false := beq_eq_false_iff_ne.2 (by omega)
  clear hd hnl hnc hpt hnb hnv hk hex hca hc0 hz2 ho3 ho4
  go_enter Tryz.func40, Tryz.ntmps40
  go_wp2_with (first | (go_at_call 87; (with_reducible refine (digits_is (x := (a : Int)) hs la0 rfl HY0.out).mono ?_); rintro e w' ⟨rfl, rfl⟩) | (go_at_call 35; (with_reducible refine (letter_is HL.out).mono ?_); rintro e w' ⟨rfl, rfl⟩))
  try simp only [Exit.inBlock, Exit.then]
  refine bodyPost_ret (res_num (two_heap _ _ _) rfl rfl rfl) rfl ?_
  exact NumR.mk HNL.out HEX.out HK.out HNV.out (by push_cast; omega) rfl (two_below _ _ _)
/-- a number -/
theorem number_r {s : ByteArray} {a : Nat} {w : World} (hs : s.size ≤ 1000000) (ha : a < s.size) :
    Calls Tryz.prog 40 #[.string s, .int .i64 (a : Int)] w (NumR s a w) := by
  obtain ⟨d, hd⟩ : ∃ d, digL (rest s a) = d := ⟨_, rfl⟩
  by_cases hlt1 : a + d + 1 < s.size
  · by_cases h46 : byteAt s (a + d) = 46
    · cases hp2 : digN (byteAt s (a + d + 1)) with
      | true =>
        obtain ⟨m, hm⟩ : ∃ m, digL (rest s (a + d + 1)) = m := ⟨_, rfl⟩
        by_cases hz2 : byteAt s a = 48
        · by_cases hz1 : 1 < d
          · exact num_p_z1_all hs ha rfl hd rfl hlt1 h46 rfl hp2 hm rfl hz2 hz1
          · by_cases ho1 : 40 < d + m
            · exact num_p_z2_many hs ha rfl hd rfl hlt1 h46 rfl hp2 hm rfl hz2 hz1 ho1
            · by_cases ho2 : a + d + 1 + m < s.size
              · cases ho3 : letN (byteAt s (a + d + 1 + m)) with
                | true => exact num_p_z2_E1 hs ha rfl hd rfl hlt1 h46 rfl hp2 hm rfl hz2 hz1 ho1 ho2 ho3
                | false =>
                  by_cases ho4 : byteAt s (a + d + 1 + m) = 46
                  · exact num_p_z2_E2 hs ha rfl hd rfl hlt1 h46 rfl hp2 hm rfl hz2 hz1 ho1 ho2 ho4
                  · exact num_p_z2_E3 hs ha rfl hd rfl hlt1 h46 rfl hp2 hm rfl hz2 hz1 ho1 ho2 ho3 ho4
              · exact num_p_z2_E0 hs ha rfl hd rfl hlt1 h46 rfl hp2 hm rfl hz2 hz1 ho1 ho2
        · by_cases ho1 : 40 < d + m
          · exact num_p_z3_many hs ha rfl hd rfl hlt1 h46 rfl hp2 hm rfl hz2 ho1
          · by_cases ho2 : a + d + 1 + m < s.size
            · cases ho3 : letN (byteAt s (a + d + 1 + m)) with
              | true => exact num_p_z3_E1 hs ha rfl hd rfl hlt1 h46 rfl hp2 hm rfl hz2 ho1 ho2 ho3
              | false =>
                by_cases ho4 : byteAt s (a + d + 1 + m) = 46
                · exact num_p_z3_E2 hs ha rfl hd rfl hlt1 h46 rfl hp2 hm rfl hz2 ho1 ho2 ho4
                · exact num_p_z3_E3 hs ha rfl hd rfl hlt1 h46 rfl hp2 hm rfl hz2 ho1 ho2 ho3 ho4
            · exact num_p_z3_E0 hs ha rfl hd rfl hlt1 h46 rfl hp2 hm rfl hz2 ho1 ho2
      | false =>
        by_cases hz2 : byteAt s a = 48
        · by_cases hz1 : 1 < d
          · exact num_q2_z1_all hs ha rfl hd rfl hlt1 h46 rfl hp2 hz2 hz1
          · by_cases ho1 : 40 < d
            · exact absurd ho1 (by omega)
            · exact num_q2_z2_E2 hs ha rfl hd rfl hlt1 h46 rfl hp2 hz2 hz1 ho1 (by omega) h46
        · by_cases ho1 : 40 < d
          · exact num_q2_z3_many hs ha rfl hd rfl hlt1 h46 rfl hp2 hz2 ho1
          · exact num_q2_z3_E2 hs ha rfl hd rfl hlt1 h46 rfl hp2 hz2 ho1 (by omega) h46
    · skip
      by_cases hz2 : byteAt s a = 48
      · by_cases hz1 : 1 < d
        · exact num_q1_z1_all hs ha rfl hd rfl hlt1 h46 hz2 hz1
        · by_cases ho1 : 40 < d
          · exact absurd ho1 (by omega)
          · have ho2 : a + d < s.size := by omega
            cases ho3 : letN (byteAt s (a + d)) with
            | true => exact num_q1_z2_E1 hs ha rfl hd rfl hlt1 h46 hz2 hz1 ho1 ho2 ho3
            | false => exact num_q1_z2_E3 hs ha rfl hd rfl hlt1 h46 hz2 hz1 ho1 ho2 ho3 h46
      · by_cases ho1 : 40 < d
        · exact num_q1_z3_many hs ha rfl hd rfl hlt1 h46 hz2 ho1
        · have ho2 : a + d < s.size := by omega
          cases ho3 : letN (byteAt s (a + d)) with
          | true => exact num_q1_z3_E1 hs ha rfl hd rfl hlt1 h46 hz2 ho1 ho2 ho3
          | false => exact num_q1_z3_E3 hs ha rfl hd rfl hlt1 h46 hz2 ho1 ho2 ho3 h46
  · skip
    by_cases hz2 : byteAt s a = 48
    · by_cases hz1 : 1 < d
      · exact num_q3_z1_all hs ha rfl hd rfl hlt1 hz2 hz1
      · by_cases ho1 : 40 < d
        · exact absurd ho1 (by omega)
        · by_cases ho2 : a + d < s.size
          · cases ho3 : letN (byteAt s (a + d)) with
            | true => exact num_q3_z2_E1 hs ha rfl hd rfl hlt1 hz2 hz1 ho1 ho2 ho3
            | false =>
              by_cases ho4 : byteAt s (a + d) = 46
              · exact num_q3_z2_E2 hs ha rfl hd rfl hlt1 hz2 hz1 ho1 ho2 ho4
              · exact num_q3_z2_E3 hs ha rfl hd rfl hlt1 hz2 hz1 ho1 ho2 ho3 ho4
          · exact num_q3_z2_E0 hs ha rfl hd rfl hlt1 hz2 hz1 ho1 ho2
    · by_cases ho1 : 40 < d
      · exact num_q3_z3_many hs ha rfl hd rfl hlt1 hz2 ho1
      · by_cases ho2 : a + d < s.size
        · cases ho3 : letN (byteAt s (a + d)) with
          | true => exact num_q3_z3_E1 hs ha rfl hd rfl hlt1 hz2 ho1 ho2 ho3
          | false =>
            by_cases ho4 : byteAt s (a + d) = 46
            · exact num_q3_z3_E2 hs ha rfl hd rfl hlt1 hz2 ho1 ho2 ho4
            · exact num_q3_z3_E3 hs ha rfl hd rfl hlt1 hz2 ho1 ho2 ho3 ho4
        · exact num_q3_z3_E0 hs ha rfl hd rfl hlt1 hz2 ho1 ho2
end Go.Proofs.YtopbhopblpfjpaaGreatDoor.RfN
