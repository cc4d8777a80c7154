/- The document's scanner: its lists of texts, its tokens, walked. -/
import Derived.Test.YtopbhopblpfjpaaGreatDoorRfN
import Derived.Test.YtopbhopblpfjpaaGreatDoorScanF
import Derived.Test.YtopbhopblpfjpaaGreatDoorScanG
import Derived.Deep.RegionWith
namespace Go.Proofs.YtopbhopblpfjpaaGreatDoor.RfT
open Go.RowKit Go.Proofs.YtopbhopblpfjpaaGreatDoor.Lexy Go.Proofs.YtopbhopblpfjpaaGreatDoor.Heap Go.Proofs.YtopbhopblpfjpaaGreatDoor.Base Go.Proofs.YtopbhopblpfjpaaGreatDoor.Scany Go.Proofs.YtopbhopblpfjpaaGreatDoor.ScanC Go.Proofs.YtopbhopblpfjpaaGreatDoor.ScanD Go.Proofs.YtopbhopblpfjpaaGreatDoor.ScanE Go.Proofs.YtopbhopblpfjpaaGreatDoor.RfA Go.Proofs.YtopbhopblpfjpaaGreatDoor.RfB Go.Proofs.YtopbhopblpfjpaaGreatDoor.RfC Go.Proofs.YtopbhopblpfjpaaGreatDoor.RfN

/-- texts laid in new memory -/
theorem strs_new (w : World) (T : TypeId) (L : List (List UInt8)) : IsStrs (w.alloc (.cells (L.map fun x => Value.string (bs x)).toArray T)) w.heap.size L := by
  intro i hi
  rw [cell_of_row _ w.heap.size i _ _ (0, 0) (heap_alloc_new w _)]
  simp [List.getElem?_map, List.getElem?_eq_getElem hi, List.getD_eq_getElem?_getD]
theorem words_r (w : World) :
    Calls Tryz.prog 14 #[] w fun e w' => ∃ g, e = .returned (.slice (some ⟨g, 0, none⟩) 16 16) ∧ Below w.heap.size w w' ∧ IsStrs w' g wordsS := by
  go_enter Tryz.func14, Tryz.ntmps14
  go_wp2
  go_ret
  exact ⟨_, rfl, (Below.refl _ _).alloc (Nat.le_refl _) _, strs_new w _ wordsS⟩
theorem foreign_r (w : World) :
    Calls Tryz.prog 38 #[] w fun e w' => ∃ g, e = .returned (.slice (some ⟨g, 0, none⟩) 11 11) ∧ Below w.heap.size w w' ∧ IsStrs w' g foreignS := by
  go_enter Tryz.func38, Tryz.ntmps38
  go_wp2
  go_ret
  exact ⟨_, rfl, (Below.refl _ _).alloc (Nat.le_refl _) _, strs_new w _ foreignS⟩
theorem signs_r (w : World) :
    Calls Tryz.prog 45 #[] w fun e w' => ∃ g, e = .returned (.slice (some ⟨g, 0, none⟩) 26 26) ∧ Below w.heap.size w w' ∧ IsStrs w' g signsS := by
  go_enter Tryz.func45, Tryz.ntmps45
  go_wp2
  go_ret
  exact ⟨_, rfl, (Below.refl _ _).alloc (Nat.le_refl _) _, strs_new w _ signsS⟩
theorem odd_r (w : World) :
    Calls Tryz.prog 44 #[] w fun e w' => ∃ g, e = .returned (.slice (some ⟨g, 0, none⟩) 12 12) ∧ Below w.heap.size w w' ∧ IsStrs w' g oddS := by
  go_enter Tryz.func44, Tryz.ntmps44
  go_wp2
  go_ret
  exact ⟨_, rfl, (Below.refl _ _).alloc (Nat.le_refl _) _, strs_new w _ oddS⟩

/-! a name's bytes -/
theorem run_ld : ∀ (l : List UInt8) (k : Nat), k < runL l → ldN (l.getD k 0).toNat = true
  | [], k, h => by simp [runL] at h
  | c :: r, 0, h => by
    simp only [runL] at h
    split at h
    · rename_i h1; exact h1
    · omega
  | c :: r, k + 1, h => by
    simp only [runL] at h
    split at h
    · exact run_ld r k (by omega)
    · omega
theorem byteAt_bs (l : List UInt8) (k : Nat) : byteAt (bs l) k = (l.getD k 0).toNat := by
  by_cases h : k < l.length
  · have h' : k < (bs l).size := by rw [RfA.bs_size]; exact h
    obtain ⟨c, h1, h2⟩ := rest_cons h'
    rw [h2]
    have h3 : l.drop k = c :: rest (bs l) (k + 1) := by rw [← h1, rest, bs_list]
    have h4 : l[k]? = some c := by rw [← List.head?_drop, h3]; rfl
    rw [List.getD_eq_getElem?_getD, h4]; rfl
  · rw [(rest_nil (s := bs l) (a := k) (by rw [RfA.bs_size]; omega)).2, List.getD_eq_getElem?_getD, List.getElem?_eq_none (by omega)]; rfl
theorem name_bytes {s : ByteArray} {a r : Nat} {X : ByteArray} (ha : a < s.size) (hl : letN (byteAt s a) = true) (hr : runL (rest s a) = r) (hX : X = bs ((rest s a).take r)) :
    X.size = r ∧ letN (byteAt X 0) = true ∧ (∀ k, k < X.size → ldN (byteAt X k) = true) ∧ X.data.toList = (rest s a).take r := by
  have hrl := run_le s a
  have hsz : X.size = r := by rw [hX, RfA.bs_size, List.length_take, rest_len]; omega
  obtain ⟨c, e1, e2⟩ := rest_cons ha
  have h1 := runL_one (r := rest s (a + 1)) (c := c) (by rw [← e2]; exact hl)
  rw [← e1, hr] at h1
  have hget : ∀ k, k < r → byteAt X k = ((rest s a).getD k 0).toNat := fun k hk => by
    rw [hX, byteAt_bs]; congr 1
    rw [List.getD_eq_getElem?_getD, List.getElem?_take, if_pos hk, ← List.getD_eq_getElem?_getD]
  refine ⟨hsz, ?_, fun k hk => ?_, by rw [hX, bs_list]⟩
  · rw [hget 0 (by omega), e1]; simp only [List.getD_cons_zero]; rw [← e2]; exact hl
  · rw [hget k (by omega)]; exact run_ld _ k (by omega)
theorem words_ok : ∀ x ∈ wordsS, x ≠ [95] ∧ x.length ≤ 40 ∧ x ∉ foreignS := by decide

/-- what comes of a token -/
def TokR (s : ByteArray) (a : Nat) (w : World) (e : Ending) (w' : World) : Prop :=
  Below w.heap.size w w' ∧ match tokS (rest s a) with
  | .bad x => e = .returned (.tuple #[.agg #[.int .u8 0, .string { data := #[] }, .int .i64 0], .int .i64 0, .int .i64 (x : Int)])
  | .good k t n => e = .returned (.tuple #[.agg #[.int .u8 (k : Int), .string (bs t), .int .i64 (a : Int)], .int .i64 ((a + n : Nat) : Int), .int .i64 0])
theorem TokR.bad {s : ByteArray} {a x : Nat} {w w' : World} {z : Int} (h : tokS (rest s a) = .bad x) (hz : z = (x : Int)) (hb : Below w.heap.size w w') : TokR s a w (.returned (.tuple #[.agg #[.int .u8 0, .string { data := #[] }, .int .i64 0], .int .i64 0, .int .i64 z])) w' := by
  unfold TokR; rw [h, hz]; exact ⟨hb, rfl⟩
theorem TokR.good {s : ByteArray} {a k n : Nat} {t : List UInt8} {w w' : World} {x : ByteArray} {z y : Int} (h : tokS (rest s a) = .good k t n) (hz : z = (k : Int)) (hx : x = bs t) (hy : y = ((a + n : Nat) : Int)) (hb : Below w.heap.size w w') :
    TokR s a w (.returned (.tuple #[.agg #[.int .u8 z, .string x, .int .i64 (a : Int)], .int .i64 y, .int .i64 0])) w' := by
  unfold TokR; rw [h, hz, hx, hy]; exact ⟨hb, rfl⟩
theorem res_tok {w : World} {H : Nat} {v0 v1 v2 v5 v6 : Value} {tmps : Array Value} (hH : w.heap[H]? = some (.cells #[v0, v1, v2] 50 (0, 0)))
    (h4 : tmps[4]?.getD undef = .pointer (some ⟨H, 0, none⟩)) (h5 : tmps[5]?.getD undef = v5) (h6 : tmps[6]?.getD undef = v6) : (results Tryz.f22 tmps).run Tryz.prog w = .ok (.tuple #[.agg #[v0, v1, v2], v5, v6]) w := by
  obtain ⟨a0, a1, a2, _⟩ := cells3 hH
  simp [results, Tryz.results22, go_sem, h4, h5, h6, a0, a1, a2]
/-- another block is stored to, then this one -/
theorem tok6 {w : World} {H T : Nat} {u v x : Value} (h : w.heap[H]? = some (.cells #[u, v, x] 50 (0, 0))) (hne : H ≠ T) (a0 a1 a2 v0 v1 v2 : Value) :
    ((((((w.setCell ⟨T, 0, none⟩ a0).setCell ⟨T, 1, none⟩ a1).setCell ⟨T, 2, none⟩ a2).setCell ⟨H, 0, none⟩ v0).setCell ⟨H, 1, none⟩ v1).setCell ⟨H, 2, none⟩ v2).heap[H]? = some (.cells #[v0, v1, v2] 50 (0, 0)) :=
  tok3h ((Below.heap_setCell _ _ _ _ hne).trans ((Below.heap_setCell _ _ _ _ hne).trans ((Below.heap_setCell _ _ _ _ hne).trans h))) v0 v1 v2
theorem below6 {w w2 : World} {B H T : Nat} (h : Below B w w2) (hH : B ≤ H) (hT : B ≤ T) (a0 a1 a2 v0 v1 v2 : Value) :
    Below B w ((((((w2.setCell ⟨T, 0, none⟩ a0).setCell ⟨T, 1, none⟩ a1).setCell ⟨T, 2, none⟩ a2).setCell ⟨H, 0, none⟩ v0).setCell ⟨H, 1, none⟩ v1).setCell ⟨H, 2, none⟩ v2) :=
  (((((h.setCell hT _).setCell hT _).setCell hT _).setCell hH _).setCell hH _).setCell hH _

/-! the parts, by their answers -/
theorem number_good {s : ByteArray} {a : Nat} {w : World} (hs : s.size ≤ 1000000) (ha : a < s.size) (h : numBad (rest s a) = false) :
    Calls Tryz.prog 40 #[.string s, .int .i64 (a : Int)] w fun e w' => (∃ (k : Nat) (t : ByteArray) (y : Int), e = .returned (.tuple #[.agg #[.int .u8 (k : Int), .string t, .int .i64 (a : Int)], .int .i64 y, .bool true]) ∧
      (if pointL (rest s (a + digL (rest s a))) then 4 else 3) = k ∧ t = bs ((rest s a).take (numLen (rest s a))) ∧ y = ((a + numLen (rest s a) : Nat) : Int)) ∧ Below w.heap.size w w' :=
  (number_r hs ha).mono fun e w' ⟨hb, k, n, v, t, he, h1, h2, h3, h4⟩ => by
    rw [h] at h4
    obtain rfl : v = true := by cases v with | false => exact absurd h4 (by decide) | true => rfl
    subst h1
    exact ⟨⟨k, t, _, he, h3, h2, rfl⟩, hb⟩
theorem number_bad {s : ByteArray} {a : Nat} {w : World} (hs : s.size ≤ 1000000) (ha : a < s.size) (h : numBad (rest s a) = true) :
    Calls Tryz.prog 40 #[.string s, .int .i64 (a : Int)] w fun e w' => (∃ (k : Nat) (t : ByteArray) (y : Int), e = .returned (.tuple #[.agg #[.int .u8 (k : Int), .string t, .int .i64 (a : Int)], .int .i64 y, .bool false])) ∧ Below w.heap.size w w' :=
  (number_r hs ha).mono fun e w' ⟨hb, k, n, v, t, he, h1, h2, h3, h4⟩ => by
    rw [h] at h4
    obtain rfl : v = false := by cases v with | true => exact absurd h4 (by decide) | false => rfl
    exact ⟨⟨k, t, _, he⟩, hb⟩
theorem text_good {s : ByteArray} {a n : Nat} {t : List UInt8} {w : World} (hs : s.size ≤ 1000000) (ha : a < s.size) (h : strL (rest s (a + 1)) 0 = some (t, n)) :
    Calls Tryz.prog 41 #[.string s, .int .i64 (a : Int)] w fun e w' => e = .returned (.tuple #[.agg #[.int .u8 5, .string (bs t), .int .i64 (a : Int)], .int .i64 ((a + 1 + n : Nat) : Int), .bool true]) ∧ Below w.heap.size w w' :=
  (text_r hs ha).mono fun e w' hp => by unfold TextR at hp; rw [h] at hp; exact ⟨hp.2, hp.1⟩
theorem text_bad {s : ByteArray} {a : Nat} {w : World} (hs : s.size ≤ 1000000) (ha : a < s.size) (h : strL (rest s (a + 1)) 0 = none) :
    Calls Tryz.prog 41 #[.string s, .int .i64 (a : Int)] w fun e w' => e = .returned (.tuple #[.agg #[.int .u8 0, .string { data := #[] }, .int .i64 0], .int .i64 0, .bool false]) ∧ Below w.heap.size w w' :=
  (text_r hs ha).mono fun e w' hp => by unfold TextR at hp; rw [h] at hp; exact ⟨hp.2, hp.1⟩
theorem dollar_good {s : ByteArray} {a n : Nat} {t : List UInt8} {w : World} (hs : s.size ≤ 1000000) (ha : a < s.size) (h : dolL (rest s (a + 1)) = some (t, n)) :
    Calls Tryz.prog 42 #[.string s, .int .i64 (a : Int)] w fun e w' => e = .returned (.tuple #[.agg #[.int .u8 8, .string (bs t), .int .i64 (a : Int)], .int .i64 ((a + n : Nat) : Int), .bool true]) ∧ Below w.heap.size w w' :=
  (dollar_r hs ha).mono fun e w' hp => by have h1 := hp.1; unfold DolR at h1; rw [h] at h1; exact ⟨h1, hp.2⟩
theorem dollar_bad {s : ByteArray} {a : Nat} {w : World} (hs : s.size ≤ 1000000) (ha : a < s.size) (h : dolL (rest s (a + 1)) = none) :
    Calls Tryz.prog 42 #[.string s, .int .i64 (a : Int)] w fun e w' => e = .returned (.tuple #[.agg #[.int .u8 0, .string { data := #[] }, .int .i64 0], .int .i64 0, .bool false]) ∧ Below w.heap.size w w' :=
  (dollar_r hs ha).mono fun e w' hp => by have h1 := hp.1; unfold DolR at h1; rw [h] at h1; exact ⟨h1, hp.2⟩
end Go.Proofs.YtopbhopblpfjpaaGreatDoor.RfT
