/- The document's Quote, walked. (Printed by rf_q.py.) -/
import Derived.Test.YtopbhopblpfjpaaGreatDoorScanM
namespace Go.Proofs.YtopbhopblpfjpaaGreatDoor.RfQ
open Go.RowKit Go.Proofs.YtopbhopblpfjpaaGreatDoor.Lexy Go.Proofs.YtopbhopblpfjpaaGreatDoor.Heap Go.Proofs.YtopbhopblpfjpaaGreatDoor.Base Go.Proofs.YtopbhopblpfjpaaGreatDoor.Scany Go.Proofs.YtopbhopblpfjpaaGreatDoor.ScanD Go.Proofs.YtopbhopblpfjpaaGreatDoor.ScanM

theorem sayN_else {n : Nat} (h1 : n ≠ 10) (h2 : n ≠ 9) (h3 : n ≠ 13) (h4 : n ≠ 92) (h5 : n ≠ 34) : sayN n = none := by simp [sayN, h1, h2, h3, h4, h5]
set_option maxRecDepth 100000 in
set_option maxHeartbeats 8000000 in
theorem quote_r {s : ByteArray} {w : World} (hs : s.size ≤ 1000000) :
    Calls Tryz.prog 11 #[.string s] w fun e w' => e = .returned (.string (bs (quoS s.data.toList))) ∧ Below w.heap.size w w' := by
  obtain ⟨ti0, hi0, hz0, hz1, hz2⟩ := info_parts byteInfo
  go_enter Tryz.func11, Tryz.ntmps11
  go_wp2
  have hX : (w.alloc (.cells #[.int .u8 34] 5)).ownsRow w.heap.size 5 1 (.slice (some ⟨w.heap.size, 0, none⟩) 1 1) 1 (Lib.strCells (bs [34])) := World.ownsRow_lit w #[.int .u8 34] 1 (Nat.le_refl _) (by decide) rfl
  have hB2 := (Below.refl w.heap.size w).alloc (Nat.le_refl _) (.cells #[.int .u8 34] 5)
  have hz : w.heap.size ≤ (w.alloc (.cells #[.int .u8 34] 5)).heap.size := by simp
  generalize w.alloc (.cells #[.int .u8 34] 5) = W2 at *
  obtain ⟨B0, hB0⟩ : ∃ B0, B0 = w.heap.size := ⟨_, rfl⟩
  rw [← hB0] at hX hB2 hz ⊢
  have HB0 := Lib.hid hB0; clear hB0
  go_loopg [3, 4] s.size (fun gk t6 t25 wr => ∃ (k : Nat) (v : Value) (d : List UInt8), k ≤ s.size ∧ gk = s.size - k ∧ v = t6 ∧ t25 = .int .i64 (k : Int) ∧ d = 34 :: (s.data.toList.take k).flatMap quoB ∧ d.length ≤ 4 * k + 1 ∧ wr.ownsRow B0 5 1 v d.length (Lib.strCells (bs d)) ∧ Below B0 w wr ∧ B0 ≤ wr.heap.size)
  case atStart => exact ⟨0, _, [34], by omega, by omega, rfl, rfl, by simp, by simp, hX, hB2, hz⟩
  case round =>
    clear hX hB2 hz
    obtain ⟨k, v, d, hk, rfl, rfl, rfl, hd, hdl, hown, hBq, hBs⟩ := hrel
    have HD := Lib.hid hd; clear hd
    by_cases hlt : k < s.size
    case neg =>
      obtain rfl : s.size = k := by omega
      go_wp2_with ((at_builtin; go_must (refine wpList_append_lies _ rfl _ _ _ rfl B0 5 ti0 _ 1 1 Tryz.underlying89 hi0 hz0 hz1 hz2 rfl (by omega) v d.length (Lib.strCells (bs d)) rfl (hown.alloc _) ⟨wr.heap.size, 0, none⟩ 1 1 [.int .u8 34] rfl rfl (World.news_of_block (cs := #[.int .u8 34]) (t := 5) (fr := (0, 0)) (heap_alloc_new wr _)) (by simp [Value.oneCell']) (by omega) (by unfold maxLen; omega) (by omega) (by simp; omega) (wr.heap.size + 1) (by simp) ?_; intro g cap w4 ho4 hg4 hat hlt4)); have hconv := conv_own (w := w4) (base := B0) (l := d ++ [34]) (v := .slice (some ⟨g, 0, none⟩) (d ++ [34]).length cap) (by rw [cells_app, List.length_append]; exact ho4); rw [List.length_append] at hconv; simp only [List.length_cons, List.length_nil] at hconv)
      go_ret
      refine ⟨ret_str ?_, by rw [← HB0.out]; exact (hBq.alloc (by omega) (.cells #[.int .u8 34] 5)).grown hg4 (by simp; omega) (fun j hj => by have := (hown.lt _ hj).1; omega)⟩
      rw [HD.out, List.take_of_length_le (by simp)]; simp [quoS]
    have j0 : (0 : Int) ≤ (k : Int) := by omega
    have j1 : (k : Int) < (s.size : Int) := by omega
    obtain ⟨c, hc⟩ : ∃ c, s[k] = c := ⟨_, rfl⟩
    obtain ⟨n, hn⟩ : ∃ n, c.toNat = n := ⟨_, rfl⟩
    have hget : s[k].toNat = n := by rw [hc, hn]
    have hnl : n < 256 := by rw [← hn]; exact UInt8.toNat_lt _
    have hcn : c = UInt8.ofNat n := by rw [← hn]; simp
    have HN := Lib.hid hn; clear hn
    have HT := Lib.hid (take_snoc hlt hc); clear hc
    by_cases h10 : n = 10
    · subst h10
      clear hcn
      go_wp2_with ((at_builtin; go_must (refine wpList_append_lies _ rfl _ _ _ rfl B0 5 ti0 _ 1 1 Tryz.underlying89 hi0 hz0 hz1 hz2 rfl (by omega) v d.length (Lib.strCells (bs d)) rfl (hown.alloc _) ⟨wr.heap.size, 0, none⟩ 2 2 [.int .u8 92, .int .u8 110] rfl rfl (World.news_of_block (cs := #[.int .u8 92, .int .u8 110]) (t := 5) (fr := (0, 0)) (heap_alloc_new wr _)) (by simp [Value.oneCell']) (by omega) (by unfold maxLen; omega) (by omega) (by simp; omega) (wr.heap.size + 1) (by simp) ?_; intro g cap w4 ho4 hg4 hat hlt4)))
      go_roundg (s.size - (k + 1))
      case measure => omega
      case rel =>
        refine ⟨k + 1, _, d ++ [92, 110], by omega, rfl, rfl, by go_num, ?_, by simp; omega, ?_, ?_, ?_⟩
        · rw [HT.out, List.flatMap_append, HD.out]; simp [quoB, HN.out, sayN]
        · rw [cells_app, List.length_append]; exact ho4
        · exact (hBq.alloc (by omega) (.cells #[.int .u8 92, .int .u8 110] 5)).grown hg4 (by simp; omega) (fun j hj => by have := (hown.lt _ hj).1; omega)
        · have := hg4.size; simp at this; omega
    by_cases h9 : n = 9
    · subst h9
      clear hcn
      go_wp2_with ((at_builtin; go_must (refine wpList_append_lies _ rfl _ _ _ rfl B0 5 ti0 _ 1 1 Tryz.underlying89 hi0 hz0 hz1 hz2 rfl (by omega) v d.length (Lib.strCells (bs d)) rfl (hown.alloc _) ⟨wr.heap.size, 0, none⟩ 2 2 [.int .u8 92, .int .u8 116] rfl rfl (World.news_of_block (cs := #[.int .u8 92, .int .u8 116]) (t := 5) (fr := (0, 0)) (heap_alloc_new wr _)) (by simp [Value.oneCell']) (by omega) (by unfold maxLen; omega) (by omega) (by simp; omega) (wr.heap.size + 1) (by simp) ?_; intro g cap w4 ho4 hg4 hat hlt4)))
      go_roundg (s.size - (k + 1))
      case measure => omega
      case rel =>
        refine ⟨k + 1, _, d ++ [92, 116], by omega, rfl, rfl, by go_num, ?_, by simp; omega, ?_, ?_, ?_⟩
        · rw [HT.out, List.flatMap_append, HD.out]; simp [quoB, HN.out, sayN]
        · rw [cells_app, List.length_append]; exact ho4
        · exact (hBq.alloc (by omega) (.cells #[.int .u8 92, .int .u8 116] 5)).grown hg4 (by simp; omega) (fun j hj => by have := (hown.lt _ hj).1; omega)
        · have := hg4.size; simp at this; omega
    by_cases h13 : n = 13
    · subst h13
      clear hcn
      go_wp2_with ((at_builtin; go_must (refine wpList_append_lies _ rfl _ _ _ rfl B0 5 ti0 _ 1 1 Tryz.underlying89 hi0 hz0 hz1 hz2 rfl (by omega) v d.length (Lib.strCells (bs d)) rfl (hown.alloc _) ⟨wr.heap.size, 0, none⟩ 2 2 [.int .u8 92, .int .u8 114] rfl rfl (World.news_of_block (cs := #[.int .u8 92, .int .u8 114]) (t := 5) (fr := (0, 0)) (heap_alloc_new wr _)) (by simp [Value.oneCell']) (by omega) (by unfold maxLen; omega) (by omega) (by simp; omega) (wr.heap.size + 1) (by simp) ?_; intro g cap w4 ho4 hg4 hat hlt4)))
      go_roundg (s.size - (k + 1))
      case measure => omega
      case rel =>
        refine ⟨k + 1, _, d ++ [92, 114], by omega, rfl, rfl, by go_num, ?_, by simp; omega, ?_, ?_, ?_⟩
        · rw [HT.out, List.flatMap_append, HD.out]; simp [quoB, HN.out, sayN]
        · rw [cells_app, List.length_append]; exact ho4
        · exact (hBq.alloc (by omega) (.cells #[.int .u8 92, .int .u8 114] 5)).grown hg4 (by simp; omega) (fun j hj => by have := (hown.lt _ hj).1; omega)
        · have := hg4.size; simp at this; omega
    by_cases h92 : n = 92
    · subst h92
      clear hcn
      go_wp2_with ((at_builtin; go_must (refine wpList_append_lies _ rfl _ _ _ rfl B0 5 ti0 _ 1 1 Tryz.underlying89 hi0 hz0 hz1 hz2 rfl (by omega) v d.length (Lib.strCells (bs d)) rfl (hown.alloc _) ⟨wr.heap.size, 0, none⟩ 2 2 [.int .u8 92, .int .u8 92] rfl rfl (World.news_of_block (cs := #[.int .u8 92, .int .u8 92]) (t := 5) (fr := (0, 0)) (heap_alloc_new wr _)) (by simp [Value.oneCell']) (by omega) (by unfold maxLen; omega) (by omega) (by simp; omega) (wr.heap.size + 1) (by simp) ?_; intro g cap w4 ho4 hg4 hat hlt4)))
      go_roundg (s.size - (k + 1))
      case measure => omega
      case rel =>
        refine ⟨k + 1, _, d ++ [92, 92], by omega, rfl, rfl, by go_num, ?_, by simp; omega, ?_, ?_, ?_⟩
        · rw [HT.out, List.flatMap_append, HD.out]; simp [quoB, HN.out, sayN]
        · rw [cells_app, List.length_append]; exact ho4
        · exact (hBq.alloc (by omega) (.cells #[.int .u8 92, .int .u8 92] 5)).grown hg4 (by simp; omega) (fun j hj => by have := (hown.lt _ hj).1; omega)
        · have := hg4.size; simp at this; omega
    by_cases h34 : n = 34
    · subst h34
      clear hcn
      go_wp2_with ((at_builtin; go_must (refine wpList_append_lies _ rfl _ _ _ rfl B0 5 ti0 _ 1 1 Tryz.underlying89 hi0 hz0 hz1 hz2 rfl (by omega) v d.length (Lib.strCells (bs d)) rfl (hown.alloc _) ⟨wr.heap.size, 0, none⟩ 2 2 [.int .u8 92, .int .u8 34] rfl rfl (World.news_of_block (cs := #[.int .u8 92, .int .u8 34]) (t := 5) (fr := (0, 0)) (heap_alloc_new wr _)) (by simp [Value.oneCell']) (by omega) (by unfold maxLen; omega) (by omega) (by simp; omega) (wr.heap.size + 1) (by simp) ?_; intro g cap w4 ho4 hg4 hat hlt4)))
      go_roundg (s.size - (k + 1))
      case measure => omega
      case rel =>
        refine ⟨k + 1, _, d ++ [92, 34], by omega, rfl, rfl, by go_num, ?_, by simp; omega, ?_, ?_, ?_⟩
        · rw [HT.out, List.flatMap_append, HD.out]; simp [quoB, HN.out, sayN]
        · rw [cells_app, List.length_append]; exact ho4
        · exact (hBq.alloc (by omega) (.cells #[.int .u8 92, .int .u8 34] 5)).grown hg4 (by simp; omega) (fun j hj => by have := (hown.lt _ hj).1; omega)
        · have := hg4.size; simp at this; omega
    have f10 : ((n : Int) == 10) = false := beq_eq_false_iff_ne.2 (by omega)
    have f9 : ((n : Int) == 9) = false := beq_eq_false_iff_ne.2 (by omega)
    have f13 : ((n : Int) == 13) = false := beq_eq_false_iff_ne.2 (by omega)
    have f92 : ((n : Int) == 92) = false := beq_eq_false_iff_ne.2 (by omega)
    have f34 : ((n : Int) == 34) = false := beq_eq_false_iff_ne.2 (by omega)
    have HS := Lib.hid (sayN_else h10 h9 h13 h92 h34)
    clear h10 h9 h13 h92 h34
    by_cases hodd : n < 32 ∨ 126 < n
    case neg =>
      have HO := Lib.hid hodd
      have j2 : (32 : Int) ≤ (n : Int) := by omega
      have j3 : (n : Int) ≤ 126 := by omega
      have hcu : (c.toNat : Int) = (n : Int) := by rw [HN.out]
      clear hodd hcn
      go_wp2_with ((at_builtin; go_must (refine wpList_append_lies _ rfl _ _ _ rfl B0 5 ti0 _ 1 1 Tryz.underlying89 hi0 hz0 hz1 hz2 rfl (by omega) v d.length (Lib.strCells (bs d)) rfl (hown.alloc _) ⟨wr.heap.size, 0, none⟩ 1 1 [.int .u8 (n : Int)] rfl rfl (World.news_of_block (cs := #[.int .u8 (n : Int)]) (t := 5) (fr := (0, 0)) (heap_alloc_new wr _)) (by simp [Value.oneCell']) (by omega) (by unfold maxLen; omega) (by omega) (by simp; omega) (wr.heap.size + 1) (by simp) ?_; intro g cap w4 ho4 hg4 hat hlt4)))
      go_roundg (s.size - (k + 1))
      case measure => omega
      case rel =>
        refine ⟨k + 1, _, d ++ [c], by omega, rfl, rfl, by go_num, ?_, by simp; omega, ?_, ?_, ?_⟩
        · rw [HT.out, List.flatMap_append, HD.out]; simp [quoB, HN.out, HS.out, HO.out]
        · rw [cells_app, List.length_append]; simp only [List.map_cons, List.map_nil, hcu]; exact ho4
        · exact (hBq.alloc (by omega) (.cells #[.int .u8 (n : Int)] 5)).grown hg4 (by simp; omega) (fun j hj => by have := (hown.lt _ hj).1; omega)
        · have := hg4.size; simp at this; omega
    have HO := Lib.hid hodd
    obtain ⟨hi, hhi⟩ : ∃ hi, n / 16 = hi := ⟨_, rfl⟩
    obtain ⟨lo, hlo⟩ : ∃ lo, n % 16 = lo := ⟨_, rfl⟩
    have hdiv : (n : Int) / 16 = (hi : Int) := by omega
    have hdivT : (n : Int).tdiv 16 = (hi : Int) := by rw [Int.tdiv_eq_ediv_of_nonneg (by omega)]; omega
    have hmod : (n : Int) % 16 = (lo : Int) := by omega
    have hmodT : (n : Int).tmod 16 = (lo : Int) := by rw [Int.tmod_eq_emod_of_nonneg (by omega)]; omega
    have hi16 : hi < 16 := by omega
    have lo16 : lo < 16 := by omega
    have hd1 : ∀ h, (({ data := #[48, 49, 50, 51, 52, 53, 54, 55, 56, 57, 97, 98, 99, 100, 101, 102] } : ByteArray)[hi]'h).toNat = (digH hi).toNat := fun h => digH_at ⟨hi, hi16⟩ h
    have hd2 : ∀ h, (({ data := #[48, 49, 50, 51, 52, 53, 54, 55, 56, 57, 97, 98, 99, 100, 101, 102] } : ByteArray)[lo]'h).toNat = (digH lo).toNat := fun h => digH_at ⟨lo, lo16⟩ h
    have HHI := Lib.hid hhi; have HLO := Lib.hid hlo; clear hhi hlo hcn
    have hwh : IntKind.u8.wrap (hi : Int) = (hi : Int) := by unfold IntKind.wrap; simp [IntKind.bits, IntKind.signed]; omega
    have hwl : IntKind.u8.wrap (lo : Int) = (lo : Int) := by unfold IntKind.wrap; simp [IntKind.bits, IntKind.signed]; omega
    rcases hodd with hodd | hodd
    all_goals
      have j2 : (n : Int) < 32 ∨ 126 < (n : Int) := by omega
      go_wp2
      have j4 : (hi : Int) < 16 := by omega
      have j5 : (0 : Int) ≤ (hi : Int) := by omega
      have j6 : (lo : Int) < 16 := by omega
      have j7 : (0 : Int) ≤ (lo : Int) := by omega
      go_region_law ((refine step_append_lies _ (by rfl) _ _ _ (by rfl) B0 5 ti0 _ 1 1 Tryz.underlying89 hi0 hz0 hz1 hz2 rfl (by omega) v d.length (Lib.strCells (bs d)) (by rfl) ((hown.alloc _).drew) ⟨wr.heap.size, 0, none⟩ 4 4 [.int .u8 92, .int .u8 120, .int .u8 ((digH hi).toNat : Int), .int .u8 ((digH lo).toNat : Int)] (by rfl) (by rfl) (World.news_of_block (cs := #[.int .u8 92, .int .u8 120, .int .u8 ((digH hi).toNat : Int), .int .u8 ((digH lo).toNat : Int)]) (t := 5) (fr := (0, 0)) (heap_alloc_new wr _)) (by simp [Value.oneCell']) (by omega) (by unfold maxLen; omega) (by omega) (by simp; omega) (wr.heap.size + 1) (by simp) ?_; intro g cap w4 ho4 hg4 hat hlt4))
      all_goals
        go_wp2
        go_roundg (s.size - (k + 1))
        case measure => omega
        case rel =>
          refine ⟨k + 1, _, d ++ [92, 120, digH hi, digH lo], by omega, rfl, rfl, by go_num, ?_, by simp; omega, ?_, ?_, ?_⟩
          · rw [HT.out, List.flatMap_append, HD.out]; simp [quoB, HN.out, HS.out, HO.out, HHI.out, HLO.out]
          · rw [cells_app, List.length_append]; exact ho4
          · exact ((hBq.alloc (by omega) (.cells #[.int .u8 92, .int .u8 120, .int .u8 ((digH hi).toNat : Int), .int .u8 ((digH lo).toNat : Int)] 5))).drew.grown hg4 (by simp; omega) (fun j hj => by have := (hown.lt _ hj).1; omega)
          · have := hg4.size; simp at this; omega
end Go.Proofs.YtopbhopblpfjpaaGreatDoor.RfQ
