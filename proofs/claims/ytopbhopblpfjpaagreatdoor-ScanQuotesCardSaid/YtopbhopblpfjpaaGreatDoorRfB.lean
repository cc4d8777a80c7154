/- The document's strings, dollars, numbers, walked. -/
import Derived.Test.YtopbhopblpfjpaaGreatDoorRfA
import Derived.Test.YtopbhopblpfjpaaGreatDoorScanD
import Derived.Deep.RegionLaw
import Derived.Deep.AppendLies
namespace Go.Proofs.YtopbhopblpfjpaaGreatDoor.RfB
open Go.RowKit Go.Proofs.YtopbhopblpfjpaaGreatDoor.Lexy Go.Proofs.YtopbhopblpfjpaaGreatDoor.Heap Go.Proofs.YtopbhopblpfjpaaGreatDoor.Base Go.Proofs.YtopbhopblpfjpaaGreatDoor.Scany Go.Proofs.YtopbhopblpfjpaaGreatDoor.ScanC Go.Proofs.YtopbhopblpfjpaaGreatDoor.ScanD Go.Proofs.YtopbhopblpfjpaaGreatDoor.RfA

/-- what comes of a string -/
def TextR (s : ByteArray) (a : Nat) (w : World) (e : Ending) (w' : World) : Prop :=
  Below w.heap.size w w' ∧ match strL (rest s (a + 1)) 0 with
  | none => e = .returned (.tuple #[.agg #[.int .u8 0, .string { data := #[] }, .int .i64 0], .int .i64 0, .bool false])
  | some (t, n) => e = .returned (.tuple #[.agg #[.int .u8 5, .string (bs t), .int .i64 (a : Int)], .int .i64 ((a + 1 + n : Nat) : Int), .bool true])
theorem TextR.no {s : ByteArray} {a : Nat} {w w' : World} (h : strL (rest s (a + 1)) 0 = none) (hb : Below w.heap.size w w') : TextR s a w (.returned (.tuple #[.agg #[.int .u8 0, .string { data := #[] }, .int .i64 0], .int .i64 0, .bool false])) w' := by
  unfold TextR; rw [h]; exact ⟨hb, rfl⟩
theorem TextR.ok {s X : ByteArray} {a n : Nat} {t : List UInt8} {w w' : World} {y : Int} (h : strL (rest s (a + 1)) 0 = some (t, n)) (hX : X = bs t) (hy : y = ((a + 1 + n : Nat) : Int)) (hb : Below w.heap.size w w') : TextR s a w (.returned (.tuple #[.agg #[.int .u8 5, .string X, .int .i64 (a : Int)], .int .i64 y, .bool true])) w' := by
  unfold TextR; rw [h, hX, hy]; exact ⟨hb, rfl⟩
/-- a token's cells -/
theorem cells3 {w : World} {b : Nat} {u v x : Value} {t : TypeId} (h : w.heap[b]? = some (.cells #[u, v, x] t (0, 0))) :
    w.cell? ⟨b, 0, none⟩ = some u ∧ w.cell? ⟨b, 1, none⟩ = some v ∧ w.cell? ⟨b, 2, none⟩ = some x ∧ w.frozen? ⟨b, 0, none⟩ = false ∧ w.frozen? ⟨b, 1, none⟩ = false ∧ w.frozen? ⟨b, 2, none⟩ = false :=
  ⟨cell_of_row w b 0 #[u, v, x] t (0, 0) h, cell_of_row w b 1 #[u, v, x] t (0, 0) h, cell_of_row w b 2 #[u, v, x] t (0, 0) h, frozen_of_row w b 0 #[u, v, x] t h, frozen_of_row w b 1 #[u, v, x] t h, frozen_of_row w b 2 #[u, v, x] t h⟩
theorem tok3h {w : World} {T : Nat} {u v x : Value} (h : w.heap[T]? = some (.cells #[u, v, x] 50 (0, 0))) (v0 v1 v2 : Value) :
    (((w.setCell ⟨T, 0, none⟩ v0).setCell ⟨T, 1, none⟩ v1).setCell ⟨T, 2, none⟩ v2).heap[T]? = some (.cells #[v0, v1, v2] 50 (0, 0)) :=
  heap_setCell_same _ T 2 _ _ v2 (heap_setCell_same _ T 1 _ _ v1 (heap_setCell_same w T 0 _ _ v0 h))
theorem res_text {w : World} {H : Nat} {v0 v1 v2 v5 v6 : Value} {tmps : Array Value} (hH : w.heap[H]? = some (.cells #[v0, v1, v2] 50 (0, 0)))
    (h4 : tmps[4]?.getD undef = .pointer (some ⟨H, 0, none⟩)) (h5 : tmps[5]?.getD undef = v5) (h6 : tmps[6]?.getD undef = v6) : (results Tryz.f41 tmps).run Tryz.prog w = .ok (.tuple #[.agg #[v0, v1, v2], v5, v6]) w := by
  obtain ⟨a0, a1, a2, _⟩ := cells3 hH
  simp [results, Tryz.results41, go_sem, h4, h5, h6, a0, a1, a2]
theorem lt_of_byte {s : ByteArray} {k c : Nat} (h : byteAt s k = c) (hc : c ≠ 0) : k < s.size := by
  rcases Nat.lt_or_ge k s.size with h' | h'
  · exact h'
  · rw [(rest_nil h').2] at h; omega

theorem half_st {n v : Nat} (hn : n < 256) (w : World) (h : hexN n = v) : Calls Tryz.prog 88 #[.int .u8 (n : Int)] w fun e w' => e = .returned (.int .u8 (v : Int)) ∧ w' = w :=
  (half_is hn w h).mono fun _ _ ⟨h1, h2⟩ => ⟨h1, h2.symm⟩
set_option maxRecDepth 100000 in
set_option maxHeartbeats 4000000 in
theorem text_r {s : ByteArray} {a : Nat} {w : World} (hs : s.size ≤ 1000000) (ha : a < s.size) :
    Calls Tryz.prog 41 #[.string s, .int .i64 (a : Int)] w (TextR s a w) := by
  obtain ⟨ti0, hi0, hz0, hz1, hz2⟩ := info_parts byteInfo
  go_enter Tryz.func41, Tryz.ntmps41
  go_wp2
  have hW1 : (w.alloc (.cells #[.int .u8 0, .string { data := #[] }, .int .i64 0] 50)).heap[w.heap.size]? = some (.cells #[.int .u8 0, .string { data := #[] }, .int .i64 0] 50 (0, 0)) := heap_alloc_new w _
  have hW2 := (Below.refl w.heap.size w).alloc (Nat.le_refl _) (.cells #[.int .u8 0, .string { data := #[] }, .int .i64 0] 50)
  have hW3 : w.heap.size < (w.alloc (.cells #[.int .u8 0, .string { data := #[] }, .int .i64 0] 50)).heap.size := by simp
  generalize w.alloc (.cells #[.int .u8 0, .string { data := #[] }, .int .i64 0] 50) = W at *
  obtain ⟨H, hH⟩ : ∃ H, H = w.heap.size := ⟨_, rfl⟩
  rw [← hH] at hW1 hW2 hW3 ⊢
  have HH := Lib.hid hH; clear hH
  go_loopg [7, 8] (s.size - (a + 1)) (fun gk out i wr => ∃ (k : Nat) (d : List UInt8) (v : Value), v = out ∧ a + 1 ≤ k ∧ k ≤ s.size ∧ gk = s.size - k ∧ i = .int .i64 (k : Int) ∧ d.length ≤ k ∧ strL (rest s (a + 1)) 0 = (strL (rest s k) 0).map (fun x => (d ++ x.1, x.2 + (k - (a + 1)))) ∧ wr.ownsRow (H + 1) 5 1 v d.length (Lib.strCells (bs d)) ∧ wr.heap[H]? = some (.cells #[.int .u8 0, .string { data := #[] }, .int .i64 0] 50 (0, 0)) ∧ H < wr.heap.size ∧ Below H w wr)
  case atStart => exact ⟨a + 1, [], _, rfl, by omega, by omega, rfl, by go_num, by simp, by simp, World.ownsRow_nil _ _ _ _, hW1, hW3, hW2⟩
  case round =>
    clear hW1 hW2 hW3
    obtain ⟨k, d, v, rfl, hk1, hk2, rfl, rfl, hdk, hst, hown, hr2, hgs, hbel⟩ := hrel
    have R2 := Lib.hid hr2
    obtain ⟨z0, z1, z2, z3, z4, z5⟩ := cells3 hr2
    clear hr2
    have nH : ¬ some H = v.ownBlock := fun e => by have := (hown.lt _ e.symm).1; omega
    have NH := Lib.hid nH; clear nH
    have hb3 : ∀ v0 v1 v2, Below H w (((wr.setCell ⟨H, 0, none⟩ v0).setCell ⟨H, 1, none⟩ v1).setCell ⟨H, 2, none⟩ v2) := fun v0 v1 v2 => ((hbel.setCell (Nat.le_refl _) _).setCell (Nat.le_refl _) _).setCell (Nat.le_refl _) _
    have HB3 := Lib.hid hb3; clear hb3
    have HS := Lib.hid hst; clear hst
    have hws := hbel.size
    by_cases hlt : k < s.size
    case neg =>
      obtain rfl : k = s.size := by omega
      have HF := Lib.hid (show strL (rest s (a + 1)) 0 = none by rw [HS.out, (rest_nil (Nat.le_refl _)).1]; rfl)
      have j1 : ¬ ((s.size : Int) < (s.size : Int)) := by omega
      go_wp2
      try simp only [Exit.inBlock, Exit.then]
      refine bodyPost_ret (res_text (tok3h R2.out _ _ _) rfl rfl rfl) rfl ?_
      exact TextR.no HF.out (by rw [← HH.out]; exact HB3.out _ _ _)
    have hget := RfA.get_at hlt
    have j0 : (0 : Int) ≤ (k : Int) := by omega
    have j1 : (k : Int) < (s.size : Int) := by omega
    obtain ⟨c, hc⟩ : ∃ c, byteAt s k = c := ⟨_, rfl⟩
    rw [hc] at hget
    replace hget := hget.symm
    by_cases h34 : c = 34
    · have HF := Lib.hid (show strL (rest s (a + 1)) 0 = some (d ++ [], 1 + (k - (a + 1))) by rw [HS.out, str_quote hlt (by omega)]; rfl)
      subst h34
      clear hc
      have hconv := conv_own hown
      obtain ⟨oa, oc, rfl⟩ : ∃ oa oc, v = .slice oa d.length oc := by
        rcases hown.2 with ⟨h, h0⟩ | ⟨g, cap, cur, h, _⟩
        · exact ⟨none, 0, by rw [h, h0]⟩
        · exact ⟨_, _, h⟩
      go_wp2
      try simp only [Exit.inBlock, Exit.then]
      refine bodyPost_ret (res_text (tok3h R2.out _ _ _) rfl rfl rfl) rfl ?_
      exact TextR.ok HF.out (by rw [List.append_nil]) (by push_cast; omega) (by rw [← HH.out]; exact HB3.out _ _ _)
    have e34 : ((c : Int) != 34) = true := bne_iff_ne.2 (by omega)
    by_cases hodd : c < 32 ∨ 126 < c
    · have HF := Lib.hid (show strL (rest s (a + 1)) 0 = none by rw [HS.out, str_odd (s := s) (k := k) (by omega)]; rfl)
      clear hc
      rcases hodd with hodd | hodd
      all_goals
        have j2 : (c : Int) < 32 ∨ (126 : Int) < (c : Int) := by omega
        go_wp2
        try simp only [Exit.inBlock, Exit.then]
        refine bodyPost_ret (res_text (tok3h R2.out _ _ _) rfl rfl rfl) rfl ?_
        exact TextR.no HF.out (by rw [← HH.out]; exact HB3.out _ _ _)
    have j3 : (32 : Int) ≤ (c : Int) := by omega
    have j4 : (c : Int) ≤ 126 := by omega
    by_cases h92 : c = 92
    case neg =>
      have e92 : ((c : Int) != 92) = true := bne_iff_ne.2 (by omega)
      have HF := Lib.hid (show strL (rest s (a + 1)) 0 = ((strL (rest s (k + 1)) 0).map fun x => (UInt8.ofNat c :: x.1, x.2 + 1)).map (fun x => (d ++ x.1, x.2 + (k - (a + 1)))) by rw [HS.out, str_plain hlt (by omega) (by omega) (by omega) (by omega), hc])
      have hcl : c < 256 := by rw [← hc]; exact byteAt_lt s k
      clear hc
      go_wp2_with (at_builtin; go_must (refine wpList_append_lies _ rfl _ _ _ rfl (H + 1) 5 ti0 _ 1 1 Tryz.underlying89 hi0 hz0 hz1 hz2 rfl (by omega) v d.length (Lib.strCells (bs d)) rfl (hown.alloc _) ⟨wr.heap.size, 0, none⟩ 1 1 [.int .u8 (c : Int)] rfl rfl (World.news_of_block (cs := #[.int .u8 (c : Int)]) (t := 5) (fr := (0, 0)) (heap_alloc_new wr _)) (by simp [Value.oneCell']) (by omega) (by unfold maxLen; omega) (by omega) (by simp; omega) (wr.heap.size + 1) (by simp) ?_); intro g cap w4 ho4 hg4 hat hlt4)
      go_roundg (s.size - (k + 1))
      case measure => omega
      case rel =>
        have hcc : ((UInt8.ofNat c).toNat : Int) = (c : Int) := by simp; omega
        refine ⟨k + 1, d ++ [UInt8.ofNat c], _, rfl, by omega, by omega, rfl, by go_num, by simp; omega, ?_, ?_, (hg4.block H (by simp; omega) NH.out).trans ((Below.heap_alloc _ _ _ hgs).trans R2.out), by have := hg4.size; simp at this; omega, ?_⟩
        · rw [HF.out, Option.map_map]; congr 1; funext x; simp; omega
        · rw [cells_snoc, List.length_append, hcc]; exact ho4
        · exact (hbel.alloc (by omega) (.cells #[.int .u8 (c : Int)] 5)).grown hg4 (by simp; omega) (fun j hj => by have := (hown.lt _ hj).1; omega)
    subst h92
    have e92 : ((92 : Int) != 92) = false := by decide
    have hsp := str_pair hlt hc
    by_cases hlt1 : k + 1 < s.size
    case neg =>
      have HF := Lib.hid (show strL (rest s (a + 1)) 0 = none by rw [HS.out, hsp, (rest_nil (by omega)).1]; rfl)
      have k1 : (s.size : Int) ≤ (k : Int) + 1 := by omega
      clear hc hsp
      go_wp2
      try simp only [Exit.inBlock, Exit.then]
      refine bodyPost_ret (res_text (tok3h R2.out _ _ _) rfl rfl rfl) rfl ?_
      exact TextR.no HF.out (by rw [← HH.out]; exact HB3.out _ _ _)
    have hget1 := RfA.get_at hlt1
    have k1 : (k : Int) + 1 < (s.size : Int) := by omega
    have k0 : (0 : Int) ≤ (k : Int) + 1 := by omega
    have hpr := pair_rest s (k + 1)
    obtain ⟨c1, hc1⟩ : ∃ c1, byteAt s (k + 1) = c1 := ⟨_, rfl⟩
    rw [hc1] at hget1
    replace hget1 := hget1.symm
    have hc1l : c1 < 256 := by rw [← hc1]; exact byteAt_lt s (k + 1)
    -- a pair of one letter
    have one : ∀ y : UInt8, pairL (rest s (k + 1)) = some (y, 1) → strL (rest s (a + 1)) 0 = ((strL (rest s (k + 1 + 1)) 0).map fun x => (y :: x.1, x.2 + 1 + 1)).map (fun x => (d ++ x.1, x.2 + (k - (a + 1)))) := fun y h => by rw [HS.out, hsp, h]
    by_cases h110 : c1 = 110
    · have HF := Lib.hid (one (UInt8.ofNat 10) (by rw [hpr, hc1, h110]; rfl))
      subst h110
      clear hc hc1 hpr hsp one
      go_wp2_with (at_builtin; go_must (refine wpList_append_lies _ rfl _ _ _ rfl (H + 1) 5 ti0 _ 1 1 Tryz.underlying89 hi0 hz0 hz1 hz2 rfl (by omega) v d.length (Lib.strCells (bs d)) rfl (hown.alloc _) ⟨wr.heap.size, 0, none⟩ 1 1 [.int .u8 10] rfl rfl (World.news_of_block (cs := #[.int .u8 10]) (t := 5) (fr := (0, 0)) (heap_alloc_new wr _)) (by simp [Value.oneCell']) (by omega) (by unfold maxLen; omega) (by omega) (by simp; omega) (wr.heap.size + 1) (by simp) ?_); intro g cap w4 ho4 hg4 hat hlt4)
      go_roundg (s.size - (k + 2))
      case measure => omega
      case rel =>
        refine ⟨k + 2, d ++ [UInt8.ofNat 10], _, rfl, by omega, by omega, rfl, by go_num, by simp; omega, ?_, ?_, (hg4.block H (by simp; omega) NH.out).trans ((Below.heap_alloc _ _ _ hgs).trans R2.out), by have := hg4.size; simp at this; omega, ?_⟩
        · rw [HF.out, Option.map_map]; congr 1; funext x; simp; omega
        · rw [cells_snoc, List.length_append]; exact ho4
        · exact (hbel.alloc (by omega) (.cells #[.int .u8 10] 5)).grown hg4 (by simp; omega) (fun j hj => by have := (hown.lt _ hj).1; omega)
    by_cases h116 : c1 = 116
    · have HF := Lib.hid (one (UInt8.ofNat 9) (by rw [hpr, hc1, h116]; rfl))
      subst h116
      clear hc hc1 hpr hsp one
      go_wp2_with (at_builtin; go_must (refine wpList_append_lies _ rfl _ _ _ rfl (H + 1) 5 ti0 _ 1 1 Tryz.underlying89 hi0 hz0 hz1 hz2 rfl (by omega) v d.length (Lib.strCells (bs d)) rfl (hown.alloc _) ⟨wr.heap.size, 0, none⟩ 1 1 [.int .u8 9] rfl rfl (World.news_of_block (cs := #[.int .u8 9]) (t := 5) (fr := (0, 0)) (heap_alloc_new wr _)) (by simp [Value.oneCell']) (by omega) (by unfold maxLen; omega) (by omega) (by simp; omega) (wr.heap.size + 1) (by simp) ?_); intro g cap w4 ho4 hg4 hat hlt4)
      go_roundg (s.size - (k + 2))
      case measure => omega
      case rel =>
        refine ⟨k + 2, d ++ [UInt8.ofNat 9], _, rfl, by omega, by omega, rfl, by go_num, by simp; omega, ?_, ?_, (hg4.block H (by simp; omega) NH.out).trans ((Below.heap_alloc _ _ _ hgs).trans R2.out), by have := hg4.size; simp at this; omega, ?_⟩
        · rw [HF.out, Option.map_map]; congr 1; funext x; simp; omega
        · rw [cells_snoc, List.length_append]; exact ho4
        · exact (hbel.alloc (by omega) (.cells #[.int .u8 9] 5)).grown hg4 (by simp; omega) (fun j hj => by have := (hown.lt _ hj).1; omega)
    by_cases h114 : c1 = 114
    · have HF := Lib.hid (one (UInt8.ofNat 13) (by rw [hpr, hc1, h114]; rfl))
      subst h114
      clear hc hc1 hpr hsp one
      go_wp2_with (at_builtin; go_must (refine wpList_append_lies _ rfl _ _ _ rfl (H + 1) 5 ti0 _ 1 1 Tryz.underlying89 hi0 hz0 hz1 hz2 rfl (by omega) v d.length (Lib.strCells (bs d)) rfl (hown.alloc _) ⟨wr.heap.size, 0, none⟩ 1 1 [.int .u8 13] rfl rfl (World.news_of_block (cs := #[.int .u8 13]) (t := 5) (fr := (0, 0)) (heap_alloc_new wr _)) (by simp [Value.oneCell']) (by omega) (by unfold maxLen; omega) (by omega) (by simp; omega) (wr.heap.size + 1) (by simp) ?_); intro g cap w4 ho4 hg4 hat hlt4)
      go_roundg (s.size - (k + 2))
      case measure => omega
      case rel =>
        refine ⟨k + 2, d ++ [UInt8.ofNat 13], _, rfl, by omega, by omega, rfl, by go_num, by simp; omega, ?_, ?_, (hg4.block H (by simp; omega) NH.out).trans ((Below.heap_alloc _ _ _ hgs).trans R2.out), by have := hg4.size; simp at this; omega, ?_⟩
        · rw [HF.out, Option.map_map]; congr 1; funext x; simp; omega
        · rw [cells_snoc, List.length_append]; exact ho4
        · exact (hbel.alloc (by omega) (.cells #[.int .u8 13] 5)).grown hg4 (by simp; omega) (fun j hj => by have := (hown.lt _ hj).1; omega)
    by_cases h92 : c1 = 92
    · have HF := Lib.hid (one (UInt8.ofNat 92) (by rw [hpr, hc1, h92]; rfl))
      subst h92
      clear hc hc1 hpr hsp one
      go_wp2_with (at_builtin; go_must (refine wpList_append_lies _ rfl _ _ _ rfl (H + 1) 5 ti0 _ 1 1 Tryz.underlying89 hi0 hz0 hz1 hz2 rfl (by omega) v d.length (Lib.strCells (bs d)) rfl (hown.alloc _) ⟨wr.heap.size, 0, none⟩ 1 1 [.int .u8 92] rfl rfl (World.news_of_block (cs := #[.int .u8 92]) (t := 5) (fr := (0, 0)) (heap_alloc_new wr _)) (by simp [Value.oneCell']) (by omega) (by unfold maxLen; omega) (by omega) (by simp; omega) (wr.heap.size + 1) (by simp) ?_); intro g cap w4 ho4 hg4 hat hlt4)
      go_roundg (s.size - (k + 2))
      case measure => omega
      case rel =>
        refine ⟨k + 2, d ++ [UInt8.ofNat 92], _, rfl, by omega, by omega, rfl, by go_num, by simp; omega, ?_, ?_, (hg4.block H (by simp; omega) NH.out).trans ((Below.heap_alloc _ _ _ hgs).trans R2.out), by have := hg4.size; simp at this; omega, ?_⟩
        · rw [HF.out, Option.map_map]; congr 1; funext x; simp; omega
        · rw [cells_snoc, List.length_append]; exact ho4
        · exact (hbel.alloc (by omega) (.cells #[.int .u8 92] 5)).grown hg4 (by simp; omega) (fun j hj => by have := (hown.lt _ hj).1; omega)
    by_cases h34' : c1 = 34
    · have HF := Lib.hid (one (UInt8.ofNat 34) (by rw [hpr, hc1, h34']; rfl))
      subst h34'
      clear hc hc1 hpr hsp one
      go_wp2_with (at_builtin; go_must (refine wpList_append_lies _ rfl _ _ _ rfl (H + 1) 5 ti0 _ 1 1 Tryz.underlying89 hi0 hz0 hz1 hz2 rfl (by omega) v d.length (Lib.strCells (bs d)) rfl (hown.alloc _) ⟨wr.heap.size, 0, none⟩ 1 1 [.int .u8 34] rfl rfl (World.news_of_block (cs := #[.int .u8 34]) (t := 5) (fr := (0, 0)) (heap_alloc_new wr _)) (by simp [Value.oneCell']) (by omega) (by unfold maxLen; omega) (by omega) (by simp; omega) (wr.heap.size + 1) (by simp) ?_); intro g cap w4 ho4 hg4 hat hlt4)
      go_roundg (s.size - (k + 2))
      case measure => omega
      case rel =>
        refine ⟨k + 2, d ++ [UInt8.ofNat 34], _, rfl, by omega, by omega, rfl, by go_num, by simp; omega, ?_, ?_, (hg4.block H (by simp; omega) NH.out).trans ((Below.heap_alloc _ _ _ hgs).trans R2.out), by have := hg4.size; simp at this; omega, ?_⟩
        · rw [HF.out, Option.map_map]; congr 1; funext x; simp; omega
        · rw [cells_snoc, List.length_append]; exact ho4
        · exact (hbel.alloc (by omega) (.cells #[.int .u8 34] 5)).grown hg4 (by simp; omega) (fun j hj => by have := (hown.lt _ hj).1; omega)
    have hpr2 : pairL (rest s (k + 1)) = if c1 = 120 ∧ hexN (byteAt s (k + 2)) < 16 ∧ hexN (byteAt s (k + 3)) < 16 then some (UInt8.ofNat (16 * hexN (byteAt s (k + 2)) + hexN (byteAt s (k + 3))), 3) else none := by
      rw [hpr, hc1, if_neg h110, if_neg h116, if_neg h114, if_neg h92, if_neg h34']
    have none_of : pairL (rest s (k + 1)) = none → strL (rest s (a + 1)) 0 = none := fun h => by rw [HS.out, hsp, h]; rfl
    have f110 : ((c1 : Int) == 110) = false := beq_eq_false_iff_ne.2 (by omega)
    have f116 : ((c1 : Int) == 116) = false := beq_eq_false_iff_ne.2 (by omega)
    have f114 : ((c1 : Int) == 114) = false := beq_eq_false_iff_ne.2 (by omega)
    have f92 : ((c1 : Int) == 92) = false := beq_eq_false_iff_ne.2 (by omega)
    have f34 : ((c1 : Int) == 34) = false := beq_eq_false_iff_ne.2 (by omega)
    by_cases h120 : c1 = 120
    case neg =>
      have f120 : ((c1 : Int) == 120) = false := beq_eq_false_iff_ne.2 (by omega)
      have HF := Lib.hid (none_of (by rw [hpr2, if_neg (fun h => h120 h.1)]))
      clear hc hc1 hpr hpr2 hsp one none_of
      go_wp2
      try simp only [Exit.inBlock, Exit.then]
      refine bodyPost_ret (res_text (tok3h R2.out _ _ _) rfl rfl rfl) rfl ?_
      exact TextR.no HF.out (by rw [← HH.out]; exact HB3.out _ _ _)
    subst h120
    clear f110 f116 f114 f92 f34 h110 h116 h114 h92 h34'
    by_cases hlt3 : k + 3 < s.size
    case neg =>
      have k3 : (s.size : Int) ≤ (k : Int) + 3 := by omega
      have HF := Lib.hid (none_of (by rw [hpr2, if_neg (fun h => absurd h.2.2 (by rw [(rest_nil (s := s) (a := k + 3) (by omega)).2]; decide))]))
      clear hc hc1 hpr hpr2 hsp one none_of
      go_wp2
      try simp only [Exit.inBlock, Exit.then]
      refine bodyPost_ret (res_text (tok3h R2.out _ _ _) rfl rfl rfl) rfl ?_
      exact TextR.no HF.out (by rw [← HH.out]; exact HB3.out _ _ _)
    have k3 : (k : Int) + 3 < (s.size : Int) := by omega
    have hget2 := RfA.get_at (show k + 2 < s.size by omega)
    have hget3 := RfA.get_at hlt3
    have b2 := byteAt_lt s (k + 2)
    have b3 := byteAt_lt s (k + 3)
    obtain ⟨c2, hc2⟩ : ∃ c2, byteAt s (k + 2) = c2 := ⟨_, rfl⟩
    obtain ⟨c3, hc3⟩ : ∃ c3, byteAt s (k + 3) = c3 := ⟨_, rfl⟩
    rw [hc2] at hget2 hpr2 b2
    rw [hc3] at hget3 hpr2 b3
    replace hget2 := hget2.symm
    replace hget3 := hget3.symm
    obtain ⟨v2, hv2⟩ : ∃ v, hexN c2 = v := ⟨_, rfl⟩
    obtain ⟨v3, hv3⟩ : ∃ v, hexN c3 = v := ⟨_, rfl⟩
    rw [hv2, hv3] at hpr2
    have HV2 := Lib.hid hv2; have HV3 := Lib.hid hv3; clear hv2 hv3
    have k2 : (k : Int) + 2 < (s.size : Int) := by omega
    have k20 : (0 : Int) ≤ (k : Int) + 2 := by omega
    have k30 : (0 : Int) ≤ (k : Int) + 3 := by omega
    by_cases g2 : v2 < 16
    case neg =>
      have HF := Lib.hid (none_of (by rw [hpr2, if_neg (fun h => g2 h.2.1)]))
      have m2 : (15 : Int) < (v2 : Int) := by omega
      clear hc hc1 hpr hpr2 hsp one none_of hc2 hc3
      go_wp2_with (first | (go_at_call 88; (with_reducible refine (half_is b2 _ HV2.out).mono ?_); rintro e w' ⟨rfl, rfl⟩) | (go_at_call 88; (with_reducible refine (half_is b3 _ HV3.out).mono ?_); rintro e w' ⟨rfl, rfl⟩))
      try simp only [Exit.inBlock, Exit.then]
      refine bodyPost_ret (res_text (tok3h R2.out _ _ _) rfl rfl rfl) rfl ?_
      exact TextR.no HF.out (by rw [← HH.out]; exact HB3.out _ _ _)
    by_cases g3 : v3 < 16
    case neg =>
      have HF := Lib.hid (none_of (by rw [hpr2, if_neg (fun h => g3 h.2.2)]))
      have m2 : (v2 : Int) ≤ 15 := by omega
      have m3 : (15 : Int) < (v3 : Int) := by omega
      clear hc hc1 hpr hpr2 hsp one none_of hc2 hc3
      go_wp2_with (first | (go_at_call 88; (with_reducible refine (half_is b2 _ HV2.out).mono ?_); rintro e w' ⟨rfl, rfl⟩) | (go_at_call 88; (with_reducible refine (half_is b3 _ HV3.out).mono ?_); rintro e w' ⟨rfl, rfl⟩))
      try simp only [Exit.inBlock, Exit.then]
      refine bodyPost_ret (res_text (tok3h R2.out _ _ _) rfl rfl rfl) rfl ?_
      exact TextR.no HF.out (by rw [← HH.out]; exact HB3.out _ _ _)
    have m2 : (v2 : Int) ≤ 15 := by omega
    have m3 : (v3 : Int) ≤ 15 := by omega
    have HF := Lib.hid (show strL (rest s (a + 1)) 0 = ((strL (rest s (k + 1 + 3)) 0).map fun x => (UInt8.ofNat (16 * v2 + v3) :: x.1, x.2 + 3 + 1)).map (fun x => (d ++ x.1, x.2 + (k - (a + 1)))) by rw [HS.out, hsp, hpr2, if_pos ⟨rfl, g2, g3⟩])
    clear hc hc1 hpr hpr2 hsp one none_of hc2 hc3
    have hvv : IntKind.u8.wrap (16 * (v2 : Int)) = 16 * (v2 : Int) := by unfold IntKind.wrap; simp [IntKind.bits, IntKind.signed]; omega
    have hvw : IntKind.u8.wrap (16 * (v2 : Int) + (v3 : Int)) = 16 * (v2 : Int) + (v3 : Int) := by unfold IntKind.wrap; simp [IntKind.bits, IntKind.signed]; omega
    have kw2 : IntKind.i64.wrap ((k : Int) + 2) = (k : Int) + 2 := IntWalk.i64_in _ (by omega)
    have kw3 : IntKind.i64.wrap ((k : Int) + 3) = (k : Int) + 3 := IntWalk.i64_in _ (by omega)
    have kn2 : ((k : Int) + 2).toNat = k + 2 := by omega
    have kn3 : ((k : Int) + 3).toNat = k + 3 := by omega
    go_wp2_with (first | (go_at_call 88; (with_reducible refine (half_is b2 _ HV2.out).mono ?_); rintro e w' ⟨rfl, rfl⟩) | (go_at_call 88; (with_reducible refine (half_is b3 _ HV3.out).mono ?_); rintro e w' ⟨rfl, rfl⟩))
    go_region_law (first | (refine step_append_lies _ (by rfl) _ _ _ (by rfl) (H + 1) 5 ti0 _ 1 1 Tryz.underlying89 hi0 hz0 hz1 hz2 rfl (by omega) v d.length (Lib.strCells (bs d)) (by rfl) ((hown.alloc _).drew) ⟨wr.heap.size, 0, none⟩ 1 1 [.int .u8 (16 * (v2 : Int) + (v3 : Int))] (by rfl) (by rfl) (World.news_of_block (cs := #[.int .u8 (16 * (v2 : Int) + (v3 : Int))]) (t := 5) (fr := (0, 0)) (heap_alloc_new wr _)) (by simp [Value.oneCell']) (by omega) (by unfold maxLen; omega) (by omega) (by simp; omega) (wr.heap.size + 1) (by simp) ?_; intro g cap w4 ho4 hg4 hat hlt4) | (go_simp; go_at_call 88; (with_reducible refine (half_is b2 _ HV2.out).mono ?_); rintro e w' ⟨rfl, rfl⟩) | (go_simp; go_at_call 88; (with_reducible refine (half_is b3 _ HV3.out).mono ?_); rintro e w' ⟨rfl, rfl⟩))
    all_goals
      go_wp2
      go_roundg (s.size - (k + 4))
      case measure => omega
      case rel =>
        have hcc : ((UInt8.ofNat (16 * v2 + v3)).toNat : Int) = 16 * (v2 : Int) + (v3 : Int) := by simp; omega
        refine ⟨k + 4, d ++ [UInt8.ofNat (16 * v2 + v3)], _, rfl, by omega, by omega, rfl, by go_num, by simp; omega, ?_, ?_, (hg4.block H (by simp; omega) NH.out).trans ((Below.heap_alloc _ _ _ hgs).trans R2.out), by have := hg4.size; simp at this; omega, ?_⟩
        · rw [HF.out, Option.map_map]; congr 1; funext x; simp; omega
        · rw [cells_snoc, List.length_append, hcc]; exact ho4
        · exact ((hbel.alloc (by omega) (.cells #[.int .u8 (16 * (v2 : Int) + (v3 : Int))] 5)).drewN 1).grown hg4 (by simp; omega) (fun j hj => by have := (hown.lt _ hj).1; omega)
end Go.Proofs.YtopbhopblpfjpaaGreatDoor.RfB
