/- The document's scanner, walked whole: sources that are not too long. (Printed by rf_e.py.) -/
import Derived.Test.YtopbhopblpfjpaaGreatDoorRfD
namespace Go.Proofs.YtopbhopblpfjpaaGreatDoor.RfE
open Go.RowKit Go.Proofs.YtopbhopblpfjpaaGreatDoor.Lexy Go.Proofs.YtopbhopblpfjpaaGreatDoor.Heap Go.Proofs.YtopbhopblpfjpaaGreatDoor.Base Go.Proofs.YtopbhopblpfjpaaGreatDoor.Scany Go.Proofs.YtopbhopblpfjpaaGreatDoor.ScanL Go.Proofs.YtopbhopblpfjpaaGreatDoor.RfA Go.Proofs.YtopbhopblpfjpaaGreatDoor.RfB Go.Proofs.YtopbhopblpfjpaaGreatDoor.RfC Go.Proofs.YtopbhopblpfjpaaGreatDoor.RfN Go.Proofs.YtopbhopblpfjpaaGreatDoor.RfT Go.Proofs.YtopbhopblpfjpaaGreatDoor.RfU Go.Proofs.YtopbhopblpfjpaaGreatDoor.RfD

set_option maxRecDepth 100000 in
set_option maxHeartbeats 8000000 in
theorem tokens_short_r {s : ByteArray} {w : World} (hs : s.size ≤ 65536) :
    Calls Tryz.prog 7 #[.string s] w (TokensPost s w) := by
  obtain ⟨ti0, hi0, hz0, hz1, hz2⟩ := info_parts ScanH.tokInfo
  go_enter Tryz.func7, Tryz.ntmps7
  go_wp2
  have hW1 : (w.alloc (.cells #[.int .i64 0, .int .i64 0] 26)).heap[w.heap.size]? = some (.cells #[.int .i64 0, .int .i64 0] 26 (0, 0)) := heap_alloc_new w _
  have hW2 := (Below.refl w.heap.size w).alloc (Nat.le_refl _) (.cells #[.int .i64 0, .int .i64 0] 26)
  have hW3 : w.heap.size < (w.alloc (.cells #[.int .i64 0, .int .i64 0] 26)).heap.size := by simp
  generalize w.alloc (.cells #[.int .i64 0, .int .i64 0] 26) = W at *
  obtain ⟨H, hH⟩ : ∃ H, H = w.heap.size := ⟨_, rfl⟩
  rw [← hH] at hW1 hW2 hW3 ⊢
  have HH := Lib.hid hH; clear hH
  go_loopg [4, 5] s.size (fun gk t4 t5 wr => ∃ (k : Nat) (l : Value) (d : List Tok), k ≤ s.size ∧ gk = s.size - k ∧ l = t4 ∧ t5 = .int .i64 (k : Int) ∧ scanA (rest s 0) 0 0 none = app d (scanA (rest s k) 0 k d.getLast?) ∧ d.length ≤ k ∧ wr.ownsRow (H + 1) 50 3 l d.length (cellsT d) ∧
    wr.heap[H]? = some (.cells #[.int .i64 0, .int .i64 0] 26 (0, 0)) ∧ H < wr.heap.size ∧ Below H w wr)
  case atStart => exact ⟨0, .slice none 0 0, [], by omega, by omega, rfl, rfl, by simp [app]; cases scanA (rest s 0) 0 0 none <;> rfl, by simp, World.ownsRow_nil _ _ _ _, hW1, hW3, hW2⟩
  case round =>
    clear hW1 hW2 hW3
    obtain ⟨k, l, d, hk2, rfl, rfl, rfl, hsp, hdk, hown, hr2, hgs, hbel⟩ := hrel
    have HS := Lib.hid hsp; clear hsp
    have R2 := Lib.hid hr2
    obtain ⟨z3, z4, z5, z6⟩ := cells2 hr2
    clear hr2
    have nH : ¬ some H = l.ownBlock := fun e => by have := (hown.lt _ e.symm).1; omega
    have NH := Lib.hid nH; clear nH
    have hdm : d.length ≤ 1000000 := by omega
    by_cases hlt : k < s.size
    case neg =>
      obtain rfl : k = s.size := by omega
      have hsz : ∀ m, scanA (rest s 0) 0 0 none = .good m → toksS s.data.toList = .good m := fun m h => by
        unfold toksS; rw [if_neg (by simp; omega), ← rest_zero]; exact h
      cases he : endsS d.getLast? with
      | false =>
        have HF := Lib.hid (hsz (d ++ [⟨7, [], s.size⟩]) (by rw [HS.out, (rest_nil (Nat.le_refl _)).1, scanA, he]; rfl))
        have HE := Lib.hid he; clear he hsz
        go_wp2_with (first | (go_at_call 21; (with_reducible refine (ends_is hown hdm HE.out).mono ?_); rintro e w2 ⟨rfl, hb2⟩; have hown2 := own_new hown hb2; have R3 := (hb2.block H hgs).trans R2.out; have hgs2 := Nat.lt_of_lt_of_le hgs hb2.size; have hbel2 := hbel.trans (hb2.mono (Nat.le_of_lt hgs)); obtain ⟨z3, z4, z5, z6⟩ := cells2 R3; have R3 := Lib.hid R3) | (at_builtin; go_must (refine wpList_append_lies _ rfl _ _ _ rfl (H + 1) 50 ti0 _ 3 32 Tryz.underlying23 hi0 hz0 hz1 hz2 rfl (by omega) l d.length (cellsT d) rfl (hown2.alloc _) ⟨w2.heap.size, 0, none⟩ 1 1 [.int .u8 7, .string { data := #[] }, .int .i64 (s.size : Int)] rfl rfl (by exact World.news_of_block (cs := #[.int .u8 7, .string { data := #[] }, .int .i64 (s.size : Int)]) (t := 50) (fr := (0, 0)) (heap_alloc_new w2 _)) (by simp [Value.oneCell']) (by omega) (by unfold maxLen; omega) (by omega) (by simp; omega) (w2.heap.size + 1) (by simp) ?_; intro gg cap w1 hown1 hgrow hat hlt2; have a3 : w1.cell? ⟨H, 0, none⟩ = some (.int .i64 0) := (by rw [hgrow.cell_far _ (by simp; omega) NH.out]; exact (World.cell?_alloc_past _ _ _ hgs2).trans z3); have a4 : w1.cell? ⟨H, 1, none⟩ = some (.int .i64 0) := (by rw [hgrow.cell_far _ (by simp; omega) NH.out]; exact (World.cell?_alloc_past _ _ _ hgs2).trans z4); have a5 : w1.frozen? ⟨H, 0, none⟩ = false := (by rw [hgrow.frozen_far _ (by simp; omega) NH.out]; exact (World.frozen?_of_block (Below.heap_alloc _ _ _ hgs2)).trans z5); have a6 : w1.frozen? ⟨H, 1, none⟩ = false := (by rw [hgrow.frozen_far _ (by simp; omega) NH.out]; exact (World.frozen?_of_block (Below.heap_alloc _ _ _ hgs2)).trans z6))))
        try simp only [Exit.inBlock, Exit.then]
        have R1 := ((hgrow.block H (by simp; omega) NH.out).trans (Below.heap_alloc _ _ _ hgs2)).trans R3.out
        have f3 := heap_setCell_same w1 H 0 _ _ (.int .i64 0) R1
        have f4 := heap_setCell_same _ H 1 _ _ (.int .i64 0) f3
        have hbf : Below H w w1 := ((hbel2.alloc (by omega) _)).grown hgrow (by simp; omega) (fun j hj => by have := (hown.lt _ hj).1; omega)
        have hgH : (Value.slice (some ⟨gg, 0, none⟩) (d.length + 1) cap).ownBlock ≠ some H := by have := (hown1.lt gg rfl).1; simp [Value.ownBlock]; omega
        have hof := Heap.own_base (own_set (own_set hown1 hgH 0 (.int .i64 0)) hgH 1 (.int .i64 0)) (show H ≤ H + 1 by omega)
        refine bodyPost_ret (res_r f4 rfl rfl) rfl ?_
        unfold TokensPost
        rw [HF.out]
        refine ⟨by rw [← HH.out]; exact (hbf.setCell (by simp) _).setCell (by simp) _, _, rfl, ?_⟩
        rw [cellsT_snoc, List.length_append, ← HH.out]
        exact hof
      | true =>
        have HF := Lib.hid (hsz ((d ++ [⟨6, [59], s.size⟩]) ++ [⟨7, [], s.size⟩]) (by rw [HS.out, (rest_nil (Nat.le_refl _)).1, scanA, he]; simp [app]))
        have HE := Lib.hid he; clear he hsz
        have tok1 : True := trivial
        go_wp2_with (first | (go_at_call 21; (with_reducible refine (ends_is hown hdm HE.out).mono ?_); rintro e w2 ⟨rfl, hb2⟩; have hown2 := own_new hown hb2; have R3 := (hb2.block H hgs).trans R2.out; have hgs2 := Nat.lt_of_lt_of_le hgs hb2.size; have hbel2 := hbel.trans (hb2.mono (Nat.le_of_lt hgs)); obtain ⟨z3, z4, z5, z6⟩ := cells2 R3; have R3 := Lib.hid R3) | (at_builtin; have _t := tok1; go_must (refine wpList_append_lies _ rfl _ _ _ rfl (H + 1) 50 ti0 _ 3 32 Tryz.underlying23 hi0 hz0 hz1 hz2 rfl (by omega) l d.length (cellsT d) rfl (hown2.alloc _) ⟨w2.heap.size, 0, none⟩ 1 1 [.int .u8 6, .string { data := #[59] }, .int .i64 (s.size : Int)] rfl rfl (by exact World.news_of_block (cs := #[.int .u8 6, .string { data := #[59] }, .int .i64 (s.size : Int)]) (t := 50) (fr := (0, 0)) (heap_alloc_new w2 _)) (by simp [Value.oneCell']) (by omega) (by unfold maxLen; omega) (by omega) (by simp; omega) (w2.heap.size + 1) (by simp) ?_; intro gg cap w1 hown1 hgrow hat hlt2; have hown1 : w1.ownsRow (H + 1) 50 3 (.slice (some ⟨gg, 0, none⟩) (d.length + 1) cap) (d.length + 1) (cellsT (d ++ [⟨6, [59], s.size⟩])) := (by rw [cellsT_snoc]; exact hown1); have R1 := ((hgrow.block H (by simp; omega) NH.out).trans (Below.heap_alloc _ _ _ hgs2)).trans R3.out; have hgs1 : H < w1.heap.size := (by have := hgrow.size; simp at this; omega); have hbf : Below H w w1 := ((hbel2.alloc (by omega) _)).grown hgrow (by simp; omega) (fun j hj => by have := (hown.lt _ hj).1; omega); obtain ⟨z3, z4, z5, z6⟩ := cells2 R1; have R1 := Lib.hid R1; have NH1 := Lib.hid (show ¬ some H = (Value.slice (some ⟨gg, 0, none⟩) (d.length + 1) cap).ownBlock from fun e => by have := (hown1.lt _ e.symm).1; omega); clear tok1)) | (at_builtin; go_must (refine wpList_append_lies _ rfl _ _ _ rfl (H + 1) 50 ti0 _ 3 32 Tryz.underlying23 hi0 hz0 hz1 hz2 rfl (by omega) (.slice (some ⟨gg, 0, none⟩) (d.length + 1) cap) (d.length + 1) (cellsT (d ++ [⟨6, [59], s.size⟩])) rfl (hown1.alloc _) ⟨w1.heap.size, 0, none⟩ 1 1 [.int .u8 7, .string { data := #[] }, .int .i64 (s.size : Int)] rfl rfl (by exact World.news_of_block (cs := #[.int .u8 7, .string { data := #[] }, .int .i64 (s.size : Int)]) (t := 50) (fr := (0, 0)) (heap_alloc_new w1 _)) (by simp [Value.oneCell']) (by omega) (by unfold maxLen; omega) (by omega) (by simp; omega) (w1.heap.size + 1) (by simp) ?_; intro g2 cap2 w5 hown5 hgrow5 hat5 hlt5; have a3 : w5.cell? ⟨H, 0, none⟩ = some (.int .i64 0) := (by rw [hgrow5.cell_far _ (by simp; omega) NH1.out]; exact (World.cell?_alloc_past _ _ _ hgs1).trans z3); have a4 : w5.cell? ⟨H, 1, none⟩ = some (.int .i64 0) := (by rw [hgrow5.cell_far _ (by simp; omega) NH1.out]; exact (World.cell?_alloc_past _ _ _ hgs1).trans z4); have a5 : w5.frozen? ⟨H, 0, none⟩ = false := (by rw [hgrow5.frozen_far _ (by simp; omega) NH1.out]; exact (World.frozen?_of_block (Below.heap_alloc _ _ _ hgs1)).trans z5); have a6 : w5.frozen? ⟨H, 1, none⟩ = false := (by rw [hgrow5.frozen_far _ (by simp; omega) NH1.out]; exact (World.frozen?_of_block (Below.heap_alloc _ _ _ hgs1)).trans z6))))
        try simp only [Exit.inBlock, Exit.then]
        have P1 := ((hgrow5.block H (by simp; omega) NH1.out).trans (Below.heap_alloc _ _ _ hgs1)).trans R1.out
        have f3 := heap_setCell_same w5 H 0 _ _ (.int .i64 0) P1
        have f4 := heap_setCell_same _ H 1 _ _ (.int .i64 0) f3
        have hbf5 : Below H w w5 := ((hbf.alloc (by omega) _)).grown hgrow5 (by simp; omega) (fun j hj => by have := (hown1.lt _ hj).1; omega)
        have hgH : (Value.slice (some ⟨g2, 0, none⟩) (d.length + 1 + 1) cap2).ownBlock ≠ some H := by have := (hown5.lt g2 rfl).1; simp [Value.ownBlock]; omega
        have hof := Heap.own_base (own_set (own_set hown5 hgH 0 (.int .i64 0)) hgH 1 (.int .i64 0)) (show H ≤ H + 1 by omega)
        refine bodyPost_ret (res_r f4 rfl rfl) rfl ?_
        unfold TokensPost
        rw [HF.out]
        refine ⟨by rw [← HH.out]; exact (hbf5.setCell (by simp) _).setCell (by simp) _, _, rfl, ?_⟩
        rw [cellsT_snoc (d ++ [Tok.mk 6 [59] s.size]) 7 [] s.size, List.length_append, List.length_append, ← HH.out]
        exact hof
    have hget := RfA.get_at hlt
    have j0 : (0 : Int) ≤ (k : Int) := by omega
    have j1 : (k : Int) < (s.size : Int) := by omega
    by_cases hws : byteAt s k = 9 ∨ byteAt s k = 13 ∨ byteAt s k = 32
    · have hst := sc_ws (last := d.getLast?) hlt hws
      have HST := Lib.hid hst; clear hst
      have key : ∀ v, byteAt s k = v → ∀ u : Int, (((s[k].toNat : Nat) : Int) == u) = ((v : Int) == u) := fun v hv u => by rw [← hget, hv]
      rcases hws with hv | hv | hv
      all_goals
        have e9 := key _ hv 9
        have e13 := key _ hv 13
        have e32 := key _ hv 32
        simp only [show ((9 : Nat) : Int) = 9 from rfl, show ((13 : Nat) : Int) = 13 from rfl, show ((32 : Nat) : Int) = 32 from rfl, Int.reduceBEq] at e9 e13 e32
        clear key hv hget
        go_wp2
        go_roundg (s.size - (k + 1))
        case measure => omega
        case rel => exact ⟨k + 1, l, d, by omega, rfl, rfl, by go_num, by rw [HS.out, HST.out], by omega, hown, R2.out, hgs, hbel⟩
    have e9 : (((s[k].toNat : Nat) : Int) == 9) = false := by rw [← hget]; exact beq_eq_false_iff_ne.2 (by omega)
    have e13 : (((s[k].toNat : Nat) : Int) == 13) = false := by rw [← hget]; exact beq_eq_false_iff_ne.2 (by omega)
    have e32 : (((s[k].toNat : Nat) : Int) == 32) = false := by rw [← hget]; exact beq_eq_false_iff_ne.2 (by omega)
    by_cases h10 : byteAt s k = 10
    · have e10 : (((s[k].toNat : Nat) : Int) == 10) = true := by rw [← hget, h10]; rfl
      cases he : endsS d.getLast? with
      | false =>
        have HST := Lib.hid (sc_nl_f (last := d.getLast?) hlt h10 he)
        have HE := Lib.hid he; clear he hget h10 hws
        go_wp2_with (go_at_call 21; (with_reducible refine (ends_is hown hdm HE.out).mono ?_); rintro e w2 ⟨rfl, hb2⟩)
        go_roundg (s.size - (k + 1))
        case measure => omega
        case rel => exact ⟨k + 1, l, d, by omega, rfl, rfl, by go_num, by rw [HS.out, HST.out], by omega, own_new hown hb2, (hb2.block H hgs).trans R2.out, Nat.lt_of_lt_of_le hgs hb2.size, hbel.trans (hb2.mono (Nat.le_of_lt hgs))⟩
      | true =>
        have HST := Lib.hid (sc_nl_t (d := d) hlt h10 he)
        have HE := Lib.hid he; clear he hget h10 hws
        go_wp2_with (first | (go_at_call 21; (with_reducible refine (ends_is hown hdm HE.out).mono ?_); rintro e w2 ⟨rfl, hb2⟩; have hown2 := own_new hown hb2; have R3 := (hb2.block H hgs).trans R2.out; have hgs2 := Nat.lt_of_lt_of_le hgs hb2.size; have hbel2 := hbel.trans (hb2.mono (Nat.le_of_lt hgs)); obtain ⟨z3, z4, z5, z6⟩ := cells2 R3; have R3 := Lib.hid R3) | (at_builtin; go_must (refine wpList_append_lies _ rfl _ _ _ rfl (H + 1) 50 ti0 _ 3 32 Tryz.underlying23 hi0 hz0 hz1 hz2 rfl (by omega) l d.length (cellsT d) rfl (hown2.alloc _) ⟨w2.heap.size, 0, none⟩ 1 1 [.int .u8 6, .string { data := #[59] }, .int .i64 (k : Int)] rfl rfl (by exact World.news_of_block (cs := #[.int .u8 6, .string { data := #[59] }, .int .i64 (k : Int)]) (t := 50) (fr := (0, 0)) (heap_alloc_new w2 _)) (by simp [Value.oneCell']) (by omega) (by unfold maxLen; omega) (by omega) (by simp; omega) (w2.heap.size + 1) (by simp) ?_; intro gg cap w1 hown1 hgrow hat hlt2)))
        go_roundg (s.size - (k + 1))
        case measure => omega
        case rel =>
          have hs3 := hgrow.size
          refine ⟨k + 1, _, d ++ [⟨6, [59], k⟩], by omega, rfl, rfl, by go_num, by rw [HS.out, HST.out], by simp; omega, ?_, ((hgrow.block H (by simp; omega) NH.out).trans (Below.heap_alloc _ _ _ hgs2)).trans R3.out, by simp at hs3; omega, ((hbel2.alloc (by omega) _)).grown hgrow (by simp; omega) (fun j hj => by have := (hown.lt _ hj).1; omega)⟩
          rw [cellsT_snoc, List.length_append]; exact hown1
    have e10 : (((s[k].toNat : Nat) : Int) == 10) = false := by rw [← hget]; exact beq_eq_false_iff_ne.2 (by omega)
    have hcr := com_rest s k
    cases hcm : comL (rest s k) with
    | true =>
      rw [hcm] at hcr
      have h47 : byteAt s k = 47 ∧ byteAt s (k + 1) = 47 := by simpa using hcr.symm
      have hlt1 : k + 1 < s.size := by
        rcases Nat.lt_or_ge (k + 1) s.size with h | h
        · exact h
        · have := h47.2; rw [(rest_nil h).2] at this; omega
      have hget1 := RfA.get_at hlt1
      have e47 : (((s[k].toNat : Nat) : Int) == 47) = true := by rw [← hget, h47.1]; rfl
      have e47' : (((s[k + 1].toNat : Nat) : Int) == 47) = true := by rw [← hget1, h47.2]; rfl
      have k1 : (k : Int) + 1 < (s.size : Int) := by omega
      have HST := Lib.hid (sc_com (last := d.getLast?) hlt hcm)
      have hov := overL_le (rest s k)
      rw [rest_len] at hov
      have hop := overL_pos _ hcm
      have HOV := Lib.hid hov; have HOP := Lib.hid hop
      clear hcr h47 hget hget1 hcm hws h10 hov hop
      go_wp2
      obtain ⟨wo, rfl⟩ : ∃ wo : World, wo = wr := ⟨_, rfl⟩
      go_loopg [5] (s.size - k) (fun gk t5 w2 => ∃ j : Nat, k ≤ j ∧ j ≤ s.size ∧ gk = s.size - j ∧ t5 = .int .i64 (j : Int) ∧ j + overL (rest s j) = k + overL (rest s k) ∧ w2 = wo)
      case atStart => exact ⟨k, by omega, by omega, rfl, rfl, rfl, rfl⟩
      case round =>
        obtain ⟨j, hj1, hj2, rfl, rfl, hjo, rfl⟩ := hrel
        have HJO := Lib.hid hjo; clear hjo
        by_cases hjl : j < s.size
        · have hgj := RfA.get_at hjl
          have i0 : (0 : Int) ≤ (j : Int) := by omega
          have i1 : (j : Int) < (s.size : Int) := by omega
          by_cases hj10 : byteAt s j = 10
          · have f10 : (((s[j].toNat : Nat) : Int) != 10) = false := by rw [← hgj, hj10]; rfl
            have HZ := Lib.hid (show j = k + overL (rest s k) by
              have h0 : overL (rest s j) = 0 := by
                obtain ⟨c, h1, h2⟩ := rest_cons hjl
                rw [h1, overL, if_pos (by omega)]
              have := HJO.out; omega)
            clear hj10 hgj
            go_wp2
            go_roundg (s.size - j)
            case measure => have := HOP.out; have := HZ.out; omega
            case rel => exact ⟨j, l, d, by omega, rfl, rfl, rfl, by rw [HS.out, HST.out, ← HZ.out], by omega, hown, R2.out, hgs, hbel⟩
          · have f10 : (((s[j].toNat : Nat) : Int) != 10) = true := by rw [← hgj]; exact bne_iff_ne.2 (by omega)
            have HZ := Lib.hid (show overL (rest s j) = overL (rest s (j + 1)) + 1 by
              obtain ⟨c, h1, h2⟩ := rest_cons hjl
              rw [h1, overL, if_neg (by omega)])
            clear hj10 hgj
            go_wp2
            go_roundg (s.size - (j + 1))
            case measure => omega
            case rel => exact ⟨j + 1, by omega, by omega, rfl, by go_num, by have := HJO.out; have := HZ.out; omega, rfl⟩
        · obtain rfl : j = s.size := by omega
          have HZ := Lib.hid (show s.size = k + overL (rest s k) by
            have h0 : overL (rest s s.size) = 0 := by rw [(rest_nil (Nat.le_refl _)).1]; rfl
            have := HJO.out; omega)
          go_wp2
          go_roundg (s.size - s.size)
          case measure => omega
          case rel => exact ⟨s.size, l, d, by omega, rfl, rfl, rfl, by rw [HS.out, HST.out, ← HZ.out], by omega, hown, R2.out, hgs, hbel⟩
    | false =>
      rw [hcm] at hcr
      have HST := Lib.hid (sc_tok (d := d) hlt (by omega) h10 (by omega) (by omega) hcm)
      have hcase : (((s[k].toNat : Nat) : Int) == 47) = false ∨ ((((s[k].toNat : Nat) : Int) == 47) = true ∧ ((¬ ((k : Int) + 1 < (s.size : Int))) ∨ ∃ h : k + 1 < s.size, (((s[k + 1].toNat : Nat) : Int) == 47) = false)) := by
        by_cases h1 : byteAt s k = 47
        · refine .inr ⟨by rw [← hget, h1]; rfl, ?_⟩
          by_cases h2 : k + 1 < s.size
          · refine .inr ⟨h2, ?_⟩
            rw [← RfA.get_at h2]
            refine beq_eq_false_iff_ne.2 fun e => ?_
            rw [decide_eq_true h1, decide_eq_true (show byteAt s (k + 1) = 47 by omega)] at hcr
            cases hcr
          · exact .inl (by omega)
        · exact .inl (by rw [← hget]; exact beq_eq_false_iff_ne.2 (by omega))
      clear hcr hget hcm hws h10
      cases htk : tokS (rest s k) with
      | good kk t n =>
        have hn := tokS_le _ _ _ _ htk
        rw [rest_len] at hn
        have HN := Lib.hid hn
        have HT := Lib.hid htk; clear htk
        have hn1 : k + n ≤ s.size := by omega
        have hn2 : 1 ≤ n := by omega
        clear hn
        rcases hcase with e47 | ⟨e47, hcase⟩
        rotate_left
        rcases hcase with k1 | ⟨k1, e47'⟩
        rotate_left
        have k1 : (k : Int) + 1 < (s.size : Int) := by omega
        all_goals
          go_wp2_with (first | (go_at_call 22; go_must ((with_reducible refine (token_ok (by omega) hlt HT.out).mono ?_)); rintro e w2 ⟨rfl, hb2⟩; have ho2 := (own_new hown hb2).alloc (.cells #[.int .u8 (kk : Int), .string (bs t), .int .i64 (k : Int)] 50); have hg2 := hb2.size) | (at_builtin; go_must (refine wpList_append_lies _ rfl _ _ _ rfl (H + 1) 50 ti0 _ 3 32 Tryz.underlying23 hi0 hz0 hz1 hz2 rfl (by omega) l d.length (cellsT d) rfl (ho2.alloc _) ⟨w2.heap.size + 1, 0, none⟩ 1 1 [.int .u8 (kk : Int), .string (bs t), .int .i64 (k : Int)] rfl rfl (by exact World.news_of_block (cs := #[.int .u8 (kk : Int), .string (bs t), .int .i64 (k : Int)]) (t := 50) (fr := (0, 0)) (by have := heap_alloc_new (w2.alloc (.cells #[.int .u8 (kk : Int), .string (bs t), .int .i64 (k : Int)] 50)) (.cells #[.int .u8 (kk : Int), .string (bs t), .int .i64 (k : Int)] 50); simpa using this)) (by simp [Value.oneCell']) (by omega) (by unfold maxLen; omega) (by omega) (by simp; omega) (w2.heap.size + 1 + 1) (by simp) ?_; intro gg cap w1 hown1 hgrow hat hlt2)))
          go_roundg (s.size - (k + n))
          case measure => omega
          case rel =>
            have hb3 : Below H w ((w2.alloc (.cells #[.int .u8 (kk : Int), .string (bs t), .int .i64 (k : Int)] 50)).alloc (.cells #[.int .u8 (kk : Int), .string (bs t), .int .i64 (k : Int)] 50)) := ((hbel.trans (hb2.mono (by omega))).alloc (by omega) _).alloc (by simp; omega) _
            have hr3 : ((w2.alloc (.cells #[.int .u8 (kk : Int), .string (bs t), .int .i64 (k : Int)] 50)).alloc (.cells #[.int .u8 (kk : Int), .string (bs t), .int .i64 (k : Int)] 50)).heap[H]? = some (.cells #[.int .i64 0, .int .i64 0] 26 (0, 0)) :=
              ((Below.heap_alloc _ _ _ (by simp; omega)).trans (Below.heap_alloc _ _ _ (by omega))).trans ((hb2.block H hgs).trans R2.out)
            have hs3 := hgrow.size
            refine ⟨k + n, _, d ++ [⟨kk, t, k⟩], by omega, rfl, rfl, rfl, by rw [HS.out, HST.out, HT.out], by simp; omega, ?_, (hgrow.block H (by simp; omega) NH.out).trans hr3, by simp at hs3; omega, hb3.grown hgrow (by simp; omega) (fun j hj => by have := (hown.lt _ hj).1; omega)⟩
            rw [cellsT_snoc, List.length_append]; exact hown1
      | bad x =>
        have hx0 : 0 < x := by rcases tokS_bad _ _ htk with h | h <;> omega
        have hne0 : ((x : Int) != 0) = true := bne_iff_ne.2 (by omega)
        have hne1 : ((x : Int) == 0) = false := beq_eq_false_iff_ne.2 (by omega)
        have HT := Lib.hid htk; clear htk
        have hfin : toksS s.data.toList = .bad x k := by
          unfold toksS
          rw [if_neg (by simp; omega), ← rest_zero, HS.out, HST.out, HT.out]
        have HF := Lib.hid hfin; clear hfin
        rcases hcase with e47 | ⟨e47, hcase⟩
        rotate_left
        rcases hcase with k1 | ⟨k1, e47'⟩
        rotate_left
        have k1 : (k : Int) + 1 < (s.size : Int) := by omega
        all_goals
          go_wp2_with (go_at_call 22; go_must ((with_reducible refine (token_no (by omega) hlt HT.out).mono ?_)); rintro e w2 ⟨rfl, hb2⟩; have R3 := (hb2.block H hgs).trans R2.out; have R4 := (Below.heap_alloc w2 (.cells #[.int .u8 0, .string { data := #[] }, .int .i64 0] 50) H (by have := hb2.size; omega)).trans R3; obtain ⟨z3, z4, z5, z6⟩ := cells2 R4; have hg2 := hb2.size; have R5 := Lib.hid R4; clear R4 R3; have hb3 := (hbel.trans (hb2.mono (by omega))).alloc (by omega) (.cells #[.int .u8 0, .string { data := #[] }, .int .i64 0] 50); have hnb : w2.heap.size ≠ H := (by omega))
          try simp only [Exit.inBlock, Exit.then]
          have f3 := heap_setCell_same _ H 0 _ _ (.int .i64 (x : Int)) R5.out
          have f4 := heap_setCell_same _ H 1 _ _ (.int .i64 (k : Int)) f3
          refine bodyPost_ret (res_r f4 rfl rfl) rfl ?_
          unfold TokensPost
          rw [HF.out]
          exact ⟨by rw [← HH.out]; exact (hb3.setCell (Nat.le_refl _) _).setCell (Nat.le_refl _) _, rfl⟩
/-- THE DOCUMENT's SCANNER: it tells what the scanner tells -/
theorem tokens_r {s : ByteArray} {w : World} (hs : s.size ≤ 140737488351232) : Calls Tryz.prog 7 #[.string s] w (TokensPost s w) := by
  by_cases h : s.size ≤ 65536
  · exact tokens_short_r h
  · exact tokens_long_r hs (by omega)
end Go.Proofs.YtopbhopblpfjpaaGreatDoor.RfE
