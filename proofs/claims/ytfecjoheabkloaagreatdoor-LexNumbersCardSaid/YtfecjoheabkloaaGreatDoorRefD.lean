/- The document's lexer, walked whole: it tells of any source what the lexer tells. -/
import Derived.Test.YtfecjoheabkloaaGreatDoorRefS
import Derived.Test.YtfecjoheabkloaaGreatDoorHeap
namespace Go.Proofs.YtfecjoheabkloaaGreatDoor.RefD
open Go.RowKit Go.Proofs.YtfecjoheabkloaaGreatDoor Go.Proofs.YtfecjoheabkloaaGreatDoor.Lexy Go.Proofs.YtfecjoheabkloaaGreatDoor.LexA Go.Proofs.YtfecjoheabkloaaGreatDoor.LexB Go.Proofs.YtfecjoheabkloaaGreatDoor.LexC Go.Proofs.YtfecjoheabkloaaGreatDoor.LexD Go.Proofs.YtfecjoheabkloaaGreatDoor.LexE Go.Proofs.YtfecjoheabkloaaGreatDoor.LexF Go.Proofs.YtfecjoheabkloaaGreatDoor.RefA Go.Proofs.YtfecjoheabkloaaGreatDoor.RefB Go.Proofs.YtfecjoheabkloaaGreatDoor.RefC

/-- the two results -/
theorem res_r {w : World} {q : Nat} {v f0 f1 : Value} {tmps : Array Value} (hq : w.heap[q]? = some (.cells #[f0, f1] 32 (0, 0)))
    (h2 : tmps[2]?.getD undef = v) (h3 : tmps[3]?.getD undef = .pointer (some ⟨q, 0, none⟩)) : (results Tryz.f10 tmps).run Tryz.prog w = .ok (.tuple #[v, .agg #[f0, f1]]) w := by
  obtain ⟨b1, b2, _, _⟩ := cells2 hq
  simp [results, Tryz.results10, go_sem, h2, h3, b1, b2]
theorem tokens_long_r {s : ByteArray} {w : World} (hs : s.size ≤ 140737488351232) (hl : 65536 < s.size) :
    Calls Tryz.prog 10 #[.string s] w (TokensPost s w) := by
  have ht : toks s.data.toList = .bad 3 0 := by unfold toks; rw [if_pos (by simpa using hl)]
  have HT := Lib.hid ht; clear ht
  have hb := (Below.refl w.heap.size w).alloc (Nat.le_refl _) (.cells #[.int .i64 0, .int .i64 0] 32)
  go_enter Tryz.func10, Tryz.ntmps10
  go_wp2
  try simp only [Exit.inBlock, Exit.then]
  refine bodyPost_ret (res_r (heap_alloc_new w _) rfl rfl) rfl ?_
  unfold TokensPost
  rw [HT.out]
  exact ⟨(Below.refl _ _).alloc (Nat.le_refl _) _, rfl⟩
theorem token_r_ok {s : ByteArray} {a k n : Nat} {t : List UInt8} {w : World} (hs : s.size ≤ 1000000) (ha : a < s.size) (h : tokL (rest s a) = .good k t n) :
    Calls Tryz.prog 31 #[.string s, .int .i64 (a : Int)] w fun e w' => e = .returned (.tuple #[.agg #[.int .u8 (k : Int), .string (bs t), .int .i64 (a : Int)], .int .i64 ((a + n : Nat) : Int), .int .i64 0]) ∧ Below w.heap.size w w' :=
  (token_r hs ha).mono fun e w' hp => by unfold TokR at hp; rw [h] at hp; exact ⟨hp.2, hp.1⟩
theorem token_r_no {s : ByteArray} {a x : Nat} {w : World} (hs : s.size ≤ 1000000) (ha : a < s.size) (h : tokL (rest s a) = .bad x) :
    Calls Tryz.prog 31 #[.string s, .int .i64 (a : Int)] w fun e w' => ∃ (z0 : Int) (z1 : ByteArray) (z2 y : Int), e = .returned (.tuple #[.agg #[.int .u8 z0, .string z1, .int .i64 z2], .int .i64 y, .int .i64 (x : Int)]) ∧ Below w.heap.size w w' :=
  (token_r hs ha).mono fun e w' hp => by
    unfold TokR at hp; rw [h] at hp
    obtain ⟨hb, z0, z1, z2, y, he⟩ := hp
    exact ⟨z0, z1, z2, y, he, hb⟩
theorem tokL_bad_pos {l : List UInt8} {x : Nat} (h : tokL l = .bad x) : 0 < x := by
  cases l with
  | nil => simp [tokL] at h; omega
  | cons c r =>
    simp only [tokL] at h
    repeat' (split at h)
    all_goals first | (cases h; done) | (cases h; omega)

set_option maxRecDepth 100000 in
set_option maxHeartbeats 4000000 in
theorem tokens_short_r {s : ByteArray} {w : World} (hs : s.size ≤ 65536) :
    Calls Tryz.prog 10 #[.string s] w (TokensPost s w) := by
  obtain ⟨ti0, hi0, hz0, hz1, hz2⟩ := info_parts tokInfo
  go_enter Tryz.func10, Tryz.ntmps10
  go_wp2
  have hW1 : (w.alloc (.cells #[.int .i64 0, .int .i64 0] 32)).heap[w.heap.size]? = some (.cells #[.int .i64 0, .int .i64 0] 32 (0, 0)) := heap_alloc_new w _
  have hW2 := (Below.refl w.heap.size w).alloc (Nat.le_refl _) (.cells #[.int .i64 0, .int .i64 0] 32)
  have hW3 : w.heap.size < (w.alloc (.cells #[.int .i64 0, .int .i64 0] 32)).heap.size := by simp
  generalize w.alloc (.cells #[.int .i64 0, .int .i64 0] 32) = W at *
  obtain ⟨H, hH⟩ : ∃ H, H = w.heap.size := ⟨_, rfl⟩
  rw [← hH] at hW1 hW2 hW3 ⊢
  have HH := Lib.hid hH; clear hH
  go_loopg [4, 5] s.size (fun gk t4 t5 wr => ∃ (k : Nat) (l : Value) (d : List Tok), k ≤ s.size ∧ gk = s.size - k ∧ l = t4 ∧ t5 = .int .i64 (k : Int) ∧ lexA (rest s 0) 0 0 = app d (lexA (rest s k) 0 k) ∧ d.length ≤ k ∧ wr.ownsRow (H + 1) 57 3 l d.length (cellsT d) ∧
    wr.heap[H]? = some (.cells #[.int .i64 0, .int .i64 0] 32 (0, 0)) ∧ H < wr.heap.size ∧ Below H w wr)
  case atStart => exact ⟨0, .slice none 0 0, [], by omega, by omega, rfl, rfl, by simp [app]; cases lexA (rest s 0) 0 0 <;> rfl, by simp, World.ownsRow_nil _ _ _ _, hW1, hW3, hW2⟩
  case round =>
    clear hW1 hW2 hW3
    obtain ⟨k, l, d, hk2, rfl, rfl, rfl, hsp, hdk, hown, hr2, hgs, hbel⟩ := hrel
    have HS := Lib.hid hsp; clear hsp
    have R2 := Lib.hid hr2
    obtain ⟨z3, z4, z5, z6⟩ := cells2 hr2
    clear hr2
    by_cases hlt : k < s.size
    case neg =>
      obtain rfl : k = s.size := by omega
      have hfin : toks s.data.toList = .good (d ++ [⟨7, [], s.size⟩]) := by
        unfold toks
        rw [if_neg (by simp; omega), ← rest_zero, HS.out, (rest_nil (Nat.le_refl _)).1]; rfl
      have HF := Lib.hid hfin; clear hfin
      have nH : ¬ some H = l.ownBlock := fun e => by have := (hown.lt _ e.symm).1; omega
      go_wp2_with (at_builtin; go_must (refine wpList_append_lies _ rfl _ _ _ rfl (H + 1) 57 ti0 _ 3 32 Tryz.underlying29 hi0 hz0 hz1 hz2 rfl (by omega) l d.length (cellsT d) rfl (hown.alloc _) ⟨wr.heap.size, 0, none⟩ 1 1 [.int .u8 7, .string { data := #[] }, .int .i64 (s.size : Int)] rfl rfl (by exact World.news_of_block (cs := #[.int .u8 7, .string { data := #[] }, .int .i64 (s.size : Int)]) (t := 57) (fr := (0, 0)) (heap_alloc_new wr _)) (by simp [Value.oneCell']) (by omega) (by unfold maxLen; omega) (by omega) (by simp; omega) (wr.heap.size + 1) (by simp) ?_; intro gg cap w1 hown1 hgrow hat hlt2; have a3 : w1.cell? ⟨H, 0, none⟩ = some (.int .i64 0) := (by rw [hgrow.cell_far _ (by simp; omega) nH]; exact (World.cell?_alloc_past _ _ _ hgs).trans z3); have a4 : w1.cell? ⟨H, 1, none⟩ = some (.int .i64 0) := (by rw [hgrow.cell_far _ (by simp; omega) nH]; exact (World.cell?_alloc_past _ _ _ hgs).trans z4); have a5 : w1.frozen? ⟨H, 0, none⟩ = false := (by rw [hgrow.frozen_far _ (by simp; omega) nH]; exact (World.frozen?_of_block (Below.heap_alloc _ _ _ hgs)).trans z5); have a6 : w1.frozen? ⟨H, 1, none⟩ = false := (by rw [hgrow.frozen_far _ (by simp; omega) nH]; exact (World.frozen?_of_block (Below.heap_alloc _ _ _ hgs)).trans z6)))
      try simp only [Exit.inBlock, Exit.then]
      have R1 := ((hgrow.block H (by simp; omega) nH).trans (Below.heap_alloc _ _ _ hgs)).trans R2.out
      have f3 := heap_setCell_same w1 H 0 _ _ (.int .i64 0) R1
      have f4 := heap_setCell_same _ H 1 _ _ (.int .i64 0) f3
      have hbf : Below H w w1 := ((hbel.alloc (by omega) _)).grown hgrow (by simp; omega) (fun j hj => by have := (hown.lt _ hj).1; omega)
      have hgH : (Value.slice (some ⟨gg, 0, none⟩) (d.length + 1) cap).ownBlock ≠ some H := by have := (hown1.lt gg rfl).1; simp [Value.ownBlock]; omega
      have hof := own_base (own_set (own_set hown1 hgH 0 (.int .i64 0)) hgH 1 (.int .i64 0)) (show H ≤ H + 1 by omega)
      refine bodyPost_ret (res_r f4 rfl rfl) rfl ?_
      unfold TokensPost
      rw [HF.out]
      refine ⟨by rw [← HH.out]; exact (hbf.setCell (by simp) _).setCell (by simp) _, _, rfl, ?_⟩
      rw [cellsT_snoc, List.length_append, ← HH.out]
      exact hof
    have hget := RefA.get_at hlt
    have j0 : (0 : Int) ≤ (k : Int) := by omega
    have j1 : (k : Int) < (s.size : Int) := by omega
    have hne : rest s k ≠ [] := by obtain ⟨c, h1, _⟩ := rest_cons hlt; rw [h1]; simp
    by_cases hws : wsN (byteAt s k) = true
    · have hor : byteAt s k = 9 ∨ byteAt s k = 10 ∨ byteAt s k = 13 ∨ byteAt s k = 32 := by simp [wsN] at hws; omega
      have HWS := Lib.hid hws; clear hws
      have key : ∀ v, byteAt s k = v → ∀ u : Int, (((s[k].toNat : Nat) : Int) == u) = ((v : Int) == u) := fun v hv u => by rw [← hget, hv]
      rcases hor with hv | hv | hv | hv
      all_goals
        have e9 := key _ hv 9
        have e10 := key _ hv 10
        have e13 := key _ hv 13
        have e32 := key _ hv 32
        simp only [show ((9 : Nat) : Int) = 9 from rfl, show ((10 : Nat) : Int) = 10 from rfl, show ((13 : Nat) : Int) = 13 from rfl, show ((32 : Nat) : Int) = 32 from rfl, Int.reduceBEq] at e9 e10 e13 e32
        clear key hv hget
        go_wp2
        go_roundg (s.size - (k + 1))
        case measure => omega
        case rel => exact ⟨k + 1, l, d, by omega, rfl, rfl, by go_num, by rw [HS.out, lexA_ws _ _ hne (by rw [head_rest0]; exact HWS.out), rest_drop], by omega, hown, R2.out, hgs, hbel⟩
    · have e9 : (((s[k].toNat : Nat) : Int) == 9) = false := by rw [← hget]; exact beq_eq_false_iff_ne.2 (by simp [wsN] at hws; omega)
      have e10 : (((s[k].toNat : Nat) : Int) == 10) = false := by rw [← hget]; exact beq_eq_false_iff_ne.2 (by simp [wsN] at hws; omega)
      have e13 : (((s[k].toNat : Nat) : Int) == 13) = false := by rw [← hget]; exact beq_eq_false_iff_ne.2 (by simp [wsN] at hws; omega)
      have e32 : (((s[k].toNat : Nat) : Int) == 32) = false := by rw [← hget]; exact beq_eq_false_iff_ne.2 (by simp [wsN] at hws; omega)
      have HWS := Lib.hid (show wsN (byteAt s k) = false by simpa using hws); clear hws hget
      cases hcm : comL (rest s k) with
      | true =>
        have hov := over_pos hcm
        have hlx := lexA_com (rest s k) k (by rw [head_rest0]; exact HWS.out) hcm
        rw [rest_drop] at hlx
        have HL := Lib.hid hlx; clear hlx
        have HC := Lib.hid hcm; clear hcm
        go_wp2_with (first | (go_at_call 29; refine (comment_t (by omega) hlt HC.out).mono ?_; rintro e w' ⟨rfl, rfl⟩) | (go_at_call 30; refine (over_r (by omega) (Nat.le_of_lt hlt)).mono ?_; rintro e w' ⟨rfl, rfl⟩))
        go_roundg (s.size - (k + overL (rest s k)))
        case measure => omega
        case rel => exact ⟨k + overL (rest s k), l, d, by omega, rfl, rfl, by go_num, by rw [HS.out, HL.out], by omega, hown, R2.out, hgs, hbel⟩
      | false =>
        have hlx := lexA_tok (rest s k) k hne (by rw [head_rest0]; exact HWS.out) hcm
        have HL := Lib.hid hlx; clear hlx
        have HC := Lib.hid hcm; clear hcm
        cases htk : tokL (rest s k) with
        | good kk t n =>
          have hn := tokL_le _ _ _ _ htk
          rw [rest_len] at hn
          have HT := Lib.hid htk; clear htk
          go_wp2_with (first | (go_at_call 29; refine (comment_f (by omega) hlt HC.out).mono ?_; rintro e w' ⟨rfl, rfl⟩) | (go_at_call 31; go_must ((with_reducible refine (token_r_ok (by omega) hlt HT.out).mono ?_)); rintro e w2 ⟨rfl, hb2⟩; have ho2 := (Heap.own_new hown hb2).alloc (.cells #[.int .u8 (kk : Int), .string (bs t), .int .i64 (k : Int)] 57); have hg2 := hb2.size) | (at_builtin; go_must (refine wpList_append_lies _ rfl _ _ _ rfl (H + 1) 57 ti0 _ 3 32 Tryz.underlying29 hi0 hz0 hz1 hz2 rfl (by omega) l d.length (cellsT d) rfl (ho2.alloc _) ⟨w2.heap.size + 1, 0, none⟩ 1 1 [.int .u8 (kk : Int), .string (bs t), .int .i64 (k : Int)] rfl rfl (by exact World.news_of_block (cs := #[.int .u8 (kk : Int), .string (bs t), .int .i64 (k : Int)]) (t := 57) (fr := (0, 0)) (by have := heap_alloc_new (w2.alloc (.cells #[.int .u8 (kk : Int), .string (bs t), .int .i64 (k : Int)] 57)) (.cells #[.int .u8 (kk : Int), .string (bs t), .int .i64 (k : Int)] 57); simpa using this)) (by simp [Value.oneCell']) (by omega) (by unfold maxLen; omega) (by omega) (by simp; omega) (w2.heap.size + 1 + 1) (by simp) ?_; intro gg cap w1 hown1 hgrow hat hlt2)))
          go_roundg (s.size - (k + n))
          case measure => omega
          case rel =>
            have hb3 : Below H w ((w2.alloc (.cells #[.int .u8 (kk : Int), .string (bs t), .int .i64 (k : Int)] 57)).alloc (.cells #[.int .u8 (kk : Int), .string (bs t), .int .i64 (k : Int)] 57)) := ((hbel.trans (hb2.mono (by omega))).alloc (by omega) _).alloc (by simp; omega) _
            have hr3 : ((w2.alloc (.cells #[.int .u8 (kk : Int), .string (bs t), .int .i64 (k : Int)] 57)).alloc (.cells #[.int .u8 (kk : Int), .string (bs t), .int .i64 (k : Int)] 57)).heap[H]? = some (.cells #[.int .i64 0, .int .i64 0] 32 (0, 0)) :=
              ((Below.heap_alloc _ _ _ (by simp; omega)).trans (Below.heap_alloc _ _ _ (by omega))).trans ((hb2.block H hgs).trans R2.out)
            have nH : ¬ some H = l.ownBlock := fun e => by have := (hown.lt _ e.symm).1; omega
            have hs3 := hgrow.size
            refine ⟨k + n, _, d ++ [⟨kk, t, k⟩], by omega, rfl, rfl, rfl, ?_, by simp; omega, ?_, (hgrow.block H (by simp; omega) nH).trans hr3, by simp at hs3; omega, hb3.grown hgrow (by simp; omega) (fun j hj => by have := (hown.lt _ hj).1; omega)⟩
            · rw [HS.out, HL.out, HT.out]; simp only; rw [app_cons, rest_drop]
            · rw [cellsT_snoc, List.length_append]; exact hown1
        | bad x =>
          have hx0 := tokL_bad_pos htk
          have hne0 : ((x : Int) != 0) = true := bne_iff_ne.2 (by omega)
          have hne1 : ((x : Int) == 0) = false := beq_eq_false_iff_ne.2 (by omega)
          have HT := Lib.hid htk; clear htk
          have hfin : toks s.data.toList = .bad x k := by
            unfold toks
            rw [if_neg (by simp; omega), ← rest_zero, HS.out, HL.out, HT.out]; rfl
          have HF := Lib.hid hfin; clear hfin
          go_wp2_with (first | (go_at_call 29; refine (comment_f (by omega) hlt HC.out).mono ?_; rintro e w' ⟨rfl, rfl⟩) | (go_at_call 31; go_must ((with_reducible refine (token_r_no (by omega) hlt HT.out).mono ?_)); rintro e w2 ⟨y0, y1, y2, y3, rfl, hb2⟩; have R3 := (hb2.block H hgs).trans R2.out; have R4 := (Below.heap_alloc w2 (.cells #[.int .u8 y0, .string y1, .int .i64 y2] 57) H (by have := hb2.size; omega)).trans R3; obtain ⟨z3, z4, z5, z6⟩ := cells2 R4; have hg2 := hb2.size; have R5 := Lib.hid R4; clear R4 R3; have hb3 := (hbel.trans (hb2.mono (by omega))).alloc (by omega) (.cells #[.int .u8 y0, .string y1, .int .i64 y2] 57); have hnb : w2.heap.size ≠ H := (by omega)))
          try simp only [Exit.inBlock, Exit.then]
          have f3 := heap_setCell_same _ H 0 _ _ (.int .i64 (x : Int)) R5.out
          have f4 := heap_setCell_same _ H 1 _ _ (.int .i64 (k : Int)) f3
          refine bodyPost_ret (res_r f4 rfl rfl) rfl ?_
          unfold TokensPost
          rw [HF.out]
          exact ⟨by rw [← HH.out]; exact (hb3.setCell (Nat.le_refl _) _).setCell (Nat.le_refl _) _, rfl⟩
/-- THE DOCUMENT's LEXER: it tells what the lexer tells -/
theorem tokens_r {s : ByteArray} {w : World} (hs : s.size ≤ 140737488351232) : Calls Tryz.prog 10 #[.string s] w (TokensPost s w) := by
  by_cases h : s.size ≤ 65536
  · exact tokens_short_r h
  · exact tokens_long_r hs (by omega)
end Go.Proofs.YtfecjoheabkloaaGreatDoor.RefD
