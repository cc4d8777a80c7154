/- The lexer, walked whole: what it tells of any source. -/
import Derived.Test.YtghebacphjglbaaGreatLexE
namespace Go.Proofs.YtghebacphjglbaaGreat.LexF
open Go.RowKit Go.Proofs.YtghebacphjglbaaGreat.Lexy Go.Proofs.YtghebacphjglbaaGreat.LexA Go.Proofs.YtghebacphjglbaaGreat.LexB Go.Proofs.YtghebacphjglbaaGreat.LexC Go.Proofs.YtghebacphjglbaaGreat.LexD Go.Proofs.YtghebacphjglbaaGreat.LexE

/-- tokens as cells -/
def cellsT (l : List Tok) : List Value := l.flatMap fun t => [.int .u8 (t.kind : Int), .string (bs t.text), .int .i64 (t.at_ : Int)]
theorem cellsT_snoc (l : List Tok) (k : Nat) (t : List UInt8) (a : Nat) : cellsT (l ++ [⟨k, t, a⟩]) = cellsT l ++ [.int .u8 (k : Int), .string (bs t), .int .i64 (a : Int)] := by simp [cellsT]
/-- tokens ahead of others -/
def app (d : List Tok) : Res → Res
  | .bad x p => .bad x p
  | .good l => .good (d ++ l)
theorem app_cons (d : List Tok) (t : Tok) (r : Res) : app d (r.cons t) = app (d ++ [t]) r := by cases r <;> simp [Res.cons, app]

/-- what the lexer tells -/
def TokensPost (s : ByteArray) (w : World) (e : Ending) (w' : World) : Prop :=
  Below w.heap.size w w' ∧ match toks s.data.toList with
    | .bad x p => e = .returned (.tuple #[.slice none 0 0, .agg #[.int .i64 (x : Int), .int .i64 (p : Int)]])
    | .good l => ∃ v, e = .returned (.tuple #[v, .agg #[.int .i64 0, .int .i64 0]]) ∧ w'.ownsRow w.heap.size 121 3 v l.length (cellsT l)

theorem own_base {w : World} {base base' e size : Nat} {l : Value} {n : Nat} {xs : List Value} (h : w.ownsRow base e size l n xs) (hb : base' ≤ base) : w.ownsRow base' e size l n xs :=
  ⟨h.1, h.2.imp id fun ⟨g, cap, cur, hv, hg, r⟩ => ⟨g, cap, cur, hv, Nat.le_trans hb hg, r⟩⟩
theorem _root_.Go.RowKit.Below.drewN {B : Nat} {w w' : World} (h : Below B w w') (n : Nat) : Below B w (w'.drewN n) := h.trans ⟨rfl, rfl, rfl, Nat.le_refl _, fun _ _ => rfl⟩
theorem rest_zero (s : ByteArray) : rest s 0 = s.data.toList := by simp [rest]
theorem keep3 {w : World} {H g b : Nat} {O : Obj} {n0 n1 : Nat} {i : Nat} {v u : Value} (h : w.heap[H]? = some O) (h1 : H ≠ g) (h2 : H ≠ b) : ((((w.drewN n0).setCell ⟨g, 0, none⟩ v).drewN n1).setCell ⟨b, i, none⟩ u).heap[H]? = some O :=
  ((Below.heap_setCell _ _ _ _ h2).trans (Below.heap_setCell _ _ _ _ h1)).trans h
theorem keep2 {w : World} {H g : Nat} {O : Obj} {n0 n1 : Nat} {v : Value} (h : w.heap[H]? = some O) (h1 : H ≠ g) : (((w.drewN n0).setCell ⟨g, 0, none⟩ v).drewN n1).heap[H]? = some O :=
  (Below.heap_setCell _ _ _ _ h1).trans h
theorem token_ok {b B0 : Nat} {s : ByteArray} {a c k n : Nat} {t : List UInt8} {l : Value} {xs : List Value} {m : Int} {w : World} (hr : Rd w b s a l 0) (hs : s.size ≤ 1000000) (ha : a < s.size)
    (hown : w.ownsRow B0 121 3 l c xs) (hc : c ≤ 1000000) (hbB : b < B0) (hB : B0 ≤ w.heap.size) (hb0 : 0 < b) (hm : w.cell? ⟨0, 0, none⟩ = some (.int .i64 m)) (ht : tokL (rest s a) = .good k t n) :
    Calls Tryz.prog 98 #[.pointer (some ⟨b, 0, none⟩)] w fun e w' => e = .returned (.tuple #[]) ∧ ∃ l', Rd w' b s (a + n) l' 0 ∧ w'.ownsRow B0 121 3 l' (c + 1) (xs ++ [.int .u8 (k : Int), .string (bs t), .int .i64 (a : Int)]) ∧ KpB b B0 w w' :=
  (token_any hr hs ha hown hc hbB hB hb0 hm).mono fun e w' hp => by unfold TokPost at hp; rw [ht] at hp; exact hp
theorem token_no {b B0 : Nat} {s : ByteArray} {a c x : Nat} {l : Value} {xs : List Value} {m : Int} {w : World} (hr : Rd w b s a l 0) (hs : s.size ≤ 1000000) (ha : a < s.size)
    (hown : w.ownsRow B0 121 3 l c xs) (hc : c ≤ 1000000) (hbB : b < B0) (hB : B0 ≤ w.heap.size) (hb0 : 0 < b) (hm : w.cell? ⟨0, 0, none⟩ = some (.int .i64 m)) (ht : tokL (rest s a) = .bad x) :
    Calls Tryz.prog 98 #[.pointer (some ⟨b, 0, none⟩)] w fun e w' => e = .panicked (thrown x) ∧ KpB b B0 w w' :=
  (token_any hr hs ha hown hc hbB hB hb0 hm).mono fun e w' hp => by unfold TokPost at hp; rw [ht] at hp; exact hp
theorem head_rest0 (s : ByteArray) (k : Nat) : ((rest s k).headD 0).toNat = byteAt s k := by
  by_cases h : k < s.size
  · obtain ⟨c, h1, h2⟩ := rest_cons h
    rw [h1, h2]; rfl
  · rw [(rest_nil (s := s) (a := k) (by omega)).1, (rest_nil (s := s) (a := k) (by omega)).2]; rfl

/-- the two results, read out of their variables -/
theorem res_tokens {w : World} {H q : Nat} {v f0 f1 : Value} {tmps : Array Value} (hH : w.heap[H]? = some (.cells #[v] 115 (0, 0))) (hq : w.heap[q]? = some (.cells #[f0, f1] 117 (0, 0)))
    (h2 : tmps[2]?.getD undef = .pointer (some ⟨H, 0, none⟩)) (h3 : tmps[3]?.getD undef = .pointer (some ⟨q, 0, none⟩)) : (results Tryz.f85 tmps).run Tryz.prog w = .ok (.tuple #[v, .agg #[f0, f1]]) w := by
  obtain ⟨a1, _⟩ := cells1 hH
  obtain ⟨b1, b2, _, _⟩ := cells2 hq
  simp [results, Tryz.results85, go_sem, h2, h3, a1, b1, b2]

theorem tokens_long {s : ByteArray} {w : World} (hs : s.size ≤ 140737488351232) (hl : 65536 < s.size) :
    Calls Tryz.prog 85 #[.string s] w (TokensPost s w) := by
  have ht : toks s.data.toList = .bad 3 0 := by unfold toks; rw [if_pos (by simpa using hl)]
  have HT := Lib.hid ht; clear ht
  go_enter_defers Tryz.func85, Tryz.ntmps85
  go_wp2
  have hb := ((Below.refl w.heap.size w).alloc (Nat.le_refl _) (.cells #[.slice none 0 0] 115)).alloc (by simp) (.cells #[.int .i64 3, .int .i64 0] 117)
  refine ⟨.tuple #[.slice none 0 0, .agg #[.int .i64 3, .int .i64 0]], by simp [results, Tryz.results85, go_sem], hb, ?_⟩
  rw [HT.out]; rfl

set_option maxRecDepth 100000 in
set_option maxHeartbeats 4000000 in
theorem tokens_short {s : ByteArray} {w : World} {m : Int} (hs : s.size ≤ 65536) (hm : w.cell? ⟨0, 0, none⟩ = some (.int .i64 m)) :
    Calls Tryz.prog 85 #[.string s] w (TokensPost s w) := by
  have hmf : ∀ (fn : Fn) (first cap : Array Value) (w : World), (Instr.makeFunc fn first cap).run Tryz.prog w = .ok (.func fn first cap) w := fun _ _ _ _ => rfl
  go_enter_defers Tryz.func85, Tryz.ntmps85
  go_wp2_with fail
  have hW1 : ((((w.alloc (.cells #[.slice none 0 0] 115)).alloc (.cells #[.int .i64 0, .int .i64 0] 117)).alloc (.cells #[.string s, .int .i64 0, .slice none 0 0, .int .i64 0] 137)).alloc (.cells #[.int .i64 0] 3)).heap[w.heap.size]? = some (.cells #[.slice none 0 0] 115 (0, 0)) := by
    rw [Below.heap_alloc _ _ _ (by simp <;> omega), Below.heap_alloc _ _ _ (by simp <;> omega), Below.heap_alloc _ _ _ (by simp <;> omega)]; exact heap_alloc_new w _
  have hW2 : ((((w.alloc (.cells #[.slice none 0 0] 115)).alloc (.cells #[.int .i64 0, .int .i64 0] 117)).alloc (.cells #[.string s, .int .i64 0, .slice none 0 0, .int .i64 0] 137)).alloc (.cells #[.int .i64 0] 3)).heap[w.heap.size + 1]? = some (.cells #[.int .i64 0, .int .i64 0] 117 (0, 0)) := by
    rw [Below.heap_alloc _ _ _ (by simp <;> omega), Below.heap_alloc _ _ _ (by simp <;> omega)]
    have := heap_alloc_new (w.alloc (.cells #[.slice none 0 0] 115)) (.cells #[.int .i64 0, .int .i64 0] 117)
    simpa using this
  have hW3 : Rd ((((w.alloc (.cells #[.slice none 0 0] 115)).alloc (.cells #[.int .i64 0, .int .i64 0] 117)).alloc (.cells #[.string s, .int .i64 0, .slice none 0 0, .int .i64 0] 137)).alloc (.cells #[.int .i64 0] 3)) (w.heap.size + 1 + 1) s 0 (.slice none 0 0) 0 := by
    show ((((w.alloc (.cells #[.slice none 0 0] 115)).alloc (.cells #[.int .i64 0, .int .i64 0] 117)).alloc (.cells #[.string s, .int .i64 0, .slice none 0 0, .int .i64 0] 137)).alloc (.cells #[.int .i64 0] 3)).heap[w.heap.size + 1 + 1]? = _
    rw [Below.heap_alloc _ _ _ (by simp)]
    have := heap_alloc_new ((w.alloc (.cells #[.slice none 0 0] 115)).alloc (.cells #[.int .i64 0, .int .i64 0] 117)) (.cells #[.string s, .int .i64 0, .slice none 0 0, .int .i64 0] 137)
    simpa using this
  have hW4 : ((((w.alloc (.cells #[.slice none 0 0] 115)).alloc (.cells #[.int .i64 0, .int .i64 0] 117)).alloc (.cells #[.string s, .int .i64 0, .slice none 0 0, .int .i64 0] 137)).alloc (.cells #[.int .i64 0] 3)).heap[w.heap.size + 1 + 1 + 1]? = some (.cells #[.int .i64 0] 3 (0, 0)) := by
    have := heap_alloc_new (((w.alloc (.cells #[.slice none 0 0] 115)).alloc (.cells #[.int .i64 0, .int .i64 0] 117)).alloc (.cells #[.string s, .int .i64 0, .slice none 0 0, .int .i64 0] 137)) (.cells #[.int .i64 0] 3)
    simpa using this
  have hW5 : Below w.heap.size w ((((w.alloc (.cells #[.slice none 0 0] 115)).alloc (.cells #[.int .i64 0, .int .i64 0] 117)).alloc (.cells #[.string s, .int .i64 0, .slice none 0 0, .int .i64 0] 137)).alloc (.cells #[.int .i64 0] 3)) := ((((Below.refl w.heap.size w).alloc (Nat.le_refl _) _).alloc (by simp <;> omega) _).alloc (by simp <;> omega) _).alloc (by simp <;> omega) _
  have hW6 : w.heap.size + 1 + 1 + 1 < ((((w.alloc (.cells #[.slice none 0 0] 115)).alloc (.cells #[.int .i64 0, .int .i64 0] 117)).alloc (.cells #[.string s, .int .i64 0, .slice none 0 0, .int .i64 0] 137)).alloc (.cells #[.int .i64 0] 3)).heap.size := by simp
  have o1 : w.heap.size < w.heap.size + 1 := by omega
  have o2 : w.heap.size + 1 < w.heap.size + 1 + 1 := by omega
  have o3 : w.heap.size + 1 + 1 < w.heap.size + 1 + 1 + 1 := by omega
  have hml : 0 < w.heap.size := World.block_lt_of_cell? w _ hm
  have HH := Lib.hid (show w.heap.size = w.heap.size from rfl)
  have hpost : ∀ e w', TokensPost s w e w' → TokensPost s w e w' := fun _ _ h => h
  generalize ((((w.alloc (.cells #[.slice none 0 0] 115)).alloc (.cells #[.int .i64 0, .int .i64 0] 117)).alloc (.cells #[.string s, .int .i64 0, .slice none 0 0, .int .i64 0] 137)).alloc (.cells #[.int .i64 0] 3)) = W at *
  generalize hH : w.heap.size = H at *
  generalize H + 1 = q at *
  generalize q + 1 = b at *
  generalize b + 1 = g at *
  clear HH
  have HH := Lib.hid hH; clear hH
  have hbg : b ≠ g := by omega
  have hgb : g ≠ b := by omega
  have hm0 := (hW5.cell (p := ⟨0, 0, none⟩) hml).trans hm
  go_loopg [] s.size (fun gk wr => ∃ (k : Nat) (l : Value) (d : List Tok), k ≤ s.size ∧ gk = s.size - k ∧ lexA (rest s 0) 0 0 = app d (lexA (rest s k) 0 k) ∧ d.length ≤ k ∧ Rd wr b s k l 0 ∧ wr.ownsRow (g + 1) 121 3 l d.length (cellsT d) ∧
    wr.heap[H]? = some (.cells #[.slice none 0 0] 115 (0, 0)) ∧ wr.heap[q]? = some (.cells #[.int .i64 0, .int .i64 0] 117 (0, 0)) ∧ (∃ x : Int, wr.heap[g]? = some (.cells #[.int .i64 x] 3 (0, 0))) ∧ g < wr.heap.size ∧ Below H w wr)
  case atStart => exact ⟨0, .slice none 0 0, [], by omega, by omega, by simp [app]; cases lexA (rest s 0) 0 0 <;> rfl, by simp, hW3, World.ownsRow_nil _ _ _ _, hW1, hW2, ⟨0, hW4⟩, hW6, hW5⟩
  case round =>
    clear hW1 hW2 hW3 hW4 hW5 hW6 hm0
    obtain ⟨k, l, d, hk2, rfl, hsp, hdk, hrk, hown, hr1, hr2, ⟨x, hr3⟩, hgs, hbel⟩ := hrel
    have hm0 := (hbel.cell (p := ⟨0, 0, none⟩) hml).trans hm
    have HS := Lib.hid hsp; clear hsp
    obtain ⟨y1, y2⟩ := cells1 hr3
    have R1 := Lib.hid hr1; have R2 := Lib.hid hr2; have R3 := Lib.hid hr3; clear hr1 hr2 hr3
    by_cases hlt : k < s.size
    case neg =>
      obtain rfl : s.size = k := by omega
      have c2 := hrk.c2
      obtain ⟨z1, z2⟩ := cells1 R1.out
      obtain ⟨z3, z4, z5, z6⟩ := cells2 R2.out
      have nH : ¬ some H = l.ownBlock := fun e => by have := (hown.lt _ e.symm).1; omega
      have nq : ¬ some q = l.ownBlock := fun e => by have := (hown.lt _ e.symm).1; omega
      have hHs : H < wr.heap.size := by omega
      have hqs : q < wr.heap.size := by omega
      have hbs : b < wr.heap.size := by omega
      obtain ⟨i0, hi0, hz0, hz1, hz2⟩ := info_parts tokInfo
      go_wp2_with (first | (go_at_call 94; (with_reducible refine (more_f hrk (by omega)).mono ?_); rintro e w' ⟨rfl, n0, rfl⟩) | (at_builtin; refine wpList_append_lies _ rfl _ _ _ rfl (g + 1) 121 i0 _ 3 32 Tryz.underlying115 hi0 hz0 hz1 hz2 rfl (by omega) l d.length (cellsT d) rfl ((own_drewN hown _).alloc _) ⟨wr.heap.size, 0, none⟩ 1 1 [.int .u8 7, .string { data := #[] }, .int .i64 (s.size : Int)] rfl rfl (by exact World.news_of_block (cs := #[.int .u8 7, .string { data := #[] }, .int .i64 (s.size : Int)]) (t := 121) (fr := (0, 0)) (heap_alloc_new (wr.drewN _) _)) (by simp [Value.oneCell']) (by omega) (by unfold maxLen; omega) (by omega) (by simp; omega) (wr.heap.size + 1) (by simp) ?_; intro gg cap w1 hown1 hgrow hat hlt2; have a1 : w1.cell? ⟨H, 0, none⟩ = some (.slice none 0 0) := (by rw [hgrow.cell_far _ (by simp; omega) nH]; exact (World.cell?_alloc_past _ _ _ hHs).trans z1); have a2 : w1.frozen? ⟨H, 0, none⟩ = false := (by rw [hgrow.frozen_far _ (by simp; omega) nH]; exact (World.frozen?_of_block (Below.heap_alloc _ _ _ hHs)).trans z2); have a3 : w1.cell? ⟨q, 0, none⟩ = some (.int .i64 0) := (by rw [hgrow.cell_far _ (by simp; omega) nq]; exact (World.cell?_alloc_past _ _ _ hqs).trans z3); have a4 : w1.cell? ⟨q, 1, none⟩ = some (.int .i64 0) := (by rw [hgrow.cell_far _ (by simp; omega) nq]; exact (World.cell?_alloc_past _ _ _ hqs).trans z4); have a5 : w1.frozen? ⟨q, 0, none⟩ = false := (by rw [hgrow.frozen_far _ (by simp; omega) nq]; exact (World.frozen?_of_block (Below.heap_alloc _ _ _ hqs)).trans z5); have a6 : w1.frozen? ⟨q, 1, none⟩ = false := (by rw [hgrow.frozen_far _ (by simp; omega) nq]; exact (World.frozen?_of_block (Below.heap_alloc _ _ _ hqs)).trans z6)))
      have hfin : toks s.data.toList = .good (d ++ [⟨7, [], s.size⟩]) := by
        unfold toks
        rw [if_neg (by simp; omega), ← rest_zero, HS.out, (rest_nil (Nat.le_refl _)).1]; rfl
      have w1H : w1.heap[H]? = some (.cells #[.slice none 0 0] 115 (0, 0)) := ((hgrow.block H (by simp; omega) nH).trans (Below.heap_alloc _ _ _ hHs)).trans R1.out
      have w1q : w1.heap[q]? = some (.cells #[.int .i64 0, .int .i64 0] 117 (0, 0)) := ((hgrow.block q (by simp; omega) nq).trans (Below.heap_alloc _ _ _ hqs)).trans R2.out
      have hqH : q ≠ H := by omega
      have hHq : H ≠ q := by omega
      have f1 := heap_setCell_same w1 H 0 _ _ (.slice (some ⟨gg, 0, none⟩) (d.length + 1) cap) w1H
      have f2 : (w1.setCell ⟨H, 0, none⟩ (.slice (some ⟨gg, 0, none⟩) (d.length + 1) cap)).heap[q]? = _ := (Below.heap_setCell _ _ _ _ hqH).trans w1q
      have f3 := heap_setCell_same _ q 0 _ _ (.int .i64 0) f2
      have f4 := heap_setCell_same _ q 1 _ _ (.int .i64 0) f3
      have f5 := ((Below.heap_setCell _ ⟨q, 1, none⟩ (.int .i64 0) H hHq).trans (Below.heap_setCell _ ⟨q, 0, none⟩ (.int .i64 0) H hHq)).trans f1
      have hbf : Below H w w1 := (((hbel.drewN n0).alloc (by simp; omega) _)).grown hgrow (by simp; omega) (fun j hj => by have := (hown.lt _ hj).1; omega)
      have hgH : (Value.slice (some ⟨gg, 0, none⟩) (d.length + 1) cap).ownBlock ≠ some H := by have := (hown1.lt gg rfl).1; simp [Value.ownBlock]; omega
      have hgq : (Value.slice (some ⟨gg, 0, none⟩) (d.length + 1) cap).ownBlock ≠ some q := by have := (hown1.lt gg rfl).1; simp [Value.ownBlock]; omega
      have hof := own_base (own_set (own_set (own_set hown1 hgH 0 (.slice (some ⟨gg, 0, none⟩) (d.length + 1) cap)) hgq 0 (.int .i64 0)) hgq 1 (.int .i64 0)) (show H ≤ g + 1 by omega)
      refine leaves_cons (f := 93) (args := #[.pointer (some ⟨g, 0, none⟩), .pointer (some ⟨H, 0, none⟩), .pointer (some ⟨q, 0, none⟩)]) (by simp) (by simp [go_sem]) ?_
      refine (catch_idle _ _ _ _).mono ?_
      rintro e u' w3 ⟨rfl, rfl, rfl⟩
      refine ⟨_, res_tokens f5 f4 rfl rfl, ?_⟩
      unfold TokensPost
      rw [hfin, HH.out]
      refine ⟨((hbf.setCell (by simp) _).setCell (by simp; omega) _).setCell (by simp; omega) _, _, rfl, ?_⟩
      rw [cellsT_snoc, List.length_append]
      exact hof
    have c1 := hrk.c1; have f1 := hrk.fr 1
    have ng : l.ownBlock ≠ some g := fun e => by have := (hown.lt _ e).1; omega
    have nb : l.ownBlock ≠ some b := fun e => by have := (hown.lt _ e).1; omega
    have hne : rest s k ≠ [] := by obtain ⟨c, h1, _⟩ := rest_cons hlt; rw [h1]; simp
    by_cases hws : wsN (byteAt s k) = true
    · have hor : byteAt s k = 32 ∨ byteAt s k = 9 ∨ byteAt s k = 10 ∨ byteAt s k = 13 := by simp [wsN] at hws; omega
      rcases hor with h32 | h9 | h10 | h13
      · have hv : byteAt s k = 32 := h32
        have HWS := Lib.hid hws
        have e32 : ((byteAt s k : Int) == 32) = true := by rw [hv]; rfl
        clear hv h32 hws
        go_wp2_with (first | (go_at_call 94; (with_reducible refine (more_t hrk (by omega) hlt).mono ?_); rintro e w' ⟨rfl, n0, rfl⟩) | (go_at_call 95; (with_reducible refine (now0 ((hrk.drewN _).other hbg 0 _) (by omega) hk2).mono ?_); rintro e w' ⟨rfl, n1, rfl⟩))
        go_roundg (s.size - (k + 1))
        case measure => omega
        case rel =>
          exact ⟨k + 1, l, d, by omega, rfl, by rw [HS.out, lexA_ws _ _ hne (by rw [head_rest0]; exact HWS.out), rest_drop], by omega, (((hrk.drewN _).other hbg 0 _).drewN _).set1 (by simp), own_set (own_drewN (own_set (own_drewN hown _) ng 0 _) _) nb 1 _,
            keep3 R1.out (by omega) (by omega), keep3 R2.out (by omega) (by omega), ⟨_, (Below.heap_setCell _ _ _ _ hgb).trans (heap_setCell_same _ g 0 _ _ _ R3.out)⟩, by simpa [World.setCell] using hgs, (((hbel.drewN _).setCell (by simp; omega) _).drewN _).setCell (by simp; omega) _⟩
      · have hv : byteAt s k = 9 := h9
        have HWS := Lib.hid hws
        have e32 : ((byteAt s k : Int) == 32) = false := by rw [hv]; rfl
        have e9 : ((byteAt s k : Int) == 9) = true := by rw [hv]; rfl
        clear hv h9 hws
        go_wp2_with (first | (go_at_call 94; (with_reducible refine (more_t hrk (by omega) hlt).mono ?_); rintro e w' ⟨rfl, n0, rfl⟩) | (go_at_call 95; (with_reducible refine (now0 ((hrk.drewN _).other hbg 0 _) (by omega) hk2).mono ?_); rintro e w' ⟨rfl, n1, rfl⟩))
        go_roundg (s.size - (k + 1))
        case measure => omega
        case rel =>
          exact ⟨k + 1, l, d, by omega, rfl, by rw [HS.out, lexA_ws _ _ hne (by rw [head_rest0]; exact HWS.out), rest_drop], by omega, (((hrk.drewN _).other hbg 0 _).drewN _).set1 (by simp), own_set (own_drewN (own_set (own_drewN hown _) ng 0 _) _) nb 1 _,
            keep3 R1.out (by omega) (by omega), keep3 R2.out (by omega) (by omega), ⟨_, (Below.heap_setCell _ _ _ _ hgb).trans (heap_setCell_same _ g 0 _ _ _ R3.out)⟩, by simpa [World.setCell] using hgs, (((hbel.drewN _).setCell (by simp; omega) _).drewN _).setCell (by simp; omega) _⟩
      · have hv : byteAt s k = 10 := h10
        have HWS := Lib.hid hws
        have e32 : ((byteAt s k : Int) == 32) = false := by rw [hv]; rfl
        have e9 : ((byteAt s k : Int) == 9) = false := by rw [hv]; rfl
        have e10 : ((byteAt s k : Int) == 10) = true := by rw [hv]; rfl
        clear hv h10 hws
        go_wp2_with (first | (go_at_call 94; (with_reducible refine (more_t hrk (by omega) hlt).mono ?_); rintro e w' ⟨rfl, n0, rfl⟩) | (go_at_call 95; (with_reducible refine (now0 ((hrk.drewN _).other hbg 0 _) (by omega) hk2).mono ?_); rintro e w' ⟨rfl, n1, rfl⟩))
        go_roundg (s.size - (k + 1))
        case measure => omega
        case rel =>
          exact ⟨k + 1, l, d, by omega, rfl, by rw [HS.out, lexA_ws _ _ hne (by rw [head_rest0]; exact HWS.out), rest_drop], by omega, (((hrk.drewN _).other hbg 0 _).drewN _).set1 (by simp), own_set (own_drewN (own_set (own_drewN hown _) ng 0 _) _) nb 1 _,
            keep3 R1.out (by omega) (by omega), keep3 R2.out (by omega) (by omega), ⟨_, (Below.heap_setCell _ _ _ _ hgb).trans (heap_setCell_same _ g 0 _ _ _ R3.out)⟩, by simpa [World.setCell] using hgs, (((hbel.drewN _).setCell (by simp; omega) _).drewN _).setCell (by simp; omega) _⟩
      · have hv : byteAt s k = 13 := h13
        have HWS := Lib.hid hws
        have e32 : ((byteAt s k : Int) == 32) = false := by rw [hv]; rfl
        have e9 : ((byteAt s k : Int) == 9) = false := by rw [hv]; rfl
        have e10 : ((byteAt s k : Int) == 10) = false := by rw [hv]; rfl
        have e13 : ((byteAt s k : Int) == 13) = true := by rw [hv]; rfl
        clear hv h13 hws
        go_wp2_with (first | (go_at_call 94; (with_reducible refine (more_t hrk (by omega) hlt).mono ?_); rintro e w' ⟨rfl, n0, rfl⟩) | (go_at_call 95; (with_reducible refine (now0 ((hrk.drewN _).other hbg 0 _) (by omega) hk2).mono ?_); rintro e w' ⟨rfl, n1, rfl⟩))
        go_roundg (s.size - (k + 1))
        case measure => omega
        case rel =>
          exact ⟨k + 1, l, d, by omega, rfl, by rw [HS.out, lexA_ws _ _ hne (by rw [head_rest0]; exact HWS.out), rest_drop], by omega, (((hrk.drewN _).other hbg 0 _).drewN _).set1 (by simp), own_set (own_drewN (own_set (own_drewN hown _) ng 0 _) _) nb 1 _,
            keep3 R1.out (by omega) (by omega), keep3 R2.out (by omega) (by omega), ⟨_, (Below.heap_setCell _ _ _ _ hgb).trans (heap_setCell_same _ g 0 _ _ _ R3.out)⟩, by simpa [World.setCell] using hgs, (((hbel.drewN _).setCell (by simp; omega) _).drewN _).setCell (by simp; omega) _⟩

    · have e32 : ((byteAt s k : Int) == 32) = false := beq_eq_false_iff_ne.2 (by simp [wsN] at hws; omega)
      have e9 : ((byteAt s k : Int) == 9) = false := beq_eq_false_iff_ne.2 (by simp [wsN] at hws; omega)
      have e10 : ((byteAt s k : Int) == 10) = false := beq_eq_false_iff_ne.2 (by simp [wsN] at hws; omega)
      have e13 : ((byteAt s k : Int) == 13) = false := beq_eq_false_iff_ne.2 (by simp [wsN] at hws; omega)
      have HWS := Lib.hid (show wsN (byteAt s k) = false by simpa using hws); clear hws
      cases hcm : comL (rest s k) with
      | true =>
        have hov := over_pos hcm
        have hlx := lexA_com (rest s k) k (by rw [head_rest0]; exact HWS.out) hcm
        rw [rest_drop] at hlx
        have HL := Lib.hid hlx; clear hlx
        rw [com_rest] at hcm
        have HC := Lib.hid hcm; clear hcm
        go_wp2_with (first | (go_at_call 94; (with_reducible refine (more_t hrk (by omega) hlt).mono ?_); rintro e w' ⟨rfl, n0, rfl⟩) | (go_at_call 95; (with_reducible refine (now0 ((hrk.drewN _).other hbg 0 _) (by omega) hk2).mono ?_); rintro e w' ⟨rfl, n1, rfl⟩) | (go_at_call 96; (with_reducible refine (comment_t (((hrk.drewN _).other hbg 0 _).drewN _) (by omega) hk2 HC.out).mono ?_); rintro e w' ⟨rfl, n2, rfl⟩) | (go_at_call 97; refine (line_any ((((hrk.drewN _).other hbg 0 _).drewN _)) (by omega) hk2).mono ?_; rintro e w2 ⟨rfl, hr2, hg2⟩))
        go_roundg (s.size - (k + overL (rest s k)))
        case measure => omega
        case rel =>
          exact ⟨k + overL (rest s k), l, d, by omega, rfl, by rw [HS.out, HL.out], by omega, hr2, (own_drewN (own_set (own_drewN hown _) ng 0 _) _).kept hg2 (.inr nb),
            (hg2.block H (by simp [World.setCell]; omega) (by simp; omega)).trans (keep2 (n1 := 0) R1.out (by omega)), (hg2.block q (by simp [World.setCell]; omega) (by simp; omega)).trans (keep2 (n1 := 0) R2.out (by omega)),
            ⟨_, (hg2.block g (by simpa [World.setCell] using hgs) (by simp; omega)).trans (heap_setCell_same (wr.drewN _) g 0 _ _ _ R3.out)⟩, Nat.lt_of_lt_of_le (by simpa [World.setCell] using hgs) hg2.size, (((hbel.drewN _).setCell (by simp; omega) _).drewN _).grown hg2 (by simp [World.setCell]; omega) (fun j hj => by simp at hj; omega)⟩
      | false =>
        have hlx := lexA_tok (rest s k) k hne (by rw [head_rest0]; exact HWS.out) hcm
        have HL := Lib.hid hlx; clear hlx
        rw [com_rest] at hcm
        have HC := Lib.hid hcm; clear hcm
        go_wp2_with (first | (go_at_call 94; (with_reducible refine (more_t hrk (by omega) hlt).mono ?_); rintro e w' ⟨rfl, n0, rfl⟩) | (go_at_call 95; (with_reducible refine (now0 ((hrk.drewN _).other hbg 0 _) (by omega) hk2).mono ?_); rintro e w' ⟨rfl, n1, rfl⟩) | (go_at_call 96; (with_reducible refine (comment_f (((hrk.drewN _).other hbg 0 _).drewN _) (by omega) hk2 HC.out).mono ?_); rintro e w' ⟨rfl, n2, rfl⟩))
        have x1 : Rd (((wr.drewN n0).setCell ⟨g, 0, none⟩ (.int .i64 (k : Int))).drewN (n1 + n2)) b s k l 0 := ((hrk.drewN _).other hbg 0 _).drewN _
        have x2 : World.ownsRow (((wr.drewN n0).setCell ⟨g, 0, none⟩ (.int .i64 (k : Int))).drewN (n1 + n2)) (g + 1) 121 3 l d.length (cellsT d) := own_drewN (own_set (own_drewN hown _) ng 0 _) _
        have x3 : (((wr.drewN n0).setCell ⟨g, 0, none⟩ (.int .i64 (k : Int))).drewN (n1 + n2)).heap[H]? = _ := keep2 R1.out (by omega)
        have x4 : (((wr.drewN n0).setCell ⟨g, 0, none⟩ (.int .i64 (k : Int))).drewN (n1 + n2)).heap[q]? = _ := keep2 R2.out (by omega)
        have x5 : (((wr.drewN n0).setCell ⟨g, 0, none⟩ (.int .i64 (k : Int))).drewN (n1 + n2)).heap[g]? = some (.cells #[.int .i64 (k : Int)] 3 (0, 0)) := heap_setCell_same (wr.drewN _) g 0 _ _ _ R3.out
        have x6 : g < (((wr.drewN n0).setCell ⟨g, 0, none⟩ (.int .i64 (k : Int))).drewN (n1 + n2)).heap.size := by simpa [World.setCell] using hgs
        have x7 : Below H w (((wr.drewN n0).setCell ⟨g, 0, none⟩ (.int .i64 (k : Int))).drewN (n1 + n2)) := ((hbel.drewN _).setCell (by simp; omega) _).drewN _
        generalize (((wr.drewN n0).setCell ⟨g, 0, none⟩ (.int .i64 (k : Int))).drewN (n1 + n2)) = W2 at *
        clear hrk hown R1 R2 R3 hgs hbel y1 y2 c1 f1 hm0
        have hm2 := (x7.cell (p := ⟨0, 0, none⟩) hml).trans hm
        cases htk : tokL (rest s k) with
        | good kk t n =>
          have hn := tokL_le _ _ _ _ htk
          rw [rest_len] at hn
          have HT := Lib.hid htk; clear htk
          refine (token_ok (B0 := g + 1) x1 (by omega) hlt x2 (by omega) (by omega) x6 (by omega) hm2 HT.out).mono ?_
          rintro e w2 ⟨rfl, l', hr2, ho2, hk2'⟩
          go_wp2
          go_roundg (s.size - (k + n))
          case measure => omega
          case rel =>
            refine ⟨k + n, l', d ++ [⟨kk, t, k⟩], by omega, rfl, ?_, by simp; omega, hr2, ?_, (hk2'.block H (by omega) (by omega) (by omega)).trans x3, (hk2'.block q (by omega) (by omega) (by omega)).trans x4, ⟨_, (hk2'.block g x6 (by omega) (by omega)).trans x5⟩, Nat.lt_of_lt_of_le x6 hk2'.size,
              x7.trans ⟨hk2'.os, hk2'.tape, hk2'.output, hk2'.size, fun j hj => hk2'.block j (by omega) (by omega) (by omega)⟩⟩
            · rw [HS.out, HL.out, HT.out]; simp only; rw [app_cons, rest_drop]
            · rw [cellsT_snoc, List.length_append]; exact ho2
        | bad x =>
          have HT := Lib.hid htk; clear htk
          refine (token_no (B0 := g + 1) x1 (by omega) hlt x2 (by omega) (by omega) x6 (by omega) hm2 HT.out).mono ?_
          rintro e w2 ⟨rfl, hk2'⟩
          have hfin : toks s.data.toList = .bad x k := by
            unfold toks
            rw [if_neg (by simp; omega), ← rest_zero, HS.out, HL.out, HT.out]; rfl
          refine leaves_cons (f := 93) (args := #[.pointer (some ⟨g, 0, none⟩), .pointer (some ⟨H, 0, none⟩), .pointer (some ⟨q, 0, none⟩)]) (by simp) (by simp [go_sem]) ?_
          refine (catch_thrown (B := H) ((hk2'.block g x6 (by omega) (by omega)).trans x5) ((hk2'.block H (by omega) (by omega) (by omega)).trans x3) ((hk2'.block q (by omega) (by omega) (by omega)).trans x4) (by omega) (by omega) (by omega) (Nat.le_refl _) (by omega)).mono ?_
          rintro e u' w3 ⟨rfl, rfl, h1, h2, h3⟩
          refine ⟨_, res_tokens h1 h2 rfl rfl, ?_⟩
          unfold TokensPost
          rw [hfin, HH.out]
          exact ⟨(x7.trans ⟨hk2'.os, hk2'.tape, hk2'.output, hk2'.size, fun j hj => hk2'.block j (by omega) (by omega) (by omega)⟩).trans h3, rfl⟩

/-- THE LEXER: what it tells of any source -/
theorem tokens_any {s : ByteArray} {w : World} {m : Int} (hs : s.size ≤ 140737488351232) (hm : w.cell? ⟨0, 0, none⟩ = some (.int .i64 m)) :
    Calls Tryz.prog 85 #[.string s] w (TokensPost s w) := by
  by_cases h : s.size ≤ 65536
  · exact tokens_short h hm
  · exact tokens_long hs (by omega)
end Go.Proofs.YtghebacphjglbaaGreat.LexF
