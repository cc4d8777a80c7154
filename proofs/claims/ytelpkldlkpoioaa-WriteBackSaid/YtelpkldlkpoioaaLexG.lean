/- Tokens in memory, and the law's small helpers, walked. -/
import Derived.Test.YtelpkldlkpoioaaLexF
import Derived.Test.YtelpkldlkpoioaaLexPlain
namespace Go.Proofs.Ytelpkldlkpoioaa.LexG
open Go.RowKit Go.Proofs.Ytelpkldlkpoioaa.Lexy Go.Proofs.Ytelpkldlkpoioaa.LexA Go.Proofs.Ytelpkldlkpoioaa.LexB Go.Proofs.Ytelpkldlkpoioaa.LexC Go.Proofs.Ytelpkldlkpoioaa.LexD Go.Proofs.Ytelpkldlkpoioaa.LexE Go.Proofs.Ytelpkldlkpoioaa.LexF

/-- the token at a place of a list -/
def tk (l : List Tok) (i : Nat) : Tok := l.getD i ⟨0, [], 0⟩
/-- tokens lie in a block -/
def IsToks (w : World) (g : Nat) (l : List Tok) : Prop :=
  ∀ i, i < l.length → w.cell? ⟨g, i * 3, none⟩ = some (.int .u8 ((tk l i).kind : Int)) ∧ w.cell? ⟨g, i * 3 + 1, none⟩ = some (.string (bs (tk l i).text)) ∧ w.cell? ⟨g, i * 3 + 2, none⟩ = some (.int .i64 ((tk l i).at_ : Int))
theorem cellsT_get (l : List Tok) : ∀ i, i < l.length → (cellsT l)[i * 3]? = some (.int .u8 ((tk l i).kind : Int)) ∧ (cellsT l)[i * 3 + 1]? = some (.string (bs (tk l i).text)) ∧ (cellsT l)[i * 3 + 2]? = some (.int .i64 ((tk l i).at_ : Int)) := by
  induction l with
  | nil => intro i h; simp at h
  | cons t l ih =>
    intro i h
    cases i with
    | zero => simp [cellsT, tk]
    | succ i =>
      have := ih i (by simp at h; omega)
      have e : ∀ j, (cellsT (t :: l))[(i + 1) * 3 + j]? = (cellsT l)[i * 3 + j]? := by
        intro j
        show (([.int .u8 (t.kind : Int), .string (bs t.text), .int .i64 (t.at_ : Int)] : List Value) ++ cellsT l)[(i + 1) * 3 + j]? = _
        rw [List.getElem?_append_right (by simp; omega)]
        congr 1; simp; omega
      have e0 := e 0
      simp only [Nat.add_zero] at e0
      rw [e0, e 1, e 2]
      exact this
/-- what is owned, as tokens in a block -/
theorem toks_of_own {w : World} {base : Nat} {v : Value} {l : List Tok} (h : w.ownsRow base 31 3 v l.length (cellsT l)) (hl : 0 < l.length) :
    ∃ g cap, v = .slice (some ⟨g, 0, none⟩) l.length cap ∧ base ≤ g ∧ g < w.heap.size ∧ l.length ≤ cap ∧ cap ≤ maxLen ∧ IsToks w g l := by
  have h0 := h
  rcases h.2 with ⟨_, hn⟩ | ⟨g, cap, cur, rfl, hb, hg, h1, h2, h3, _⟩
  · omega
  · refine ⟨g, cap, rfl, hb, (Array.getElem?_eq_some_iff.1 hg).1, h1, h2, fun i hi => ?_⟩
    have hc := cellsT_get l i hi
    rw [h0.cellAt (i * 3) (by omega), h0.cellAt (i * 3 + 1) (by omega), h0.cellAt (i * 3 + 2) (by omega)]
    exact hc
theorem IsToks.below {w w' : World} {B g : Nat} {l : List Tok} (h : IsToks w g l) (hb : Below B w w') (hg : g < B) : IsToks w' g l := by
  intro i hi
  rw [hb.cell (p := ⟨g, i * 3, none⟩) hg, hb.cell (p := ⟨g, i * 3 + 1, none⟩) hg, hb.cell (p := ⟨g, i * 3 + 2, none⟩) hg]
  exact h i hi
theorem IsToks.drewN {w : World} {g : Nat} {l : List Tok} (h : IsToks w g l) (n : Nat) : IsToks (w.drewN n) g l := h

set_option maxHeartbeats 1000000 in
theorem same_tokens {w : World} {g1 g2 c1 c2 : Nat} {l : List Tok} (h1 : IsToks w g1 l) (h2 : IsToks w g2 l) (hl : l.length ≤ 1000000) :
    Calls Try.prog 25 #[.slice (some ⟨g1, 0, none⟩) l.length c1, .slice (some ⟨g2, 0, none⟩) l.length c2] w fun e w' => e = .returned (.bool true) ∧ ∃ n, w' = w.drewN n := by
  have H1 := Lib.hid h1; have H2 := Lib.hid h2; clear h1 h2
  go_enter Try.func25, Try.ntmps25
  go_wp2
  go_loopg [5] l.length (fun gk i wr => ∃ (k n : Nat), k ≤ l.length ∧ gk = l.length - k ∧ i = .int .i64 (k : Int) ∧ wr = w.drewN n)
  case atStart => exact ⟨0, 0, by omega, by omega, rfl, rfl⟩
  case round =>
    obtain ⟨k, n, hk, rfl, rfl, rfl⟩ := hrel
    by_cases hlt : k < l.length
    · obtain ⟨a1, a2, a3⟩ := H1.out k hlt
      obtain ⟨b1, b2, b3⟩ := H2.out k hlt
      have j0 : (0 : Int) ≤ (k : Int) := by omega
      have j1 : (k : Int) < (l.length : Int) := by omega
      go_wp2
      go_quiet (fail)
      go_wp2
      go_roundg (l.length - (k + 1))
      case measure => omega
      case rel => exact ⟨k + 1, _, by omega, rfl, by go_num, rfl⟩
    · go_wp2
      go_ret
      exact ⟨rfl, n, rfl⟩

theorem tokens_bad {s : ByteArray} {w : World} {m : Int} {x p : Nat} (hs : s.size ≤ 140737488351232) (hm : w.cell? ⟨0, 0, none⟩ = some (.int .i64 m)) (ht : toks s.data.toList = .bad x p) :
    Calls Try.prog 10 #[.string s] w fun e w' => e = .returned (.tuple #[.slice none 0 0, .agg #[.int .i64 (x : Int), .int .i64 (p : Int)]]) ∧ Below w.heap.size w w' :=
  (tokens_any hs hm).mono fun e w' h => by unfold TokensPost at h; rw [ht] at h; exact ⟨h.2, h.1⟩
theorem toks_ne {s : List UInt8} {l : List Tok} (h : toks s = .good l) : 0 < l.length := by
  obtain ⟨ts, h1, _⟩ := toks_back s l h; rw [h1]; simp
theorem tokens_good {s : ByteArray} {w : World} {m : Int} {l : List Tok} (hs : s.size ≤ 140737488351232) (hm : w.cell? ⟨0, 0, none⟩ = some (.int .i64 m)) (ht : toks s.data.toList = .good l) :
    Calls Try.prog 10 #[.string s] w fun e w' => ∃ g cap, e = .returned (.tuple #[.slice (some ⟨g, 0, none⟩) l.length cap, .agg #[.int .i64 0, .int .i64 0]]) ∧ w.heap.size ≤ g ∧ g < w'.heap.size ∧ l.length ≤ cap ∧ cap ≤ maxLen ∧ IsToks w' g l ∧ Below w.heap.size w w' :=
  (tokens_any hs hm).mono fun e w' h => by
    unfold TokensPost at h; rw [ht] at h
    obtain ⟨hb, v, rfl, hown⟩ := h
    obtain ⟨g, cap, rfl, h1, h2, h3, h4, h5⟩ := toks_of_own hown (toks_ne ht)
    exact ⟨g, cap, rfl, h1, h2, h3, h4, h5, hb⟩

set_option maxHeartbeats 1000000 in
theorem fault_any {s : ByteArray} {w : World} {m : Int} {x p : Nat} (hs : s.size ≤ 140737488351232) (hm : w.cell? ⟨0, 0, none⟩ = some (.int .i64 m)) (ht : toks s.data.toList = .bad x p) :
    Calls Try.prog 26 #[.string s, .int .i64 (x : Int), .int .i64 (p : Int)] w fun e w' => e = .returned (.bool true) ∧ Below w.heap.size w w' := by
  have HT := Lib.hid ht; clear ht
  go_enter Try.func26, Try.ntmps26
  go_wp2_with (go_at_call 10; refine (tokens_bad hs hm HT.out).mono ?_; rintro e w1 ⟨rfl, hb⟩)
  go_outline
  go_ret
  exact ⟨rfl, hb.alloc hb.size _⟩

theorem ex1 : toks [37, 116, 111, 107, 101, 110, 32, 60, 105, 110, 116, 62, 32, 78, 59, 32, 37, 37, 32, 101, 58, 32, 78, 32, 123, 32, 102, 40, 34, 125, 34, 41, 32, 47, 47, 32, 125, 10, 125] =
    .good [⟨1, [116, 111, 107, 101, 110], 0⟩, ⟨6, [60], 7⟩, ⟨2, [105, 110, 116], 8⟩, ⟨6, [62], 11⟩, ⟨2, [78], 13⟩, ⟨6, [59], 14⟩, ⟨6, [37, 37], 16⟩, ⟨2, [101], 19⟩, ⟨6, [58], 20⟩, ⟨2, [78], 22⟩, ⟨9, [32, 102, 40, 34, 125, 34, 41, 32, 47, 47, 32, 125, 10], 24⟩, ⟨7, [], 39⟩] := by decide +kernel
theorem ex2 : toks [37, 102, 111, 111] = .bad 101 0 := by decide +kernel
theorem ex3 : toks [101, 32, 123, 32] = .bad 101 2 := by decide +kernel
theorem ex4 : toks [101, 32, 61, 32] = .bad 100 2 := by decide +kernel

theorem fault_a {w : World} {m : Int} (hm : w.cell? ⟨0, 0, none⟩ = some (.int .i64 m)) :
    Calls Try.prog 26 #[.string { data := #[37, 102, 111, 111] }, .int .i64 101, .int .i64 0] w fun e w' => e = .returned (.bool true) ∧ Below w.heap.size w w' :=
  fault_any (s := { data := #[37, 102, 111, 111] }) (x := 101) (p := 0) (by decide) hm ex2
theorem fault_b {w : World} {m : Int} (hm : w.cell? ⟨0, 0, none⟩ = some (.int .i64 m)) :
    Calls Try.prog 26 #[.string { data := #[101, 32, 123, 32] }, .int .i64 101, .int .i64 2] w fun e w' => e = .returned (.bool true) ∧ Below w.heap.size w w' :=
  fault_any (s := { data := #[101, 32, 123, 32] }) (x := 101) (p := 2) (by decide) hm ex3
theorem fault_c {w : World} {m : Int} (hm : w.cell? ⟨0, 0, none⟩ = some (.int .i64 m)) :
    Calls Try.prog 26 #[.string { data := #[101, 32, 61, 32] }, .int .i64 100, .int .i64 2] w fun e w' => e = .returned (.bool true) ∧ Below w.heap.size w w' :=
  fault_any (s := { data := #[101, 32, 61, 32] }) (x := 100) (p := 2) (by decide) hm ex4
theorem alloc_toks (w : World) (cs : Array Value) (t : TypeId) (l : List Tok) (h : cs.toList = cellsT l) : IsToks (w.alloc (.cells cs t)) w.heap.size l := by
  intro i hi
  have hb : (w.alloc (.cells cs t)).heap[w.heap.size]? = some (.cells cs t (0, 0)) := heap_alloc_new w _
  have hc := cellsT_get l i hi
  rw [← h] at hc
  rw [cell_of_row _ _ _ cs t (0, 0) hb, cell_of_row _ _ _ cs t (0, 0) hb, cell_of_row _ _ _ cs t (0, 0) hb]
  simpa using hc
theorem want_cells : (#[.int .u8 1, .string { data := #[116, 111, 107, 101, 110] }, .int .i64 0, .int .u8 6, .string { data := #[60] }, .int .i64 7, .int .u8 2, .string { data := #[105, 110, 116] }, .int .i64 8, .int .u8 6, .string { data := #[62] }, .int .i64 11, .int .u8 2, .string { data := #[78] }, .int .i64 13, .int .u8 6, .string { data := #[59] }, .int .i64 14, .int .u8 6, .string { data := #[37, 37] }, .int .i64 16, .int .u8 2, .string { data := #[101] }, .int .i64 19, .int .u8 6, .string { data := #[58] }, .int .i64 20, .int .u8 2, .string { data := #[78] }, .int .i64 22, .int .u8 9, .string { data := #[32, 102, 40, 34, 125, 34, 41, 32, 47, 47, 32, 125, 10] }, .int .i64 24, .int .u8 7, .string { data := #[] }, .int .i64 39] : Array Value).toList =
    cellsT [⟨1, [116, 111, 107, 101, 110], 0⟩, ⟨6, [60], 7⟩, ⟨2, [105, 110, 116], 8⟩, ⟨6, [62], 11⟩, ⟨2, [78], 13⟩, ⟨6, [59], 14⟩, ⟨6, [37, 37], 16⟩, ⟨2, [101], 19⟩, ⟨6, [58], 20⟩, ⟨2, [78], 22⟩, ⟨9, [32, 102, 40, 34, 125, 34, 41, 32, 47, 47, 32, 125, 10], 24⟩, ⟨7, [], 39⟩] := rfl

set_option maxRecDepth 100000 in
set_option maxHeartbeats 2000000 in
theorem awake_any {w : World} {m : Int} (hm : w.cell? ⟨0, 0, none⟩ = some (.int .i64 m)) :
    Calls Try.prog 9 #[] w fun e w' => e = .returned (.bool true) ∧ Below w.heap.size w w' := by
  have hml := World.block_lt_of_cell? w _ hm
  simp only at hml
  go_enter Try.func9, Try.ntmps9
  go_wp2_with (go_at_call 10; refine (tokens_good (by decide) hm ex1).mono ?_; rintro e w1 ⟨g, cap, rfl, hg1, hg2, hg3, hg4, hg5, hb⟩)
  have hsz := hb.size
  have hb1 := hb.alloc hsz (.cells #[.int .i64 0, .int .i64 0] 26)
  have hb2 := hb1.alloc (by simp; omega) (.cells #[.int .u8 1, .string { data := #[116, 111, 107, 101, 110] }, .int .i64 0, .int .u8 6, .string { data := #[60] }, .int .i64 7, .int .u8 2, .string { data := #[105, 110, 116] }, .int .i64 8, .int .u8 6, .string { data := #[62] }, .int .i64 11, .int .u8 2, .string { data := #[78] }, .int .i64 13, .int .u8 6, .string { data := #[59] }, .int .i64 14, .int .u8 6, .string { data := #[37, 37] }, .int .i64 16, .int .u8 2, .string { data := #[101] }, .int .i64 19, .int .u8 6, .string { data := #[58] }, .int .i64 20, .int .u8 2, .string { data := #[78] }, .int .i64 22, .int .u8 9, .string { data := #[32, 102, 40, 34, 125, 34, 41, 32, 47, 47, 32, 125, 10] }, .int .i64 24, .int .u8 7, .string { data := #[] }, .int .i64 39] 31)
  have t1 : IsToks (((w1.alloc (.cells #[.int .i64 0, .int .i64 0] 26)).alloc (.cells #[.int .u8 1, .string { data := #[116, 111, 107, 101, 110] }, .int .i64 0, .int .u8 6, .string { data := #[60] }, .int .i64 7, .int .u8 2, .string { data := #[105, 110, 116] }, .int .i64 8, .int .u8 6, .string { data := #[62] }, .int .i64 11, .int .u8 2, .string { data := #[78] }, .int .i64 13, .int .u8 6, .string { data := #[59] }, .int .i64 14, .int .u8 6, .string { data := #[37, 37] }, .int .i64 16, .int .u8 2, .string { data := #[101] }, .int .i64 19, .int .u8 6, .string { data := #[58] }, .int .i64 20, .int .u8 2, .string { data := #[78] }, .int .i64 22, .int .u8 9, .string { data := #[32, 102, 40, 34, 125, 34, 41, 32, 47, 47, 32, 125, 10] }, .int .i64 24, .int .u8 7, .string { data := #[] }, .int .i64 39] 31))) g _ := hg5.below (((Below.refl w1.heap.size w1).alloc (Nat.le_refl _) _).alloc (by simp) _) hg2
  have t2 := alloc_toks (w1.alloc (.cells #[.int .i64 0, .int .i64 0] 26)) _ 31 _ want_cells
  rw [show (w1.alloc (.cells #[.int .i64 0, .int .i64 0] 26)).heap.size = w1.heap.size + 1 by simp] at t2
  generalize (((w1.alloc (.cells #[.int .i64 0, .int .i64 0] 26)).alloc (.cells #[.int .u8 1, .string { data := #[116, 111, 107, 101, 110] }, .int .i64 0, .int .u8 6, .string { data := #[60] }, .int .i64 7, .int .u8 2, .string { data := #[105, 110, 116] }, .int .i64 8, .int .u8 6, .string { data := #[62] }, .int .i64 11, .int .u8 2, .string { data := #[78] }, .int .i64 13, .int .u8 6, .string { data := #[59] }, .int .i64 14, .int .u8 6, .string { data := #[37, 37] }, .int .i64 16, .int .u8 2, .string { data := #[101] }, .int .i64 19, .int .u8 6, .string { data := #[58] }, .int .i64 20, .int .u8 2, .string { data := #[78] }, .int .i64 22, .int .u8 9, .string { data := #[32, 102, 40, 34, 125, 34, 41, 32, 47, 47, 32, 125, 10] }, .int .i64 24, .int .u8 7, .string { data := #[] }, .int .i64 39] 31))) = W at *
  have hmW := (hb2.cell (p := ⟨0, 0, none⟩) hml).trans hm
  have hws := hb2.size
  refine (same_tokens t1 t2 (by simp)).mono ?_
  rintro e w2 ⟨rfl, n2, rfl⟩
  go_wp2_with fail
  refine (fault_a (m := m) (by simpa using hmW)).mono ?_
  rintro e w3 ⟨rfl, hb3⟩
  simp only [World.heap_drewN] at hb3
  have hm3 := (hb3.cell (p := ⟨0, 0, none⟩) (by simp; omega)).trans hmW
  have hws3 := hb3.size
  go_wp2_with fail
  refine (fault_b hm3).mono ?_
  rintro e w4 ⟨rfl, hb4⟩
  have hm4 := (hb4.cell (p := ⟨0, 0, none⟩) (by simp at hws3 ⊢; omega)).trans hm3
  have hws4 := hb4.size
  go_wp2_with fail
  refine (fault_c hm4).mono ?_
  rintro e w5 ⟨rfl, hb5⟩
  go_wp2
  go_ret
  simp only [World.heap_drewN] at hws3
  exact ⟨rfl, (((hb2.drewN n2).trans (hb3.mono hws)).trans (hb4.mono (by omega))).trans (hb5.mono (by omega))⟩
end Go.Proofs.Ytelpkldlkpoioaa.LexG
