/- Tokens in memory, and the law's small helpers, walked. -/
import Derived.Test.YtghebacphjglbaaGreatLexF
import Derived.Test.YtghebacphjglbaaGreatLexPlain
namespace Go.Proofs.YtghebacphjglbaaGreat.LexG
open Go.RowKit Go.Proofs.YtghebacphjglbaaGreat.Lexy Go.Proofs.YtghebacphjglbaaGreat.LexA Go.Proofs.YtghebacphjglbaaGreat.LexB Go.Proofs.YtghebacphjglbaaGreat.LexC Go.Proofs.YtghebacphjglbaaGreat.LexD Go.Proofs.YtghebacphjglbaaGreat.LexE Go.Proofs.YtghebacphjglbaaGreat.LexF

/-- the token at a place of a list -/
def tk (l : List Tok) (i : Nat) : Tok := l.getD i ⟨0, [], 0⟩
/-- tokens lie in a block -/
def IsToks (w : World) (g : Nat) (l : List Tok) : Prop :=
  ∀ i, i < l.length → w.cell? ⟨g, i * 3, none⟩ = some (.int .u8 ((tk l i).kind : Int)) ∧ w.cell? ⟨g, i * 3 + 1, none⟩ = some (.string (bs (tk l i).text)) ∧ w.cell? ⟨g, i * 3 + 2, none⟩ = some (.int .i64 ((tk l i).at_ : Int))
theorem cellsT_get (l : List Tok) : ∀ i, i < l.length → (cellsT l)[i * 3]? = some (.int .u8 ((tk l i).kind : Int)) ∧ (cellsT l)[i * 3 + 1]? = some (.string (bs (tk l i).text)) ∧ (cellsT l)[i * 3 + 2]? = some (.int .i64 ((tk l i).at_ : Int)) := by
  induction l with
  | nil => intro i h; simp at h
  | cons t l ih =>
    intro i h
    cases i with
    | zero => simp [cellsT, tk]
    | succ i =>
      have := ih i (by simp at h; omega)
      have e : ∀ j, (cellsT (t :: l))[(i + 1) * 3 + j]? = (cellsT l)[i * 3 + j]? := by
        intro j
        show (([.int .u8 (t.kind : Int), .string (bs t.text), .int .i64 (t.at_ : Int)] : List Value) ++ cellsT l)[(i + 1) * 3 + j]? = _
        rw [List.getElem?_append_right (by simp; omega)]
        congr 1; simp; omega
      have e0 := e 0
      simp only [Nat.add_zero] at e0
      rw [e0, e 1, e 2]
      exact this
/-- what is owned, as tokens in a block -/
theorem toks_of_own {w : World} {base : Nat} {v : Value} {l : List Tok} (h : w.ownsRow base 121 3 v l.length (cellsT l)) (hl : 0 < l.length) :
    ∃ g cap, v = .slice (some ⟨g, 0, none⟩) l.length cap ∧ base ≤ g ∧ g < w.heap.size ∧ l.length ≤ cap ∧ cap ≤ maxLen ∧ IsToks w g l := by
  have h0 := h
  rcases h.2 with ⟨_, hn⟩ | ⟨g, cap, cur, rfl, hb, hg, h1, h2, h3, _⟩
  · omega
  · refine ⟨g, cap, rfl, hb, (Array.getElem?_eq_some_iff.1 hg).1, h1, h2, fun i hi => ?_⟩
    have hc := cellsT_get l i hi
    rw [h0.cellAt (i * 3) (by omega), h0.cellAt (i * 3 + 1) (by omega), h0.cellAt (i * 3 + 2) (by omega)]
    exact hc
theorem IsToks.below {w w' : World} {B g : Nat} {l : List Tok} (h : IsToks w g l) (hb : Below B w w') (hg : g < B) : IsToks w' g l := by
  intro i hi
  rw [hb.cell (p := ⟨g, i * 3, none⟩) hg, hb.cell (p := ⟨g, i * 3 + 1, none⟩) hg, hb.cell (p := ⟨g, i * 3 + 2, none⟩) hg]
  exact h i hi
theorem IsToks.drewN {w : World} {g : Nat} {l : List Tok} (h : IsToks w g l) (n : Nat) : IsToks (w.drewN n) g l := h

theorem tokens_bad {s : ByteArray} {w : World} {m : Int} {x p : Nat} (hs : s.size ≤ 140737488351232) (hm : w.cell? ⟨0, 0, none⟩ = some (.int .i64 m)) (ht : toks s.data.toList = .bad x p) :
    Calls Tryz.prog 85 #[.string s] w fun e w' => e = .returned (.tuple #[.slice none 0 0, .agg #[.int .i64 (x : Int), .int .i64 (p : Int)]]) ∧ Below w.heap.size w w' :=
  (tokens_any hs hm).mono fun e w' h => by unfold TokensPost at h; rw [ht] at h; exact ⟨h.2, h.1⟩
theorem toks_ne {s : List UInt8} {l : List Tok} (h : toks s = .good l) : 0 < l.length := by
  obtain ⟨ts, h1, _⟩ := toks_back s l h; rw [h1]; simp
theorem tokens_good {s : ByteArray} {w : World} {m : Int} {l : List Tok} (hs : s.size ≤ 140737488351232) (hm : w.cell? ⟨0, 0, none⟩ = some (.int .i64 m)) (ht : toks s.data.toList = .good l) :
    Calls Tryz.prog 85 #[.string s] w fun e w' => ∃ g cap, e = .returned (.tuple #[.slice (some ⟨g, 0, none⟩) l.length cap, .agg #[.int .i64 0, .int .i64 0]]) ∧ w.heap.size ≤ g ∧ g < w'.heap.size ∧ l.length ≤ cap ∧ cap ≤ maxLen ∧ IsToks w' g l ∧ Below w.heap.size w w' :=
  (tokens_any hs hm).mono fun e w' h => by
    unfold TokensPost at h; rw [ht] at h
    obtain ⟨hb, v, rfl, hown⟩ := h
    obtain ⟨g, cap, rfl, h1, h2, h3, h4, h5⟩ := toks_of_own hown (toks_ne ht)
    exact ⟨g, cap, rfl, h1, h2, h3, h4, h5, hb⟩

end Go.Proofs.YtghebacphjglbaaGreat.LexG
