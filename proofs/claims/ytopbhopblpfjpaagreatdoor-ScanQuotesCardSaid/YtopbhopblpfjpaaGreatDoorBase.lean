/- What walks of lexers share: bytes of a text, rows of tokens, cells. -/
import Derived.Test.YtopbhopblpfjpaaGreatDoorLexPlain
import Derived.Test.YtopbhopblpfjpaaGreatDoorHeap
import Derived.Test.YtopbhopblpfjpaaGreatDoorExt
import Derived.Test.YtopbhopblpfjpaaGreatDoorChecked
import Derived.WalkKit
import Derived.WalkLawsBesides
import Derived.WalkSpells
import Derived.Lib.Hide
import Derived.Deep.QuietTactic
import Derived.BigQuiet
import Derived.Deep.RegionWith
import Derived.Deep.LoopGhost
import Derived.Deep.DeepMust
import Derived.Handy
namespace Go.Proofs.YtopbhopblpfjpaaGreatDoor.Base
open Go.RowKit Go.Proofs.YtopbhopblpfjpaaGreatDoor.Lexy Go.Proofs.YtopbhopblpfjpaaGreatDoor.Heap

theorem ret_int {k : IntKind} {a b : Int} (h : a = b) : Ending.returned (.int k a) = .returned (.int k b) := by rw [h]
theorem grown_drewN (w : World) (n : Nat) (r : Option Nat) : w.grownBy (w.drewN n) r := ⟨rfl, rfl, rfl, Nat.le_refl _, fun _ _ _ => rfl⟩
/-- the byte at a place, or 0 -/
def byteAt (s : ByteArray) (k : Nat) : Nat := if h : k < s.size then s[k].toNat else 0
theorem byteAt_lt (s : ByteArray) (k : Nat) : byteAt s k < 256 := by
  unfold byteAt; split
  · exact UInt8.toNat_lt _
  · omega
theorem ret_bool {a b : Bool} (h : a = b) : Ending.returned (.bool a) = .returned (.bool b) := by rw [h]
/-- what is left of a text from a place on -/
def rest (s : ByteArray) (a : Nat) : List UInt8 := s.data.toList.drop a
theorem rest_cons {s : ByteArray} {a : Nat} (h : a < s.size) : ∃ c, rest s a = c :: rest s (a + 1) ∧ byteAt s a = c.toNat := by
  have h' : a < s.data.toList.length := by simpa using h
  refine ⟨s.data.toList[a], ?_, ?_⟩
  · unfold rest; exact List.drop_eq_getElem_cons h'
  · unfold byteAt; rw [dif_pos h]; rfl
theorem rest_nil {s : ByteArray} {a : Nat} (h : s.size ≤ a) : rest s a = [] ∧ byteAt s a = 0 := by
  constructor
  · unfold rest; exact List.drop_eq_nil_of_le (by simpa using h)
  · unfold byteAt; rw [dif_neg (by omega)]
theorem rest_len (s : ByteArray) (a : Nat) : (rest s a).length = s.size - a := by simp [rest]
theorem rest_drop (s : ByteArray) (a n : Nat) : (rest s a).drop n = rest s (a + n) := by simp [rest, List.drop_drop]
theorem ret_str {a b : ByteArray} (h : a = b) : Ending.returned (.string a) = .returned (.string b) := by rw [h]
theorem com_rest (s : ByteArray) (k : Nat) : comL (rest s k) = (decide (byteAt s k = 47) && decide (byteAt s (k + 1) = 47)) := by
  by_cases h : k < s.size
  · obtain ⟨c, h1, h2⟩ := rest_cons h
    rw [h1, h2]
    by_cases h' : k + 1 < s.size
    · obtain ⟨d, h3, h4⟩ := rest_cons h'
      rw [h3, h4]; rfl
    · rw [(rest_nil (s := s) (a := k + 1) (by omega)).1, (rest_nil (s := s) (a := k + 1) (by omega)).2]
      simp [comL]
  · rw [(rest_nil (s := s) (a := k) (by omega)).1, (rest_nil (s := s) (a := k) (by omega)).2]; rfl
/-- a list of bytes as a string -/
def bs (l : List UInt8) : ByteArray := ⟨l.toArray⟩
theorem bs_extract (s : ByteArray) (a n : Nat) (_h : a + n ≤ s.size) : s.extract a (a + n) = bs ((rest s a).take n) := by
  apply ByteArray.ext
  unfold bs rest
  apply Array.ext'
  simp [ByteArray.data_extract]
theorem bs_list (l : List UInt8) : (bs l).data.toList = l := by simp [bs]
theorem bs_toList (l : List UInt8) : (bs l).toList = l := by unfold bs; exact ByteArray.toList_mk l
theorem own_set {w : World} {base e size : Nat} {l : Value} {n : Nat} {xs : List Value} (h : w.ownsRow base e size l n xs) {T : Nat} (hT : l.ownBlock ≠ some T) (i : Nat) (v : Value) : (w.setCell ⟨T, i, none⟩ v).ownsRow base e size l n xs :=
  h.kept (grown_set w ⟨T, i, none⟩ v) (.inr hT)
theorem own_drewN {w : World} {base e size : Nat} {l : Value} {n : Nat} {xs : List Value} (h : w.ownsRow base e size l n xs) (k : Nat) : (w.drewN k).ownsRow base e size l n xs := h
theorem cells1 {w : World} {b : Nat} {u : Value} {t : TypeId} (h : w.heap[b]? = some (.cells #[u] t (0, 0))) : w.cell? ⟨b, 0, none⟩ = some u ∧ w.frozen? ⟨b, 0, none⟩ = false := by
  constructor
  · exact cell_of_row w b 0 #[u] t (0, 0) h
  · exact frozen_of_row w b 0 #[u] t h
theorem cells2 {w : World} {b : Nat} {u v : Value} {t : TypeId} (h : w.heap[b]? = some (.cells #[u, v] t (0, 0))) :
    w.cell? ⟨b, 0, none⟩ = some u ∧ w.cell? ⟨b, 1, none⟩ = some v ∧ w.frozen? ⟨b, 0, none⟩ = false ∧ w.frozen? ⟨b, 1, none⟩ = false :=
  ⟨cell_of_row w b 0 #[u, v] t (0, 0) h, cell_of_row w b 1 #[u, v] t (0, 0) h, frozen_of_row w b 0 #[u, v] t h, frozen_of_row w b 1 #[u, v] t h⟩
/-- tokens as cells -/
def cellsT (l : List Tok) : List Value := l.flatMap fun t => [.int .u8 (t.kind : Int), .string (bs t.text), .int .i64 (t.at_ : Int)]
theorem cellsT_snoc (l : List Tok) (k : Nat) (t : List UInt8) (a : Nat) : cellsT (l ++ [⟨k, t, a⟩]) = cellsT l ++ [.int .u8 (k : Int), .string (bs t), .int .i64 (a : Int)] := by simp [cellsT]
/-- tokens ahead of others -/
def app (d : List Tok) : Res → Res
  | .bad x p => .bad x p
  | .good l => .good (d ++ l)
theorem app_cons (d : List Tok) (t : Tok) (r : Res) : app d (r.cons t) = app (d ++ [t]) r := by cases r <;> simp [Res.cons, app]
theorem rest_zero (s : ByteArray) : rest s 0 = s.data.toList := by simp [rest]
theorem keep3 {w : World} {H g b : Nat} {O : Obj} {n0 n1 : Nat} {i : Nat} {v u : Value} (h : w.heap[H]? = some O) (h1 : H ≠ g) (h2 : H ≠ b) : ((((w.drewN n0).setCell ⟨g, 0, none⟩ v).drewN n1).setCell ⟨b, i, none⟩ u).heap[H]? = some O :=
  ((Below.heap_setCell _ _ _ _ h2).trans (Below.heap_setCell _ _ _ _ h1)).trans h
theorem keep2 {w : World} {H g : Nat} {O : Obj} {n0 n1 : Nat} {v : Value} (h : w.heap[H]? = some O) (h1 : H ≠ g) : (((w.drewN n0).setCell ⟨g, 0, none⟩ v).drewN n1).heap[H]? = some O :=
  (Below.heap_setCell _ _ _ _ h1).trans h
theorem head_rest0 (s : ByteArray) (k : Nat) : ((rest s k).headD 0).toNat = byteAt s k := by
  by_cases h : k < s.size
  · obtain ⟨c, h1, h2⟩ := rest_cons h
    rw [h1, h2]; rfl
  · rw [(rest_nil (s := s) (a := k) (by omega)).1, (rest_nil (s := s) (a := k) (by omega)).2]; rfl
theorem _root_.Go.RowKit.Below.drewN {B : Nat} {w w' : World} (h : Below B w w') (n : Nat) : Below B w (w'.drewN n) := h.trans ⟨rfl, rfl, rfl, Nat.le_refl _, fun _ _ => rfl⟩
/-- the token at a place of a list -/
def tk (l : List Tok) (i : Nat) : Tok := l.getD i ⟨0, [], 0⟩
/-- tokens lie in a block -/
def IsToks (w : World) (g : Nat) (l : List Tok) : Prop :=
  ∀ i, i < l.length → w.cell? ⟨g, i * 3, none⟩ = some (.int .u8 ((tk l i).kind : Int)) ∧ w.cell? ⟨g, i * 3 + 1, none⟩ = some (.string (bs (tk l i).text)) ∧ w.cell? ⟨g, i * 3 + 2, none⟩ = some (.int .i64 ((tk l i).at_ : Int))
theorem cellsT_get (l : List Tok) : ∀ i, i < l.length → (cellsT l)[i * 3]? = some (.int .u8 ((tk l i).kind : Int)) ∧ (cellsT l)[i * 3 + 1]? = some (.string (bs (tk l i).text)) ∧ (cellsT l)[i * 3 + 2]? = some (.int .i64 ((tk l i).at_ : Int)) := by
  induction l with
  | nil => intro i h; simp at h
  | cons t l ih =>
    intro i h
    cases i with
    | zero => simp [cellsT, tk]
    | succ i =>
      have := ih i (by simp at h; omega)
      have e : ∀ j, (cellsT (t :: l))[(i + 1) * 3 + j]? = (cellsT l)[i * 3 + j]? := by
        intro j
        show (([.int .u8 (t.kind : Int), .string (bs t.text), .int .i64 (t.at_ : Int)] : List Value) ++ cellsT l)[(i + 1) * 3 + j]? = _
        rw [List.getElem?_append_right (by simp; omega)]
        congr 1; simp; omega
      have e0 := e 0
      simp only [Nat.add_zero] at e0
      rw [e0, e 1, e 2]
      exact this
/-- what is owned, as tokens in a block -/
theorem toks_of_own {w : World} {base : Nat} {v : Value} {l : List Tok} (h : w.ownsRow base 50 3 v l.length (cellsT l)) (hl : 0 < l.length) :
    ∃ g cap, v = .slice (some ⟨g, 0, none⟩) l.length cap ∧ base ≤ g ∧ g < w.heap.size ∧ l.length ≤ cap ∧ cap ≤ maxLen ∧ IsToks w g l := by
  have h0 := h
  rcases h.2 with ⟨_, hn⟩ | ⟨g, cap, cur, rfl, hb, hg, h1, h2, h3, _⟩
  · omega
  · refine ⟨g, cap, rfl, hb, (Array.getElem?_eq_some_iff.1 hg).1, h1, h2, fun i hi => ?_⟩
    have hc := cellsT_get l i hi
    rw [h0.cellAt (i * 3) (by omega), h0.cellAt (i * 3 + 1) (by omega), h0.cellAt (i * 3 + 2) (by omega)]
    exact hc
theorem IsToks.below {w w' : World} {B g : Nat} {l : List Tok} (h : IsToks w g l) (hb : Below B w w') (hg : g < B) : IsToks w' g l := by
  intro i hi
  rw [hb.cell (p := ⟨g, i * 3, none⟩) hg, hb.cell (p := ⟨g, i * 3 + 1, none⟩) hg, hb.cell (p := ⟨g, i * 3 + 2, none⟩) hg]
  exact h i hi
theorem IsToks.drewN {w : World} {g : Nat} {l : List Tok} (h : IsToks w g l) (n : Nat) : IsToks (w.drewN n) g l := h
theorem str_eq (l : List UInt8) (s : ByteArray) : ((bs l).toList == s.toList) = decide (l = s.data.toList) := by
  rw [bs_toList, ByteArray.toList_eq]
  by_cases h : l = s.data.toList
  · rw [decide_eq_true h]; exact beq_iff_eq.2 h
  · rw [decide_eq_false h]; exact beq_eq_false_iff_ne.2 h
/-- texts lie in a block -/
def IsStrs (w : World) (g : Nat) (L : List (List UInt8)) : Prop := ∀ i, i < L.length → w.cell? ⟨g, i, none⟩ = some (.string (bs (L.getD i [])))
end Go.Proofs.YtopbhopblpfjpaaGreatDoor.Base
