/- Memory as a list of cells in blocks that differ; the small text, copied, in memory. -/
import Derived.Test.YtghebacphjglbaaGreatCopy
import Derived.Test.YtghebacphjglbaaGreatLaw12A
import Derived.Test.YtghebacphjglbaaGreatM2
import Derived.Test.YtghebacphjglbaaGreatM1
import Derived.Test.YtghebacphjglbaaGreatWrK
import Derived.Test.YtghebacphjglbaaGreatWrO
import Derived.Test.YtghebacphjglbaaGreatM6
import Derived.Deep.AppendLies
import Derived.Shelf.RegionOpenPlain
namespace Go.Proofs.YtghebacphjglbaaGreat.BentA
open Go Go.RowKit Go.Proofs.YtghebacphjglbaaGreat.Lexy Go.Proofs.YtghebacphjglbaaGreat.LexA Go.Proofs.YtghebacphjglbaaGreat.LexB Go.Proofs.YtghebacphjglbaaGreat.LexC Go.Proofs.YtghebacphjglbaaGreat.LexD Go.Proofs.YtghebacphjglbaaGreat.LexE Go.Proofs.YtghebacphjglbaaGreat.LexF Go.Proofs.YtghebacphjglbaaGreat.LexG Go.Proofs.YtghebacphjglbaaGreat.Heap Go.Proofs.YtghebacphjglbaaGreat.Dat Go.Proofs.YtghebacphjglbaaGreat.Ready Go.Proofs.YtghebacphjglbaaGreat.ReadA Go.Proofs.YtghebacphjglbaaGreat.ReadC Go.Proofs.YtghebacphjglbaaGreat.ReadH Go.Proofs.YtghebacphjglbaaGreat.ReadI Go.Proofs.YtghebacphjglbaaGreat.ReadM Go.Proofs.YtghebacphjglbaaGreat.ReadO Go.Proofs.YtghebacphjglbaaGreat.Same Go.Proofs.YtghebacphjglbaaGreat.Law12A

theorem nodup_inj : ∀ {L : List Nat} (_ : L.Nodup) {i j : Nat} (hi : i < L.length) (hj : j < L.length), L[i] = L[j] → i = j
  | x :: L, h, 0, 0, _, _, _ => rfl
  | x :: L, h, 0, j + 1, _, hj, e => by
    rw [List.nodup_cons] at h
    exact absurd (show x ∈ L by have e' : x = L[j]'(by simpa using hj) := by simpa using e
                                rw [e']; exact List.getElem_mem _) h.1
  | x :: L, h, i + 1, 0, hi, _, e => by
    rw [List.nodup_cons] at h
    exact absurd (show x ∈ L by have e' : L[i]'(by simpa using hi) = x := by simpa using e
                                rw [← e']; exact List.getElem_mem _) h.1
  | x :: L, h, i + 1, j + 1, hi, hj, e => by
    rw [List.nodup_cons] at h
    have := nodup_inj h.2 (i := i) (j := j) (by simpa using hi) (by simpa using hj) (by simpa using e)
    omega
/-- cells: a block's number, an offset, what is there -/
def Has (W : World) (L : List Nat) (M : List (Nat × Nat × Value)) : Prop := ∀ (k : Nat) (c : Nat × Nat × Value), M[k]? = some c → ∃ b, L[c.1]? = some b ∧ W.cell? ⟨b, c.2.1, none⟩ = some c.2.2 ∧ W.frozen? ⟨b, c.2.1, none⟩ = false
def upd (M : List (Nat × Nat × Value)) (i o : Nat) (v : Value) : List (Nat × Nat × Value) := M.map fun c => if c.1 = i ∧ c.2.1 = o then (i, o, v) else c
theorem Has.set {W : World} {L : List Nat} {M : List (Nat × Nat × Value)} (hL : L.Nodup) (h : Has W L M) (i o : Nat) (v : Value) {b : Nat} (hb : L[i]? = some b) : Has (W.setCell ⟨b, o, none⟩ v) L (upd M i o v) := by
  intro k c hc
  unfold upd at hc
  rw [List.getElem?_map] at hc
  obtain ⟨c0, h0, rfl⟩ := Option.map_eq_some_iff.1 hc
  obtain ⟨b0, hb0, hcell, hfro⟩ := h k c0 h0
  have hf2 : (W.setCell ⟨b, o, none⟩ v).frozen? ⟨b0, c0.2.1, none⟩ = false := by rw [World.frozen?_setCell]; exact hfro
  by_cases hm : c0.1 = i ∧ c0.2.1 = o
  · rw [if_pos hm]
    obtain ⟨rfl, rfl⟩ := hm
    obtain rfl : b0 = b := Option.some.inj (hb0.symm.trans hb)
    exact ⟨b0, hb0, World.cell?_setCell_same _ _ _ hcell, hf2⟩
  · rw [if_neg hm]
    refine ⟨b0, hb0, (World.cell?_setCell_other W ⟨b, o, none⟩ ⟨b0, c0.2.1, none⟩ _ (fun e => hm ?_)).trans hcell, hf2⟩
    cases e
    refine ⟨?_, rfl⟩
    obtain ⟨h1, h2⟩ := List.getElem?_eq_some_iff.1 hb0
    obtain ⟨h3, h4⟩ := List.getElem?_eq_some_iff.1 hb
    exact nodup_inj hL h1 h3 (h2.trans h4.symm)
theorem Has.other {W W' : World} {L : List Nat} {M : List (Nat × Nat × Value)} (h : Has W L M) (hk : ∀ b ∈ L, W'.heap[b]? = W.heap[b]?) : Has W' L M := by
  intro k c hc
  obtain ⟨b, hb, h1, h2⟩ := h k c hc
  have hm := hk b (List.mem_of_getElem? hb)
  exact ⟨b, hb, (World.cell?_of_block (w := W) hm).trans h1, (World.frozen?_of_block (w := W) hm).trans h2⟩
theorem Has.cell {W : World} {L : List Nat} {M : List (Nat × Nat × Value)} (h : Has W L M) (k : Nat) {i o : Nat} {v : Value} {b : Nat} (hk : M[k]? = some (i, o, v)) (hb : L[i]? = some b) : W.cell? ⟨b, o, none⟩ = some v := by
  obtain ⟨b', h1, h2, _⟩ := h k _ hk
  obtain rfl : b' = b := Option.some.inj (h1.symm.trans hb)
  exact h2
theorem Has.fro {W : World} {L : List Nat} {M : List (Nat × Nat × Value)} (h : Has W L M) (k : Nat) {i o : Nat} {v : Value} {b : Nat} (hk : M[k]? = some (i, o, v)) (hb : L[i]? = some b) : W.frozen? ⟨b, o, none⟩ = false := by
  obtain ⟨b', h1, _, h2⟩ := h k _ hk
  obtain rfl : b' = b := Option.some.inj (h1.symm.trans hb)
  exact h2
/-- cells, but of one block -/
def HasX (W : World) (L : List Nat) (M : List (Nat × Nat × Value)) (j : Nat) : Prop := ∀ (k : Nat) (c : Nat × Nat × Value), M[k]? = some c → c.1 ≠ j → ∃ b, L[c.1]? = some b ∧ W.cell? ⟨b, c.2.1, none⟩ = some c.2.2
theorem Has.but {W W' : World} {L : List Nat} {M : List (Nat × Nat × Value)} (h : Has W L M) (hL : L.Nodup) (j : Nat) {p : Nat} (hj : L[j]? = some p) (hk : ∀ b ∈ L, b ≠ p → W'.heap[b]? = W.heap[b]?) : HasX W' L M j := by
  intro k c hc hne
  obtain ⟨b, hb, h1, _⟩ := h k c hc
  refine ⟨b, hb, (World.cell?_of_block (w := W) (hk b (List.mem_of_getElem? hb) fun e => hne ?_)).trans h1⟩
  obtain ⟨h3, h4⟩ := List.getElem?_eq_some_iff.1 hb
  obtain ⟨h5, h6⟩ := List.getElem?_eq_some_iff.1 hj
  exact nodup_inj hL h3 h5 (h4.trans (e.trans h6.symm))
theorem HasX.set {W : World} {L : List Nat} {M : List (Nat × Nat × Value)} {j : Nat} (hL : L.Nodup) (h : HasX W L M j) (i o : Nat) (v : Value) {b : Nat} (hb : L[i]? = some b) : HasX (W.setCell ⟨b, o, none⟩ v) L (upd M i o v) j := by
  intro k c hc hne
  unfold upd at hc
  rw [List.getElem?_map] at hc
  obtain ⟨c0, h0, rfl⟩ := Option.map_eq_some_iff.1 hc
  by_cases hm : c0.1 = i ∧ c0.2.1 = o
  · rw [if_pos hm] at hne ⊢
    obtain ⟨rfl, rfl⟩ := hm
    obtain ⟨b0, hb0, hcell⟩ := h k c0 h0 hne
    obtain rfl : b0 = b := Option.some.inj (hb0.symm.trans hb)
    exact ⟨b0, hb0, World.cell?_setCell_same _ _ _ hcell⟩
  · rw [if_neg hm] at hne ⊢
    obtain ⟨b0, hb0, hcell⟩ := h k c0 h0 hne
    refine ⟨b0, hb0, (World.cell?_setCell_other W ⟨b, o, none⟩ ⟨b0, c0.2.1, none⟩ _ (fun e => hm ?_)).trans hcell⟩
    cases e
    refine ⟨?_, rfl⟩
    obtain ⟨h1, h2⟩ := List.getElem?_eq_some_iff.1 hb0
    obtain ⟨h3, h4⟩ := List.getElem?_eq_some_iff.1 hb
    exact nodup_inj hL h1 h3 (h2.trans h4.symm)
theorem HasX.other {W W' : World} {L : List Nat} {M : List (Nat × Nat × Value)} {j : Nat} (h : HasX W L M j) (hk : ∀ b ∈ L, W'.heap[b]? = W.heap[b]?) : HasX W' L M j := by
  intro k c hc hne
  obtain ⟨b, hb, h1⟩ := h k c hc hne
  exact ⟨b, hb, (World.cell?_of_block (w := W) (hk b (List.mem_of_getElem? hb))).trans h1⟩
theorem HasX.cell {W : World} {L : List Nat} {M : List (Nat × Nat × Value)} {j : Nat} (h : HasX W L M j) (k : Nat) {i o : Nat} {v : Value} {b : Nat} (hk : M[k]? = some (i, o, v)) (hb : L[i]? = some b) (hne : i ≠ j := by decide) : W.cell? ⟨b, o, none⟩ = some v := by
  obtain ⟨b', h1, h2⟩ := h k _ hk hne
  obtain rfl : b' = b := Option.some.inj (h1.symm.trans hb)
  exact h2
theorem lies_one {w : World} {B E S n : Nat} {items : List Dat} {v : Value} {bk : List Nat} (h : Lies w B (.row E S n items) v bk) (hn : n ≠ 0) :
    ∃ g cap xs bs', v = .slice (some ⟨g, 0, none⟩) n cap ∧ B ≤ g ∧ g < w.heap.size ∧ LiesL w B items xs bs' ∧ bk = g :: bs' ∧ w.ownsRow B E S v n xs ∧ ∀ (k : Nat) (u : Value), xs[k]? = some u → w.cell? ⟨g, k, none⟩ = some u ∧ w.frozen? ⟨g, k, none⟩ = false := by
  rw [Lies.row_iff] at h
  obtain ⟨h1, h2⟩ := h
  rcases h2 with ⟨h0, _⟩ | ⟨g, cap, xs, bs', rfl, ho, hl, rfl⟩
  · exact absurd h0 hn
  · refine ⟨g, cap, xs, bs', rfl, (own_lt ho).1, (own_lt ho).2, hl, rfl, ho, fun k u hk => ⟨?_, ho.frozenAt k⟩⟩
    rw [ho.cellAt k (by rw [← ho.1]; exact (List.getElem?_eq_some_iff.1 hk).1)]; exact hk
/-- a row of nothing -/
def Zero (v : Value) : Prop := ∃ a c, v = .slice a 0 c ∧ (a = none → c = 0)
theorem Zero.reads {v : Value} (h : Zero v) (w : World) (E : TypeId) (S : Nat) : Reads w (.row E S 0 []) v := by
  obtain ⟨a, c, rfl, hc⟩ := h
  refine Reads.row_iff.2 ⟨by simp, Nat.zero_le _, a, c, rfl, ?_⟩
  cases a with
  | none => exact .inl ⟨rfl, rfl, hc rfl⟩
  | some ad => exact .inr (.inr ⟨ad, rfl, rfl⟩)
theorem lies_zero {w : World} {B E S : Nat} {v : Value} {bk : List Nat} (h : Lies w B (.row E S 0 []) v bk) : Zero v := by
  rw [Lies.row_iff] at h
  rcases h.2 with ⟨_, rfl, _⟩ | ⟨g, cap, xs, bs', rfl, _⟩
  · exact ⟨_, _, rfl, fun _ => rfl⟩
  · exact ⟨_, _, rfl, fun e => by cases e⟩
theorem lies_lit {w : World} {B : Nat} {u : Value} {ds : List Dat} {xs : List Value} {bs : List Nat} (h : LiesL w B (.lit u :: ds) xs bs) : ∃ xs', xs = u :: xs' ∧ LiesL w B ds xs' bs := by
  rw [LiesL.cons] at h
  obtain ⟨x, xs', b1, b2, rfl, rfl, h1, h2⟩ := h
  rw [Lies.lit_iff] at h1
  obtain ⟨rfl, rfl⟩ := h1
  exact ⟨xs', rfl, by simpa using h2⟩
theorem lies_row {w : World} {B E S n : Nat} {it : List Dat} {ds : List Dat} {xs : List Value} {bs : List Nat} (h : LiesL w B (.row E S n it :: ds) xs bs) : ∃ x xs' b1 b2, xs = x :: xs' ∧ bs = b1 ++ b2 ∧ Lies w B (.row E S n it) x b1 ∧ LiesL w B ds xs' b2 := LiesL.cons.1 h
/-- the small text's cells: blocks D N R P A U V X -/
def memS (_D N _R P A U V X cN cP cA cU cV cX : Nat) (z0 z1 z2 : Value) : List (Nat × Nat × Value) :=
  [(0, 0, .string (bs [116, 111, 107, 101, 110])), (0, 1, .string (bs [105, 110, 116])), (0, 2, .slice (some ⟨N, 0, none⟩) 1 cN), (0, 3, .int .i64 0),
   (1, 0, .string (bs [78])),
   (2, 0, .string (bs [108])), (2, 1, .slice (some ⟨P, 0, none⟩) 1 cP), (2, 2, .slice (some ⟨A, 0, none⟩) 2 cA), (2, 3, .int .i64 0),
   (3, 0, .string (bs [88])),
   (4, 0, .slice (some ⟨U, 0, none⟩) 1 cU), (4, 1, .string (bs [])), (4, 2, .bool false), (4, 3, .string (bs [])), (4, 4, .int .i64 0), (4, 5, .int .i64 0),
   (4, 6, .slice (some ⟨V, 0, none⟩) 2 cV), (4, 7, .string (bs [78])), (4, 8, .bool true), (4, 9, .string (bs [97])), (4, 10, .int .i64 0), (4, 11, .int .i64 0),
   (5, 0, .string (bs [88])), (5, 1, z0), (5, 2, .int .i64 0),
   (6, 0, .string (bs [108])), (6, 1, .slice (some ⟨X, 0, none⟩) 1 cX), (6, 2, .int .i64 0), (6, 3, .string (bs [78])), (6, 4, z1), (6, 5, .int .i64 0),
   (7, 0, .string (bs [88])), (7, 1, z2), (7, 2, .int .i64 0)]
theorem small_mem {w : World} {B : Nat} {v0 v1 : Value} {k0 k1 : List Nat} (h0 : Lies w B (.row 62 4 smallT.decls.length (desD smallT.decls)) v0 k0) (h1 : Lies w B (.row 38 4 smallT.rules.length (rusD smallT.rules)) v1 k1) (hnd : (k0 ++ k1).Nodup) :
    ∃ D N R P A U V X q0 q1 cN cP cA cU cV cX z0 z1 z2, v0 = .slice (some ⟨D, 0, none⟩) 1 q0 ∧ v1 = .slice (some ⟨R, 0, none⟩) 1 q1 ∧ [D, N, R, P, A, U, V, X].Nodup ∧ (∀ b ∈ [D, N, R, P, A, U, V, X], B ≤ b ∧ b < w.heap.size) ∧ Zero z0 ∧ Zero z1 ∧ Zero z2 ∧ Has w [D, N, R, P, A, U, V, X] (memS D N R P A U V X cN cP cA cU cV cX z0 z1 z2) ∧
      w.ownsRow B 62 4 (.slice (some ⟨D, 0, none⟩) 1 q0) 1 [.string (bs [116, 111, 107, 101, 110]), .string (bs [105, 110, 116]), .slice (some ⟨N, 0, none⟩) 1 cN, .int .i64 0] ∧ w.ownsRow B 9 1 (.slice (some ⟨P, 0, none⟩) 1 cP) 1 [.string (bs [88])] := by
  obtain ⟨D, q0, xD, bD, rfl, d1, d2, lD, rfl, oD, cD⟩ := lies_one h0 (by decide)
  obtain ⟨R, q1, xR, bR, rfl, r1, r2, lR, rfl, oR, cR⟩ := lies_one h1 (by decide)
  have eD : desD smallT.decls = [.lit (.string (bs [116, 111, 107, 101, 110])), .lit (.string (bs [105, 110, 116])), .row 9 1 1 [.lit (.string (bs [78]))], .lit (.int .i64 0)] := rfl
  have eR : rusD smallT.rules = [.lit (.string (bs [108])), .row 9 1 1 [.lit (.string (bs [88]))], .row 35 6 2 [.row 33 3 1 [.lit (.string (bs [88])), .row 33 3 0 [], .lit (.int .i64 0)], .lit (.string (bs [])), .lit (.bool false), .lit (.string (bs [])), .lit (.int .i64 0), .lit (.int .i64 0), .row 33 3 2 [.lit (.string (bs [108])), .row 33 3 1 [.lit (.string (bs [88])), .row 33 3 0 [], .lit (.int .i64 0)], .lit (.int .i64 0), .lit (.string (bs [78])), .row 33 3 0 [], .lit (.int .i64 0)], .lit (.string (bs [78])), .lit (.bool true), .lit (.string (bs [97])), .lit (.int .i64 0), .lit (.int .i64 0)], .lit (.int .i64 0)] := by
    simp [smallT, rusD, ruD, alsD, alD, nmsD, wdsD, wdD]
  rw [eD] at lD
  rw [eR] at lR
  -- the declaration
  obtain ⟨tlD1, rfl, lD1⟩ := lies_lit lD
  obtain ⟨tlD2, rfl, lD2⟩ := lies_lit lD1
  obtain ⟨xN, tlD3, bN, slD3, rfl, rfl, hN, lD3⟩ := lies_row lD2
  obtain ⟨tlD4, rfl, lD4⟩ := lies_lit lD3
  rw [LiesL.nil] at lD4
  obtain ⟨rfl, rfl⟩ := lD4
  obtain ⟨N, cN, yN, bN', rfl, n1, n2, lN, rfl, oN, ccN⟩ := lies_one hN (by decide)
  obtain ⟨tlN1, rfl, lN1⟩ := lies_lit lN
  rw [LiesL.nil] at lN1
  obtain ⟨rfl, rfl⟩ := lN1
  -- the rule
  obtain ⟨tlR1, rfl, lR1⟩ := lies_lit lR
  obtain ⟨xP, tlR2, bP, slR2, rfl, rfl, hP, lR2⟩ := lies_row lR1
  obtain ⟨xA, tlR3, bA, slR3, rfl, rfl, hA, lR3⟩ := lies_row lR2
  obtain ⟨tlR4, rfl, lR4⟩ := lies_lit lR3
  rw [LiesL.nil] at lR4
  obtain ⟨rfl, rfl⟩ := lR4
  obtain ⟨P, cP, yP, bP', rfl, p1, p2, lP, rfl, oP, ccP⟩ := lies_one hP (by decide)
  obtain ⟨tlP1, rfl, lP1⟩ := lies_lit lP
  rw [LiesL.nil] at lP1
  obtain ⟨rfl, rfl⟩ := lP1
  -- the alternatives
  obtain ⟨A, cA, yA, bA', rfl, a1, a2, lA, rfl, oA, ccA⟩ := lies_one hA (by decide)
  obtain ⟨xU, tlA1, bU, slA1, rfl, rfl, hU, lA1⟩ := lies_row lA
  obtain ⟨tlA2, rfl, lA2⟩ := lies_lit lA1
  obtain ⟨tlA3, rfl, lA3⟩ := lies_lit lA2
  obtain ⟨tlA4, rfl, lA4⟩ := lies_lit lA3
  obtain ⟨tlA5, rfl, lA5⟩ := lies_lit lA4
  obtain ⟨tlA6, rfl, lA6⟩ := lies_lit lA5
  obtain ⟨xV, tlA7, bV, slA7, rfl, rfl, hV, lA7⟩ := lies_row lA6
  obtain ⟨tlA8, rfl, lA8⟩ := lies_lit lA7
  obtain ⟨tlA9, rfl, lA9⟩ := lies_lit lA8
  obtain ⟨tlA10, rfl, lA10⟩ := lies_lit lA9
  obtain ⟨tlA11, rfl, lA11⟩ := lies_lit lA10
  obtain ⟨tlA12, rfl, lA12⟩ := lies_lit lA11
  rw [LiesL.nil] at lA12
  obtain ⟨rfl, rfl⟩ := lA12
  -- the words
  obtain ⟨U, cU, yU, bU', rfl, u1, u2, lU, rfl, oU, ccU⟩ := lies_one hU (by decide)
  obtain ⟨tlU1, rfl, lU1⟩ := lies_lit lU
  obtain ⟨z0, tlU2, b0, slU2, rfl, rfl, hz0, lU2⟩ := lies_row lU1
  obtain ⟨tlU3, rfl, lU3⟩ := lies_lit lU2
  rw [LiesL.nil] at lU3
  obtain ⟨rfl, rfl⟩ := lU3
  obtain ⟨V, cV, yV, bV', rfl, v1, v2, lV, rfl, oV, ccV⟩ := lies_one hV (by decide)
  obtain ⟨tlV1, rfl, lV1⟩ := lies_lit lV
  obtain ⟨xX, tlV2, bX, slV2, rfl, rfl, hX, lV2⟩ := lies_row lV1
  obtain ⟨tlV3, rfl, lV3⟩ := lies_lit lV2
  obtain ⟨tlV4, rfl, lV4⟩ := lies_lit lV3
  obtain ⟨z1, tlV5, b1, slV5, rfl, rfl, hz1, lV5⟩ := lies_row lV4
  obtain ⟨tlV6, rfl, lV6⟩ := lies_lit lV5
  rw [LiesL.nil] at lV6
  obtain ⟨rfl, rfl⟩ := lV6
  obtain ⟨X, cX, yX, bX', rfl, x1, x2, lX, rfl, oX, ccX⟩ := lies_one hX (by decide)
  obtain ⟨tlX1, rfl, lX1⟩ := lies_lit lX
  obtain ⟨z2, tlX2, b2, slX2, rfl, rfl, hz2, lX2⟩ := lies_row lX1
  obtain ⟨tlX3, rfl, lX3⟩ := lies_lit lX2
  rw [LiesL.nil] at lX3
  obtain ⟨rfl, rfl⟩ := lX3
  refine ⟨D, N, R, P, A, U, V, X, q0, q1, cN, cP, cA, cU, cV, cX, z0, z1, z2, rfl, rfl, ?_, ?_, lies_zero hz0, lies_zero hz1, lies_zero hz2, ?_, oD, oP⟩
  · refine List.Nodup.sublist ?_ hnd
    simp only [List.append_nil, List.cons_append, List.nil_append]
    refine .cons_cons _ (.cons_cons _ (.cons_cons _ (.cons_cons _ (.cons_cons _ (.cons_cons _ ?_)))))
    refine List.Sublist.trans ?_ (List.sublist_append_right b0 _)
    refine .cons_cons _ (.cons_cons _ ?_)
    exact List.nil_sublist _
  · intro b hb
    simp only [List.mem_cons, List.not_mem_nil, or_false] at hb
    rcases hb with rfl | rfl | rfl | rfl | rfl | rfl | rfl | rfl <;> constructor <;> assumption
  · intro k c hk
    have hlt := (List.getElem?_eq_some_iff.1 hk).1
    have hlt : k < 34 := hlt
    rcases (by omega : k = 0 ∨ k = 1 ∨ k = 2 ∨ k = 3 ∨ k = 4 ∨ k = 5 ∨ k = 6 ∨ k = 7 ∨ k = 8 ∨ k = 9 ∨ k = 10 ∨ k = 11 ∨ k = 12 ∨ k = 13 ∨ k = 14 ∨ k = 15 ∨ k = 16 ∨ k = 17 ∨ k = 18 ∨ k = 19 ∨ k = 20 ∨ k = 21 ∨ k = 22 ∨ k = 23 ∨ k = 24 ∨ k = 25 ∨ k = 26 ∨ k = 27 ∨ k = 28 ∨ k = 29 ∨ k = 30 ∨ k = 31 ∨ k = 32 ∨ k = 33) with rfl | rfl | rfl | rfl | rfl | rfl | rfl | rfl | rfl | rfl | rfl | rfl | rfl | rfl | rfl | rfl | rfl | rfl | rfl | rfl | rfl | rfl | rfl | rfl | rfl | rfl | rfl | rfl | rfl | rfl | rfl | rfl | rfl | rfl
    all_goals (cases hk)
    iterate 4 exact ⟨D, rfl, cD _ _ rfl⟩
    iterate 1 exact ⟨N, rfl, ccN _ _ rfl⟩
    iterate 4 exact ⟨R, rfl, cR _ _ rfl⟩
    iterate 1 exact ⟨P, rfl, ccP _ _ rfl⟩
    iterate 12 exact ⟨A, rfl, ccA _ _ rfl⟩
    iterate 3 exact ⟨U, rfl, ccU _ _ rfl⟩
    iterate 6 exact ⟨V, rfl, ccV _ _ rfl⟩
    iterate 3 exact ⟨X, rfl, ccX _ _ rfl⟩
end Go.Proofs.YtghebacphjglbaaGreat.BentA
/- The law's bent: the text copied, pointers into it; what is read of a text in memory. (Printed by bent_gen.py.) -/
namespace Go.Proofs.YtghebacphjglbaaGreat.BentB
open Go Go.RowKit Go.Proofs.YtghebacphjglbaaGreat.Lexy Go.Proofs.YtghebacphjglbaaGreat.LexA Go.Proofs.YtghebacphjglbaaGreat.LexB Go.Proofs.YtghebacphjglbaaGreat.LexC Go.Proofs.YtghebacphjglbaaGreat.LexD Go.Proofs.YtghebacphjglbaaGreat.LexE Go.Proofs.YtghebacphjglbaaGreat.LexF Go.Proofs.YtghebacphjglbaaGreat.LexG Go.Proofs.YtghebacphjglbaaGreat.Heap Go.Proofs.YtghebacphjglbaaGreat.Dat Go.Proofs.YtghebacphjglbaaGreat.Ready Go.Proofs.YtghebacphjglbaaGreat.ReadA Go.Proofs.YtghebacphjglbaaGreat.ReadC Go.Proofs.YtghebacphjglbaaGreat.ReadH Go.Proofs.YtghebacphjglbaaGreat.ReadI Go.Proofs.YtghebacphjglbaaGreat.ReadM Go.Proofs.YtghebacphjglbaaGreat.ReadO Go.Proofs.YtghebacphjglbaaGreat.Same Go.Proofs.YtghebacphjglbaaGreat.WrO Go.Proofs.YtghebacphjglbaaGreat.WrK Go.Proofs.YtghebacphjglbaaGreat.Law12A Go.Proofs.YtghebacphjglbaaGreat.BentA

theorem rd_row {W : World} {b n S c : Nat} {E : TypeId} {items : List Dat} (hl : items.length = n * S) (hm : n ≤ maxLen) (hr : ReadsL W b 0 items) : Reads W (.row E S n items) (.slice (some ⟨b, 0, none⟩) n c) :=
  Reads.row_iff.2 ⟨hl, hm, _, _, rfl, .inr (.inl ⟨_, _, rfl, hr⟩)⟩
theorem rd_str1 {W : World} {N c : Nat} {a : List UInt8} (h : W.cell? ⟨N, 0, none⟩ = some (.string (bs a))) : Reads W (.row 9 1 1 (nmsD [a])) (.slice (some ⟨N, 0, none⟩) 1 c) := rd_row rfl (by decide) (reads_lit h reads_end)
theorem rd_str2 {W : World} {N c : Nat} {a b : List UInt8} (h : W.cell? ⟨N, 0, none⟩ = some (.string (bs a))) (k : W.cell? ⟨N, 1, none⟩ = some (.string (bs b))) : Reads W (.row 9 1 2 (nmsD [a, b])) (.slice (some ⟨N, 0, none⟩) 2 c) := rd_row rfl (by decide) (reads_lit h (reads_lit k reads_end))
theorem rd_word1 {W : World} {U c : Nat} {n : List UInt8} {v : Value} {ws : List Wd} {z : Int} (h0 : W.cell? ⟨U, 0, none⟩ = some (.string (bs n))) (h1 : W.cell? ⟨U, 1, none⟩ = some v) (h2 : W.cell? ⟨U, 2, none⟩ = some (.int .i64 z)) (hv : Reads W (.row 33 3 ws.length (wdsD ws)) v) :
    Reads W (.row 33 3 1 (wdsD [.mk n ws z])) (.slice (some ⟨U, 0, none⟩) 1 c) := by
  have e : wdsD [.mk n ws z] = [.lit (.string (bs n)), .row 33 3 ws.length (wdsD ws), .lit (.int .i64 z)] := by rw [wdsD_cons, wdsD_nil, wdD]; rfl
  rw [e]
  exact rd_row rfl (by decide) (reads_lit h0 (reads_at h1 hv (reads_lit h2 reads_end)))
theorem rd_word2 {W : World} {U c : Nat} {n n2 : List UInt8} {v v2 : Value} {ws ws2 : List Wd} {z z2 : Int} (h0 : W.cell? ⟨U, 0, none⟩ = some (.string (bs n))) (h1 : W.cell? ⟨U, 1, none⟩ = some v) (h2 : W.cell? ⟨U, 2, none⟩ = some (.int .i64 z)) (hv : Reads W (.row 33 3 ws.length (wdsD ws)) v)
    (k0 : W.cell? ⟨U, 3, none⟩ = some (.string (bs n2))) (k1 : W.cell? ⟨U, 4, none⟩ = some v2) (k2 : W.cell? ⟨U, 5, none⟩ = some (.int .i64 z2)) (kv : Reads W (.row 33 3 ws2.length (wdsD ws2)) v2) :
    Reads W (.row 33 3 2 (wdsD [.mk n ws z, .mk n2 ws2 z2])) (.slice (some ⟨U, 0, none⟩) 2 c) := by
  have e : wdsD [.mk n ws z, .mk n2 ws2 z2] = [.lit (.string (bs n)), .row 33 3 ws.length (wdsD ws), .lit (.int .i64 z), .lit (.string (bs n2)), .row 33 3 ws2.length (wdsD ws2), .lit (.int .i64 z2)] := by rw [wdsD_cons, wdsD_cons, wdsD_nil, wdD, wdD]; rfl
  rw [e]
  exact rd_row rfl (by decide) (reads_lit h0 (reads_at h1 hv (reads_lit h2 (reads_lit k0 (reads_at k1 kv (reads_lit k2 reads_end))))))
theorem rd_alts {W : World} {A c : Nat} {x y : Al} {vx vy : Value} (h0 : W.cell? ⟨A, 0, none⟩ = some vx) (hx : Reads W (.row 33 3 x.words.length (wdsD x.words)) vx) (h1 : W.cell? ⟨A, 1, none⟩ = some (.string (bs x.prec))) (h2 : W.cell? ⟨A, 2, none⟩ = some (.bool x.has)) (h3 : W.cell? ⟨A, 3, none⟩ = some (.string (bs x.action))) (h4 : W.cell? ⟨A, 4, none⟩ = some (.int .i64 x.whr)) (h5 : W.cell? ⟨A, 5, none⟩ = some (.int .i64 x.at_))
    (k0 : W.cell? ⟨A, 6, none⟩ = some vy) (hy : Reads W (.row 33 3 y.words.length (wdsD y.words)) vy) (k1 : W.cell? ⟨A, 7, none⟩ = some (.string (bs y.prec))) (k2 : W.cell? ⟨A, 8, none⟩ = some (.bool y.has)) (k3 : W.cell? ⟨A, 9, none⟩ = some (.string (bs y.action))) (k4 : W.cell? ⟨A, 10, none⟩ = some (.int .i64 y.whr)) (k5 : W.cell? ⟨A, 11, none⟩ = some (.int .i64 y.at_)) :
    Reads W (.row 35 6 2 (alsD [x, y])) (.slice (some ⟨A, 0, none⟩) 2 c) :=
  rd_row rfl (by decide) (reads_at h0 hx (reads_lit h1 (reads_lit h2 (reads_lit h3 (reads_lit h4 (reads_lit h5 (reads_at k0 hy (reads_lit k1 (reads_lit k2 (reads_lit k3 (reads_lit k4 (reads_lit k5 reads_end))))))))))))
theorem rd_rule {W : World} {R c : Nat} {x : Ru} {vp va : Value} (h0 : W.cell? ⟨R, 0, none⟩ = some (.string (bs x.name))) (h1 : W.cell? ⟨R, 1, none⟩ = some vp) (hp : Reads W (.row 9 1 x.params.length (nmsD x.params)) vp) (h2 : W.cell? ⟨R, 2, none⟩ = some va) (ha : Reads W (.row 35 6 x.alts.length (alsD x.alts)) va) (h3 : W.cell? ⟨R, 3, none⟩ = some (.int .i64 x.at_)) :
    Reads W (.row 38 4 1 (rusD [x])) (.slice (some ⟨R, 0, none⟩) 1 c) := rd_row rfl (by decide) (reads_lit h0 (reads_at h1 hp (reads_at h2 ha (reads_lit h3 reads_end))))
theorem rd_decl {W : World} {D c : Nat} {x : De} {vn : Value} (h0 : W.cell? ⟨D, 0, none⟩ = some (.string (bs x.kind))) (h1 : W.cell? ⟨D, 1, none⟩ = some (.string (bs x.type))) (h2 : W.cell? ⟨D, 2, none⟩ = some vn) (hn : Reads W (.row 9 1 x.names.length (nmsD x.names)) vn) (h3 : W.cell? ⟨D, 3, none⟩ = some (.int .i64 x.at_)) :
    Reads W (.row 62 4 1 (desD [x])) (.slice (some ⟨D, 0, none⟩) 1 c) := rd_row rfl (by decide) (reads_lit h0 (reads_lit h1 (reads_at h2 hn (reads_lit h3 reads_end))))
theorem rd_decl2 {W : World} {D c : Nat} {x y : De} {vn vm : Value} (h0 : W.cell? ⟨D, 0, none⟩ = some (.string (bs x.kind))) (h1 : W.cell? ⟨D, 1, none⟩ = some (.string (bs x.type))) (h2 : W.cell? ⟨D, 2, none⟩ = some vn) (hn : Reads W (.row 9 1 x.names.length (nmsD x.names)) vn) (h3 : W.cell? ⟨D, 3, none⟩ = some (.int .i64 x.at_))
    (k0 : W.cell? ⟨D, 4, none⟩ = some (.string (bs y.kind))) (k1 : W.cell? ⟨D, 5, none⟩ = some (.string (bs y.type))) (k2 : W.cell? ⟨D, 6, none⟩ = some vm) (km : Reads W (.row 9 1 y.names.length (nmsD y.names)) vm) (k3 : W.cell? ⟨D, 7, none⟩ = some (.int .i64 y.at_)) :
    Reads W (.row 62 4 2 (desD [x, y])) (.slice (some ⟨D, 0, none⟩) 2 c) := rd_row rfl (by decide) (reads_lit h0 (reads_lit h1 (reads_at h2 hn (reads_lit h3 (reads_lit k0 (reads_lit k1 (reads_at k2 km (reads_lit k3 reads_end))))))))
theorem rd_nil (W : World) (E : TypeId) (S : Nat) : Reads W (.row E S 0 []) (.slice none 0 0) := Zero.reads ⟨_, _, rfl, fun _ => rfl⟩ W E S
theorem res_text {fn : Func} {w : World} {b : Nat} {v0 v1 : Value} {tmps : Array Value} {s : Tmp} (hfn : fn.results = #[.cell s 28]) (hb : w.heap[b]? = some (.cells #[v0, v1] 28 (0, 0))) (h2 : tmps[s]?.getD undef = .pointer (some ⟨b, 0, none⟩)) :
    (results fn tmps).run Tryz.prog w = .ok (.agg #[v0, v1]) w := by
  have a0 : w.cell? ⟨b, 0, none⟩ = some v0 := cell_of_row w b 0 _ _ (0, 0) hb
  have a1 : w.cell? ⟨b, 1, none⟩ = some v1 := cell_of_row w b 1 _ _ (0, 0) hb
  simp [results, hfn, go_sem, h2, a0, a1]
theorem blk_set {w : World} {b : Nat} {cs : Array Value} {T : TypeId} (h : w.heap[b]? = some (.cells cs T (0, 0))) (i : Nat) (v : Value) : (w.setCell ⟨b, i, none⟩ v).heap[b]? = some (.cells (cs.setIfInBounds i v) T (0, 0)) := heap_setCell_same w b i cs T v h
/-- what bent tells -/
def BentQ (w : World) (e : Ending) (w' : World) : Prop := ∃ (y : Tx) (sd sr : Value), e = .returned (.agg #[sd, sr]) ∧ bigT y ∧ Reads w' (.row 62 4 y.decls.length (desD y.decls)) sd ∧ Reads w' (.row 38 4 y.rules.length (rusD y.rules)) sr ∧ Below w.heap.size w w'
theorem bw_of {n : List UInt8} {xs : List Wd} {z : Int} (hn : n.length ≤ Lim) (hx : xs.length ≤ Lim) (h : ∀ x ∈ xs, bigW x) : bigW (.mk n xs z) := by rw [bigW]; exact ⟨hn, hx, bigWs_of h⟩
theorem fa0 {α : Type} (p : α → Prop) : ∀ x ∈ ([] : List α), p x := fun x h => by cases h
theorem fa1 {α : Type} {p : α → Prop} {a : α} (h : p a) : ∀ x ∈ [a], p x := fun x hx => by
  obtain rfl : x = a := by simpa using hx
  exact h
theorem fa2 {α : Type} {p : α → Prop} {a b : α} (h : p a) (k : p b) : ∀ x ∈ [a, b], p x := fun x hx => by
  rcases List.mem_cons.1 hx with rfl | hx
  · exact h
  · exact fa1 k x hx
theorem rz {v : Value} (h : Zero v) (W : World) : Reads W (.row 33 3 ([] : List Wd).length (wdsD [])) v := by rw [wdsD_nil]; exact h.reads W _ _
theorem rn_al (W : World) : Reads W (.row 35 6 ([] : List Al).length (alsD [])) (.slice none 0 0) := rd_nil _ _ _
end Go.Proofs.YtghebacphjglbaaGreat.BentB
