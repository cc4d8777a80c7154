/- NodeGreat: its trees, plainly; a variable that is written again. -/
import Derived.Test.YtkjpdhnibfhaaaaNodeX
namespace Go.Proofs.Ytkjpdhnibfhaaaa.NodeY
open Go Go.RowKit Go.Proofs.Ytkjpdhnibfhaaaa.Nodey Go.Proofs.Ytkjpdhnibfhaaaa.NodeA Go.Proofs.Ytkjpdhnibfhaaaa.NodeB Go.Proofs.Ytkjpdhnibfhaaaa.NodeF Go.Proofs.Ytkjpdhnibfhaaaa.NodeI Go.Proofs.Ytkjpdhnibfhaaaa.NodeK Go.Proofs.Ytkjpdhnibfhaaaa.NodeM Go.Proofs.Ytkjpdhnibfhaaaa.NodeS Go.Proofs.Ytkjpdhnibfhaaaa.NodeT Go.Proofs.Ytkjpdhnibfhaaaa.NodeU Go.Proofs.Ytkjpdhnibfhaaaa.Cut Go.Proofs.Ytkjpdhnibfhaaaa.Build Go.Proofs.Ytkjpdhnibfhaaaa.NodeV Go.Proofs.Ytkjpdhnibfhaaaa.NodeW

/-- so many operators, one below the other -/
def un : Nat → Nd
  | 0 => .mk 21 { data := #[49] } 0 0 []
  | k + 1 => .mk 26 { data := #[45] } 0 0 [un k]
def deepTree (k : Nat) : Nd := .mk 9 { data := #[] } 0 0 [.mk 17 { data := #[] } 0 0 [un k]]
theorem proper_un : ∀ k, properN (un k) = true
  | 0 => rfl
  | k + 1 => by simp [un, properN, properL, proper_un k]
theorem deep_un : ∀ k, deepN (un k) = k + 1
  | 0 => rfl
  | k + 1 => by simp [un, deepN, deepL, deep_un k]; omega
theorem deep_tree (k : Nat) : deepN (deepTree k) = k + 3 := by simp [deepTree, deepN, deepL, deep_un]; omega
theorem right_tree {k : Nat} (h1 : 55 ≤ k) (h2 : k < 62) : rightN (deepTree k) = decide ((k : Int) ≤ 57) := by
  rcases (show k = 55 ∨ k = 56 ∨ k = 57 ∨ k = 58 ∨ k = 59 ∨ k = 60 ∨ k = 61 by omega) with rfl | rfl | rfl | rfl | rfl | rfl | rfl <;> kernel_rfl
def brk : Nd := .mk 18 { data := #[] } 0 0 []
def rep (n : Nat) : List Nd := List.replicate n brk
theorem rep_len (n : Nat) : (rep n).length = n := by simp [rep]
theorem rep_succ (n : Nat) : rep (n + 1) = rep n ++ [brk] := by simp [rep, List.replicate_succ']
theorem size_rep : ∀ n, sizeL (rep n) = n
  | 0 => rfl
  | n + 1 => by
    have := size_rep n
    unfold rep at this ⊢
    rw [List.replicate_succ, sizeL, this, show sizeN brk = 1 from rfl]; omega
theorem deep_rep : ∀ n, deepL (rep n) ≤ 1
  | 0 => by simp [rep, deepL]
  | n + 1 => by
    have := deep_rep n
    unfold rep at this ⊢
    rw [List.replicate_succ, deepL, show deepN brk = 1 from rfl]; omega
theorem well_rep (d : Bool) : ∀ n, wellL d (rep n) = true
  | 0 => rfl
  | n + 1 => by
    have := well_rep d n
    unfold rep at this ⊢
    rw [List.replicate_succ, wellL, this]
    have h : wellN d brk = true := by cases d <;> rfl
    rw [h]; rfl
theorem proper_rep : ∀ n, properL (rep n) = true
  | 0 => rfl
  | n + 1 => by
    have := proper_rep n
    unfold rep at this ⊢
    rw [List.replicate_succ, properL, this]; rfl
theorem right_rep (n : Nat) : rightN (.mk 9 { data := #[] } 0 0 (rep n)) = decide (n ≤ 32767) := by
  have h1 : wellN true (.mk 9 { data := #[] } 0 0 (rep n)) = true := by
    rw [wellN, well_rep]
    have hs : shapeB true (.mk 9 { data := #[] } 0 0 (rep n)) = true := by
      have ha : ((rep n).map Nd.kind).all statedK = true := by
        rw [List.all_eq_true]
        intro x hx
        obtain ⟨y, hy, rfl⟩ := List.mem_map.1 hx
        have : y = brk := List.eq_of_mem_replicate hy
        subst this; rfl
      show (([] : List UInt8) == [] && (0 : Int) == 0 && ((rep n).map Nd.kind).all statedK) = true
      rw [ha]; rfl
    rw [hs]; rfl
  have h2 := deep_rep n
  have h3 := size_rep n
  unfold rightN
  rw [show (Nd.kind (.mk 9 { data := #[] } 0 0 (rep n)) == 9) = true from rfl, h1]
  simp only [deepN, sizeN, h3]
  rw [Bool.eq_iff_iff]
  simp only [Bool.and_eq_true, Bool.or_eq_true, decide_eq_true_eq]
  constructor
  · rintro ⟨_, h⟩; omega
  · intro h
    exact ⟨⟨⟨Or.inr trivial, trivial⟩, @decide_eq_true _ _ (by omega)⟩, by omega⟩
/-- nothing of a tree lies in this block -/
def Without (w : World) (b : Nat) (p : Option Addr) (c : Nat) (x : Nd) : Prop := Ready (w.setRow b #[]) p c x
mutual
theorem NdAt.cells {w w' : World} (hw : ∀ (q : Addr) v, w.cell? q = some v → w'.cell? q = some v) : ∀ (x : Nd) (g o : Nat), NdAt w g o x → NdAt w' g o x
  | .mk k t n a l, g, o, h => by
    rw [NdAt] at h ⊢
    obtain ⟨h1, h2, h3, h4, h5, h6, p, c, h7, h9, h8⟩ := h
    refine ⟨h1, h2, hw _ _ h3, hw _ _ h4, hw _ _ h5, hw _ _ h6, p, c, hw _ _ h7, h9, ?_⟩
    rcases h8 with h8 | ⟨g', o', e, h8⟩
    · exact Or.inl h8
    · exact Or.inr ⟨g', o', e, NdsAt.cells hw l g' o' h8⟩
theorem NdsAt.cells {w w' : World} (hw : ∀ (q : Addr) v, w.cell? q = some v → w'.cell? q = some v) : ∀ (l : List Nd) (g o : Nat), NdsAt w g o l → NdsAt w' g o l
  | [], _, _, _ => by rw [NdsAt]; trivial
  | x :: l, g, o, h => by
    rw [NdsAt] at h ⊢
    exact ⟨NdAt.cells hw x g o h.1, NdsAt.cells hw l g (o + 5) h.2⟩
end
theorem ready_cells {w w' : World} {p : Option Addr} {c : Nat} {x : Nd} (hw : ∀ (q : Addr) v, w.cell? q = some v → w'.cell? q = some v) (h : Ready w p c x) : Ready w' p c x := by
  refine ⟨?_, h.cap, h.len, h.text⟩
  rcases h.kids with e | ⟨g, o, e, hn⟩
  · exact Or.inl e
  · exact Or.inr ⟨g, o, e, NdsAt.cells hw _ _ _ hn⟩
theorem erased_cell {w : World} {b : Nat} {old : Array Value} {T : TypeId} {fr : Nat × Nat} (hb : w.heap[b]? = some (.cells old T fr)) {q : Addr} {v : Value} (h : (w.setRow b #[]).cell? q = some v) : q.block ≠ b ∧ w.cell? q = some v := by
  by_cases e : q.block = b
  · exfalso
    obtain ⟨qb, qo, qp⟩ := q
    simp only at e; subst e
    cases qp with
    | none => rw [cell_setRow_same w qb qo _ _ _ _ hb] at h; simp at h
    | some _ => simp [World.cell?, setRow_heap w qb _ _ _ _ hb] at h
  · exact ⟨e, by rw [cell_setRow_other w b _ q e] at h; exact h⟩
theorem Without.ready {w : World} {b : Nat} {old : Array Value} {T : TypeId} {fr : Nat × Nat} (hb : w.heap[b]? = some (.cells old T fr)) {p : Option Addr} {c : Nat} {x : Nd} (h : Without w b p c x) : Ready w p c x :=
  ready_cells (fun _ _ hq => (erased_cell hb hq).2) h
/-- blocks that were there are as they were, but this one -/
theorem Without.kept {w w' : World} {b : Nat} {old : Array Value} {T : TypeId} {fr : Nat × Nat} (hb : w.heap[b]? = some (.cells old T fr)) (hw : ∀ i, i < w.heap.size → i ≠ b → w'.heap[i]? = w.heap[i]?) {p : Option Addr} {c : Nat} {x : Nd} (h : Without w b p c x) : Without w' b p c x := by
  refine ready_cells (fun q v hq => ?_) h
  obtain ⟨h1, h2⟩ := erased_cell hb hq
  rw [cell_setRow_other w' b _ q h1]
  exact (World.cell?_of_block (w := w) (hw q.block (World.block_lt_of_cell? _ _ h2) h1)).trans h2
/-- a variable that holds such a tree -/
structure UnBox (w : World) (b k : Nat) (p : Option Addr) (c : Nat) : Prop where
  blk : w.heap[b]? = some (.cells (nodeC (un k) p c) 25 (0, 0))
  tree : Without w b p c (un k)
theorem UnBox.box {w : World} {b k : Nat} {p : Option Addr} {c : Nat} (h : UnBox w b k p c) : NodeBox w b (un k) := by
  have hc := fun j => cell_of_row w b j _ _ (0, 0) h.blk
  exact ⟨p, c, ⟨hc 0, hc 1, hc 2, hc 3, hc 4⟩, h.tree.ready h.blk⟩
theorem set5 {w : World} {b : Nat} {a0 a1 a2 a3 a4 v0 v1 v2 v3 v4 : Value} (h : w.heap[b]? = some (.cells #[a0, a1, a2, a3, a4] 25 (0, 0))) :
    (((((w.setCell ⟨b, 0, none⟩ v0).setCell ⟨b, 1, none⟩ v1).setCell ⟨b, 2, none⟩ v2).setCell ⟨b, 3, none⟩ v3).setCell ⟨b, 4, none⟩ v4).heap[b]? = some (.cells #[v0, v1, v2, v3, v4] 25 (0, 0)) := by
  have h0 := heap_setCell_same w b 0 _ _ v0 h
  have h1 := heap_setCell_same _ b 1 _ _ v1 h0
  have h2 := heap_setCell_same _ b 2 _ _ v2 h1
  have h3 := heap_setCell_same _ b 3 _ _ v3 h2
  have h4 := heap_setCell_same _ b 4 _ _ v4 h3
  simpa using h4
theorem set5_other {w : World} {b : Nat} {v0 v1 v2 v3 v4 : Value} (i : Nat) (hi : i ≠ b) : (((((w.setCell ⟨b, 0, none⟩ v0).setCell ⟨b, 1, none⟩ v1).setCell ⟨b, 2, none⟩ v2).setCell ⟨b, 3, none⟩ v3).setCell ⟨b, 4, none⟩ v4).heap[i]? = w.heap[i]? := by
  rw [Below.heap_setCell _ _ _ _ hi, Below.heap_setCell _ _ _ _ hi, Below.heap_setCell _ _ _ _ hi, Below.heap_setCell _ _ _ _ hi, Below.heap_setCell _ _ _ _ hi]
/-- one operator more -/
theorem UnBox.next {w w3 : World} {b k : Nat} {p : Option Addr} {c : Nat} (h : UnBox w b k p c) (hb : Below (w.alloc (.cells (nodeC (un k) p c) 25)).heap.size (w.alloc (.cells (nodeC (un k) p c) 25)) w3) :
    UnBox (((((w3.setCell ⟨b, 0, none⟩ (.int .u8 26)).setCell ⟨b, 1, none⟩ (.string { data := #[45] })).setCell ⟨b, 2, none⟩ (.int .i64 0)).setCell ⟨b, 3, none⟩ (.int .i64 0)).setCell ⟨b, 4, none⟩ (.slice (some ⟨w.heap.size, 0, none⟩) 1 1)) b (k + 1) (some ⟨w.heap.size, 0, none⟩) 1 := by
  have hbl : b < w.heap.size := (Array.getElem?_eq_some_iff.1 h.blk).1
  have hA := (Below.refl w.heap.size w).alloc (Nat.le_refl _) (.cells (nodeC (un k) p c) 25)
  have hsz : (w.alloc (.cells (nodeC (un k) p c) 25)).heap.size = w.heap.size + 1 := by simp
  have hb3 : w3.heap[b]? = some (.cells (nodeC (un k) p c) 25 (0, 0)) := (hb.block b (by omega)).trans ((hA.block b hbl).trans h.blk)
  have hblk := set5 (v0 := .int .u8 26) (v1 := .string { data := #[45] }) (v2 := .int .i64 0) (v3 := .int .i64 0) (v4 := .slice (some ⟨w.heap.size, 0, none⟩) 1 1) hb3
  have hoth := fun i hi => set5_other (w := w3) (b := b) (v0 := .int .u8 26) (v1 := .string { data := #[45] }) (v2 := .int .i64 0) (v3 := .int .i64 0) (v4 := .slice (some ⟨w.heap.size, 0, none⟩) 1 1) i hi
  refine ⟨hblk, ?_⟩
  generalize ((((w3.setCell ⟨b, 0, none⟩ (.int .u8 26)).setCell ⟨b, 1, none⟩ (.string { data := #[45] })).setCell ⟨b, 2, none⟩ (.int .i64 0)).setCell ⟨b, 3, none⟩ (.int .i64 0)).setCell ⟨b, 4, none⟩ (.slice (some ⟨w.heap.size, 0, none⟩) 1 1) = w4 at *
  have hk : Without w4 b p c (un k) := h.tree.kept h.blk fun i hi hne => (hoth i hne).trans ((hb.block i (by omega)).trans (hA.block i hi))
  have hrow : ∀ j, (w4.setRow b #[]).cell? ⟨w.heap.size, j, none⟩ = (nodeC (un k) p c)[j]? := fun j => by
    have hg : w4.heap[w.heap.size]? = some (.cells (nodeC (un k) p c) 25 (0, 0)) := (hoth _ (by omega)).trans ((hb.block _ (by omega)).trans (heap_alloc_new w _))
    rw [cell_setRow_other _ _ _ _ (by show w.heap.size ≠ b; omega)]
    exact cell_of_row _ _ j _ _ (0, 0) hg
  have hun : un (k + 1) = .mk 26 { data := #[45] } 0 0 [un k] := rfl
  refine ⟨Or.inr ⟨w.heap.size, 0, rfl, ?_⟩, Nat.le_refl _, by rw [hun]; show 1 ≤ 1000000; omega, by rw [hun]; show 1 ≤ 1000000000; omega⟩
  rw [hun]
  refine nds_cells [(un k, p, c)] 0 (fun j v hj => ?_) (fun e he => ?_)
  · rw [Nat.zero_add, hrow j]
    unfold nodeC
    simpa [rowOf] using hj
  · obtain rfl : e = (un k, p, c) := by simpa using he
    exact hk
theorem of_exact {k : Nat} {t : ByteArray} {p : Option Addr} {n c : Nat} {w : World} :
    Calls Try.prog 6 #[.int .u8 (k : Int), .string t, .slice p n c] w fun e w' => e = .returned (.agg #[.int .u8 (k : Int), .string t, .int .i64 0, .int .i64 0, .slice p n c]) ∧ Below w.heap.size w w' := by
  go_enter Try.func6, Try.ntmps6
  go_wp2
  exact bodyPost_ret (res_node rfl Box5.new rfl) rfl ⟨rfl, (Below.refl w.heap.size w).alloc (Nat.le_refl _) (.cells #[.int .u8 (k : Int), .string t, .int .i64 0, .int .i64 0, .slice p n c] 25)⟩
end Go.Proofs.Ytkjpdhnibfhaaaa.NodeY
