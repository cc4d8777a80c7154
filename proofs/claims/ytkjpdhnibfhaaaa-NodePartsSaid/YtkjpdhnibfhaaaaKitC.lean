/- gristmillkit.LentNode: a tree copied, with marks behind each row. -/
import Derived.Test.YtkjpdhnibfhaaaaKitA
import Derived.Test.YtkjpdhnibfhaaaaBuildN
import Derived.OwnWalk
import Derived.Laws.OwnMore
import Derived.Deep.Cut
namespace Go.Proofs.Ytkjpdhnibfhaaaa.KitC
open Go Go.RowKit Go.Proofs.Ytkjpdhnibfhaaaa.Nodey Go.Proofs.Ytkjpdhnibfhaaaa.NodeA Go.Proofs.Ytkjpdhnibfhaaaa.NodeB Go.Proofs.Ytkjpdhnibfhaaaa.NodeF Go.Proofs.Ytkjpdhnibfhaaaa.NodeI Go.Proofs.Ytkjpdhnibfhaaaa.NodeK Go.Proofs.Ytkjpdhnibfhaaaa.NodeS Go.Proofs.Ytkjpdhnibfhaaaa.NodeT Go.Proofs.Ytkjpdhnibfhaaaa.NodeU Go.Proofs.Ytkjpdhnibfhaaaa.Cut Go.Proofs.Ytkjpdhnibfhaaaa.Build

/-- a mark -/
def markN (i : Nat) : Nd := .mk 0 { data := #[] } 0 (8000024 + (i : Int)) []
mutual
/-- a node's cells; its kids' row with twelve marks behind; the rows not below B -/
def LentAt (w : World) (B g o : Nat) : Nd → Prop
  | .mk k t n a l => t.size ≤ 1000000000 ∧ l.length ≤ 1000000 ∧ w.cell? ⟨g, o, none⟩ = some (.int .u8 (k : Int)) ∧ w.cell? ⟨g, o + 1, none⟩ = some (.string t) ∧ w.cell? ⟨g, o + 2, none⟩ = some (.int .i64 n) ∧ w.cell? ⟨g, o + 3, none⟩ = some (.int .i64 a) ∧
    ∃ g', w.cell? ⟨g, o + 4, none⟩ = some (.slice (some ⟨g', 0, none⟩) l.length (l.length + 12)) ∧ B ≤ g' ∧ LentsAt w B g' 0 l ∧ NdsAt w g' (l.length * 5) ((List.range 12).map markN)
def LentsAt (w : World) (B g o : Nat) : List Nd → Prop
  | [] => True
  | x :: l => LentAt w B g o x ∧ LentsAt w B g (o + 5) l
end
/-- kids that were lent, behind a slice's address -/
def LentV (w : World) (B g : Nat) (l : List Nd) : Prop := B ≤ g ∧ LentsAt w B g 0 l ∧ NdsAt w g (l.length * 5) ((List.range 12).map markN)
mutual
theorem nd_keep {w w' : World} {g : Nat} (hw : ∀ o v, w.cell? ⟨g, o, none⟩ = some v → w'.cell? ⟨g, o, none⟩ = some v) : ∀ (l : List Nd), (∀ x ∈ l, x.kids = []) → ∀ o, NdsAt w g o l → NdsAt w' g o l
  | [], _, _, _ => by rw [NdsAt]; trivial
  | x :: l, hk, o, h => by
    rw [NdsAt] at h ⊢
    refine ⟨?_, nd_keep hw l (fun y hy => hk y (List.mem_cons_of_mem _ hy)) (o + 5) h.2⟩
    have hx := hk x (List.mem_cons_self ..)
    obtain ⟨k, t, n, a, l'⟩ := x
    have hx' : l' = [] := hx
    subst hx'
    have h0 := h.1
    rw [NdAt] at h0 ⊢
    obtain ⟨h1, h2, h3, h4, h5, h6, p, c, h7, h9, h8⟩ := h0
    exact ⟨h1, h2, hw _ _ h3, hw _ _ h4, hw _ _ h5, hw _ _ h6, p, c, hw _ _ h7, h9, Or.inl rfl⟩
end
theorem marks_bare : ∀ x ∈ (List.range 12).map markN, x.kids = [] := by
  intro x hx
  obtain ⟨i, _, rfl⟩ := List.mem_map.1 hx
  rfl
mutual
theorem LentAt.keep {w w' : World} {B : Nat} (hw : ∀ (q : Addr) v, B ≤ q.block → w.cell? q = some v → w'.cell? q = some v) : ∀ (x : Nd) (g o : Nat), B ≤ g → LentAt w B g o x → LentAt w' B g o x
  | .mk k t n a l, g, o, hg, h => by
    rw [LentAt] at h ⊢
    obtain ⟨h1, h2, h3, h4, h5, h6, g', h7, h8, h9, h10⟩ := h
    exact ⟨h1, h2, hw _ _ hg h3, hw _ _ hg h4, hw _ _ hg h5, hw _ _ hg h6, g', hw _ _ hg h7, h8, LentsAt.keep hw l g' 0 h8 h9, nd_keep (fun _ _ hc => hw _ _ h8 hc) _ marks_bare _ h10⟩
theorem LentsAt.keep {w w' : World} {B : Nat} (hw : ∀ (q : Addr) v, B ≤ q.block → w.cell? q = some v → w'.cell? q = some v) : ∀ (l : List Nd) (g o : Nat), B ≤ g → LentsAt w B g o l → LentsAt w' B g o l
  | [], _, _, _, _ => by rw [LentsAt]; trivial
  | x :: l, g, o, hg, h => by
    rw [LentsAt] at h ⊢
    exact ⟨LentAt.keep hw x g o hg h.1, LentsAt.keep hw l g (o + 5) hg h.2⟩
end
theorem LentV.keep {w w' : World} {B g : Nat} {l : List Nd} (hw : ∀ (q : Addr) v, B ≤ q.block → w.cell? q = some v → w'.cell? q = some v) (h : LentV w B g l) : LentV w' B g l :=
  ⟨h.1, LentsAt.keep hw l g 0 h.1 h.2.1, nd_keep (fun _ _ hc => hw _ _ h.1 hc) _ marks_bare _ h.2.2⟩
theorem LentV.below {w w' : World} {B g : Nat} {l : List Nd} (h : LentV w B g l) (hb : Below w.heap.size w w') : LentV w' B g l := h.keep fun _ _ _ hc => cell_on hb hc
mutual
theorem LentAt.base {w : World} {B B' : Nat} (hB : B' ≤ B) : ∀ (x : Nd) (g o : Nat), LentAt w B g o x → LentAt w B' g o x
  | .mk k t n a l, g, o, h => by
    rw [LentAt] at h ⊢
    obtain ⟨h1, h2, h3, h4, h5, h6, g', h7, h8, h9, h10⟩ := h
    exact ⟨h1, h2, h3, h4, h5, h6, g', h7, by omega, LentsAt.base hB l g' 0 h9, h10⟩
theorem LentsAt.base {w : World} {B B' : Nat} (hB : B' ≤ B) : ∀ (l : List Nd) (g o : Nat), LentsAt w B g o l → LentsAt w B' g o l
  | [], _, _, _ => by rw [LentsAt]; trivial
  | x :: l, g, o, h => by
    rw [LentsAt] at h ⊢
    exact ⟨LentAt.base hB x g o h.1, LentsAt.base hB l g (o + 5) h.2⟩
end
mutual
/-- what was lent is a tree in memory -/
theorem LentAt.nd {w : World} {B : Nat} : ∀ (x : Nd) (g o : Nat), LentAt w B g o x → NdAt w g o x
  | .mk k t n a l, g, o, h => by
    rw [LentAt] at h
    rw [NdAt]
    obtain ⟨h1, h2, h3, h4, h5, h6, g', h7, h8, h9, h10⟩ := h
    exact ⟨h1, h2, h3, h4, h5, h6, _, _, h7, by omega, Or.inr ⟨g', 0, rfl, LentsAt.nd l g' 0 h9⟩⟩
theorem LentsAt.nd {w : World} {B : Nat} : ∀ (l : List Nd) (g o : Nat), LentsAt w B g o l → NdsAt w g o l
  | [], _, _, _ => by rw [NdsAt]; trivial
  | x :: l, g, o, h => by
    rw [LentsAt] at h
    rw [NdsAt]
    exact ⟨LentAt.nd x g o h.1, LentsAt.nd l g (o + 5) h.2⟩
end
theorem LentV.ready {w : World} {B g : Nat} {x : Nd} (h : LentV w B g x.kids) (hl : x.kids.length ≤ 1000000) (ht : x.text.size ≤ 1000000000) : Ready w (some ⟨g, 0, none⟩) (x.kids.length + 12) x :=
  ⟨Or.inr ⟨g, 0, rfl, LentsAt.nd _ _ _ h.2.1⟩, by omega, hl, ht⟩
theorem LentsAt.append {w : World} {B g : Nat} : ∀ (l : List Nd) (o : Nat) (l2 : List Nd), LentsAt w B g o l → LentsAt w B g (o + l.length * 5) l2 → LentsAt w B g o (l ++ l2)
  | [], o, l2, _, h2 => by simpa using h2
  | x :: l, o, l2, h1, h2 => by
    rw [LentsAt] at h1
    rw [List.cons_append, LentsAt]
    exact ⟨h1.1, LentsAt.append l (o + 5) l2 h1.2 (by rw [List.length_cons] at h2; rwa [show o + 5 + l.length * 5 = o + (l.length + 1) * 5 by omega])⟩
/-- a row's cells, with what lies behind them -/
theorem lents_cells {w : World} {B g : Nat} : ∀ (es : List (Nd × Nat)) (o : Nat), (∀ j v, (rowOf (es.map fun e => (e.1, some ⟨e.2, 0, none⟩, e.1.kids.length + 12)))[j]? = some v → w.cell? ⟨g, o + j, none⟩ = some v) → (∀ e ∈ es, LentV w B e.2 e.1.kids ∧ e.1.kids.length ≤ 1000000 ∧ e.1.text.size ≤ 1000000000) → LentsAt w B g o (es.map (·.1))
  | [], _, _, _ => by rw [List.map_nil, LentsAt]; trivial
  | (x, q) :: es, o, h, hr => by
    rw [List.map_cons, LentsAt]
    refine ⟨?_, lents_cells es (o + 5) (fun j v hj => ?_) fun e he => hr e (List.mem_cons_of_mem _ he)⟩
    · obtain ⟨⟨v1, v2, v3⟩, hl, ht⟩ := hr _ (List.mem_cons_self ..)
      obtain ⟨k, t, n, a, l⟩ := x
      rw [LentAt]
      exact ⟨ht, hl, h 0 _ rfl, h 1 _ rfl, h 2 _ rfl, h 3 _ rfl, q, h 4 _ rfl, v1, v2, v3⟩
    · have := h (5 + j) v (by simpa [rowOf, Nat.add_comm 5 j] using hj)
      rwa [show o + (5 + j) = o + 5 + j by omega] at this
theorem rowOf_append : ∀ (a b : List (Nd × Option Addr × Nat)), rowOf (a ++ b) = rowOf a ++ rowOf b
  | [], _ => rfl
  | (x, p, c) :: a, b => by simp [rowOf, rowOf_append a b]
theorem nodeInfo : ∃ ti, Try.prog.info? 25 = some ti ∧ ti.zero = some (.agg zeros) ∧ ti.size = 5 ∧ ti.bytes = 64 := by
  have h : (Try.prog.info? 25).map (fun i => (i.zero, i.size, i.bytes)) = some (some (.agg zeros), 5, 64) := by kernel_rfl
  obtain ⟨ti, h1, h2⟩ := Option.map_eq_some_iff.1 h
  simp only [Prod.mk.injEq] at h2
  exact ⟨ti, h1, h2.1, h2.2.1, h2.2.2⟩
theorem res_node {fn : Func} {w : World} {b : Nat} {v0 v1 v2 v3 v4 : Value} {tmps : Array Value} {s : Tmp} (hfn : fn.results = #[.cell s 25]) (hb : Box5 w b v0 v1 v2 v3 v4) (h2 : tmps[s]?.getD undef = .pointer (some ⟨b, 0, none⟩)) :
    (results fn tmps).run Try.prog w = .ok (.agg #[v0, v1, v2, v3, v4]) w := by
  obtain ⟨a0, a1, a2, a3, a4⟩ := hb
  simp [results, hfn, go_sem, h2, a0, a1, a2, a3, a4]
set_option maxHeartbeats 1000000 in
theorem mark_any (i : Nat) (hi : i ≤ 1000) (w : World) : Calls Try.prog 53 #[.int .i64 1, .int .i64 (i : Int)] w fun e w' => e = .returned (.int .i64 (8000024 + (i : Int))) ∧ w' = w := by
  go_enter Try.func53, Try.ntmps53
  go_wp2
  go_ret
  exact ⟨by first | rfl | (congr 1), rfl⟩
set_option maxHeartbeats 1000000 in
theorem mark_node (i : Nat) (hi : i ≤ 1000) (w : World) : Calls Try.prog 37 #[.int .i64 1, .int .i64 (i : Int)] w fun e w' => e = .returned (.agg (nodeC (markN i) none 0)) ∧ Below w.heap.size w w' := by
  have HM := Lib.hid (fun w => mark_any i hi w)
  show Calls Try.prog 37 #[.int .i64 1, .int .i64 (i : Int)] w fun e w' => e = .returned (.agg #[.int .u8 0, .string { data := #[] }, .int .i64 0, .int .i64 (8000024 + (i : Int)), .slice none 0 0]) ∧ Below w.heap.size w w'
  generalize 8000024 + (i : Int) = mi at *
  go_enter Try.func37, Try.ntmps37
  go_wp2_with (go_at_call 53; go_must (refine (HM.out _).mono ?_; rintro e w1 ⟨rfl, rfl⟩))
  exact bodyPost_ret (res_node rfl Box5.new rfl) rfl ⟨rfl, (Below.refl w.heap.size w).alloc (Nat.le_refl _) (.cells #[.int .u8 0, .string { data := #[] }, .int .i64 0, .int .i64 mi, .slice none 0 0] 25)⟩
theorem alloc2 (w : World) (o1 o2 : Obj) : ((w.alloc o1).alloc o2).heap[w.heap.size + 1]? = some o2 := by
  have := heap_alloc_new (w.alloc o1) o2
  have hs : (w.alloc o1).heap.size = w.heap.size + 1 := by simp
  rwa [hs] at this
def LentOK (x : Nd) : Prop := ∀ (p : Option Addr) (c : Nat) (w : World), Ready w p c x → Calls Try.prog 12 #[.agg (nodeC x p c)] w fun e w' => ∃ g, e = .returned (.agg (nodeC x (some ⟨g, 0, none⟩) (x.kids.length + 12))) ∧ LentV w' w.heap.size g x.kids ∧ Below w.heap.size w w'
/-- a row of so many kids, each with its own row -/
def rowE (es : List (Nd × Nat)) : List Value := rowOf (es.map fun e => (e.1, some ⟨e.2, 0, none⟩, e.1.kids.length + 12))
theorem rowE_snoc (es : List (Nd × Nat)) (x : Nd) (g : Nat) : rowE (es ++ [(x, g)]) = rowE es ++ [.int .u8 (x.kind : Int), .string x.text, .int .i64 x.num, .int .i64 x.at_, .slice (some ⟨g, 0, none⟩) x.kids.length (x.kids.length + 12)] := by
  unfold rowE
  rw [List.map_append, rowOf_append]; rfl
def rowM (j : Nat) : List Value := rowOf ((List.range j).map fun i => (markN i, none, 0))
theorem rowM_succ (j : Nat) : rowM (j + 1) = rowM j ++ [.int .u8 0, .string { data := #[] }, .int .i64 0, .int .i64 (8000024 + (j : Int)), .slice none 0 0] := by
  unfold rowM
  rw [List.range_succ, List.map_append, rowOf_append]; rfl
theorem LentV.base {w : World} {B B' g : Nat} {l : List Nd} (hB : B' ≤ B) (h : LentV w B g l) : LentV w B' g l := ⟨by have := h.1; omega, LentsAt.base hB l g 0 h.2.1, h.2.2⟩
/-- the kids so far, and their rows -/
structure Rows (w : World) (g : Nat) (l : List Nd) (k : Nat) (es : List (Nd × Nat)) : Prop where
  len : es.length = k
  fst : es.map (·.1) = l.take k
  all : ∀ e ∈ es, LentV w (g + 1) e.2 e.1.kids ∧ e.1.kids.length ≤ 1000000 ∧ e.1.text.size ≤ 1000000000
theorem Rows.keep {w w' : World} {g k : Nat} {l : List Nd} {es : List (Nd × Nat)} (h : Rows w g l k es) (hw : ∀ i, i < w.heap.size → i ≠ g → w'.heap[i]? = w.heap[i]?) : Rows w' g l k es :=
  ⟨h.len, h.fst, fun e he => ⟨(h.all e he).1.keep fun q v hq hc => (World.cell?_of_block (w := w) (hw q.block (World.block_lt_of_cell? _ _ hc) (by omega))).trans hc, (h.all e he).2⟩⟩
theorem Rows.more {w : World} {g k q : Nat} {l : List Nd} {es : List (Nd × Nat)} (h : Rows w g l k es) (hk : k < l.length) (hv : LentV w (g + 1) q (l[k]'hk).kids) (hl : (l[k]'hk).kids.length ≤ 1000000) (ht : (l[k]'hk).text.size ≤ 1000000000) : Rows w g l (k + 1) (es ++ [(l[k]'hk, q)]) := by
  refine ⟨by simp [h.len], by rw [List.map_append, h.fst, List.take_succ_eq_append_getElem hk]; rfl, fun e he => ?_⟩
  rcases List.mem_append.1 he with he | he
  · exact h.all e he
  · obtain rfl : e = (l[k]'hk, q) := by simpa using he
    exact ⟨hv, hl, ht⟩
theorem rowOf_len : ∀ (a : List (Nd × Option Addr × Nat)), (rowOf a).length = a.length * 5
  | [] => rfl
  | (x, p, c) :: a => by simp only [rowOf, List.length_cons, rowOf_len a]; omega
theorem rowE_len (es : List (Nd × Nat)) : (rowE es).length = es.length * 5 := by unfold rowE; rw [rowOf_len, List.length_map]
theorem getE_append {a b : List Value} {j : Nat} {v : Value} (h : a[j]? = some v) : (a ++ b)[j]? = some v := by
  rw [List.getElem?_append_left (List.getElem?_eq_some_iff.1 h).1]; exact h
theorem add0 (g j : Nat) : (⟨g, 0, none⟩ : Addr).add j = ⟨g, j, none⟩ := by
  unfold Addr.add
  split <;> simp_all
theorem LentsAt.base2 {w : World} {B B' g o : Nat} {l : List Nd} (h : LentsAt w B g o l) (hB : B' ≤ B) : LentsAt w B' g o l := LentsAt.base hB l g o h
theorem lents_of {w : World} {g k : Nat} {l : List Nd} {es : List (Nd × Nat)} (h : Rows w g l k es) (hk : l.length ≤ k) (hc : ∀ j v, (rowE es)[j]? = some v → w.cell? ((⟨g, 0, none⟩ : Addr).add j) = some v) : LentsAt w (g + 1) g 0 l := by
  have := lents_cells (w := w) (B := g + 1) (g := g) es 0 (fun j v hj => by have := hc j v hj; rw [add0] at this; simpa using this) h.all
  rwa [h.fst, List.take_of_length_le hk] at this
theorem marks_of {w : World} {g : Nat} (o : Nat) (hc : ∀ j v, (rowM 12)[j]? = some v → w.cell? ⟨g, o + j, none⟩ = some v) : NdsAt w g o ((List.range 12).map markN) := by
  have := nds_cells ((List.range 12).map fun i => (markN i, (none : Option Addr), 0)) o hc (fun e he => by
    obtain ⟨i, _, rfl⟩ := List.mem_map.1 he
    exact ⟨Or.inl rfl, Nat.le_refl 0, by show (0 : Nat) ≤ _; omega, by show (0 : Nat) ≤ _; omega⟩)
  rwa [List.map_map, show ((fun x => x.1) ∘ fun i => (markN i, (none : Option Addr), 0)) = markN from rfl] at this
theorem news_at {w : World} {b : Nat} {cs : Array Value} {T : TypeId} (h : w.heap[b]? = some (.cells cs T (0, 0))) : ∀ ad : Addr, (some ⟨b, 0, none⟩ : Option Addr) = some ad → ∀ j u, cs.toList[j]? = some u → w.cell? (ad.add j) = some u := by
  rintro ad ⟨⟩ j u hj
  exact World.news_of_block h j u hj
set_option maxRecDepth 100000 in
set_option maxHeartbeats 4000000 in
theorem lents_any {l : List Nd} {p : Option Addr} {c : Nat} {w : World} (ih : ∀ y ∈ l, LentOK y) (hk : KidsV w p l) (hl : l.length ≤ 1000000) :
    Calls Try.prog 26 #[.slice p l.length c] w fun e w' => ∃ g, e = .returned (.slice (some ⟨g, 0, none⟩) l.length (l.length + 12)) ∧ LentV w' w.heap.size g l ∧ Below w.heap.size w w' := by
  obtain ⟨ti, hi, hz, hsz, hby⟩ := nodeInfo
  have HK := Lib.hid hk; have HIH := Lib.hid ih; clear hk ih
  generalize hnk : l.length = nk at *
  have HNK := Lib.hid hnk; clear hnk
  obtain ⟨wm, hrun, hown, hgr⟩ := run_make_own (P := Try.prog) w w.heap.size 23 25 ti (.agg zeros) 5 Try.underlying23 hi hz hsz .i64 .i64 (nk + 12) (by rw [hby]; omega) (by unfold maxLen; omega) (Nat.le_refl _)
  have hmk : (Instr.makeSlice 23 (.int .i64 0) (.int .i64 ((nk : Int) + 12))).run Try.prog w = .ok (.slice (some ⟨w.heap.size, 0, none⟩) 0 (nk + 12)) wm := by
    have h := hrun
    rw [show ((nk + 12 : Nat) : Int) = (nk : Int) + 12 by omega] at h
    exact h
  have hbm : Below w.heap.size w wm := (Below.refl _ _).grown hgr (Nat.le_refl _) (fun j hj => by cases hj)
  have HOWN := Lib.hid hown; have HBM := Lib.hid hbm
  clear hrun hown hbm hgr
  go_enter Try.func26, Try.ntmps26
  go_wp2_with fail
  clear hmk
  obtain ⟨g, hg⟩ : ∃ g, g = w.heap.size := ⟨_, rfl⟩
  rw [← hg] at HOWN ⊢
  have HG := Lib.hid hg; clear hg
  have HGM : Hid (g < wm.heap.size) := Lib.hid (HOWN.out.lt g rfl).2
  go_loopg [3, 4, 5] nk (fun gk ov i _ wr => ∃ (k : Nat) (es : List (Nd × Nat)), k ≤ nk ∧ gk = nk - k ∧ i = .int .i64 (k : Int) ∧ ov = .slice (some ⟨g, 0, none⟩) k (nk + 12) ∧ wr.ownsRow g 25 5 (.slice (some ⟨g, 0, none⟩) k (nk + 12)) k (rowE es) ∧ Rows wr g l k es ∧ Below w.heap.size w wr)
  case atStart => exact ⟨0, [], by omega, by omega, rfl, rfl, HOWN.out, ⟨rfl, rfl, fun e he => by cases he⟩, HBM.out⟩
  case round =>
    obtain ⟨k, es, hk, rfl, rfl, rfl, hown, hrows, hbr⟩ := hrel
    have HO := Lib.hid hown; have HRW := Lib.hid hrows; have HBR := Lib.hid hbr; clear hown hrows hbr
    by_cases hlt : k < nk
    · have hkl : k < l.length := by have := HNK.out; omega
      obtain ⟨gs, o, p', c', hp, hkr, d0, d1, d2, d3, d4⟩ := kids_kid HK.out k hkl
      subst hp
      have hmem : l[k]'hkl ∈ l := List.getElem_mem hkl
      have HIY := Lib.hid (fun u hu => HIH.out _ hmem p' c' u hu)
      have HMORE := Lib.hid (fun (u : World) q (hr : Rows u g l k es) hv hl ht => Rows.more (q := q) hr hkl hv hl ht)
      have HSN := Lib.hid (fun q => rowE_snoc es (l[k]'hkl) q)
      have HKR := Lib.hid hkr
      clear hmem hkr
      generalize l[k]'hkl = y at *
      unfold nodeC at HIY
      have hgl : g < wr.heap.size := (HO.out.lt g rfl).2
      have j0 : (0 : Int) ≤ (k : Int) := by omega
      have j1 : (k : Int) < (nk : Int) := by omega
      have HKB := Lib.hid (And.intro HKR.out.len HKR.out.text)
      have m0 := cell_on HBR.out d0; have m1 := cell_on HBR.out d1; have m2 := cell_on HBR.out d2; have m3 := cell_on HBR.out d3; have m4 := cell_on HBR.out d4
      clear d0 d1 d2 d3 d4
      have HKV := Lib.hid (show ∀ (u : World) q, LentV u wr.heap.size q y.kids → LentV u wr.heap.size q y.kids from fun _ _ h => h)
      generalize hyl : y.kids.length = y4 at *
      generalize hy0 : y.kind = y0 at *
      generalize hy1 : y.text = y1 at *
      generalize hy2 : y.num = y2 at *
      generalize hy3 : y.at_ = y3 at *
      have HYL := Lib.hid hyl; have HY1 := Lib.hid hy1; clear hyl hy0 hy1 hy2 hy3
      go_wp2_with (first
        | (go_at_call 12; go_must (refine (HIY.out _ (HKR.out.below HBR.out)).mono ?_; rintro e w2 ⟨q, rfl, hv, hb⟩; have HV2 := Lib.hid hv; have HB2 := Lib.hid hb; clear hv hb))
        | (at_builtin; go_loud (refine wpList_append_fits _ rfl _ _ _ rfl g 25 ti 5 Try.underlying23 hi hsz g k (nk + 12) _ rfl (((Heap.own_new HO.out HB2.out).alloc _).alloc _) ⟨w2.heap.size + 1, 0, none⟩ 1 1 [.int .u8 (y0 : Int), .string y1, .int .i64 y2, .int .i64 y3, .slice (some ⟨q, 0, none⟩) y4 (y4 + 12)] rfl rfl (World.news_of_block (alloc2 w2 _ _)) (by simp [Value.oneCell']) (by omega) ?_; intro w4 hown4 hgr4; have HO4 := Lib.hid hown4; have HGR := Lib.hid hgr4; clear hown4 hgr4)))
      have hsz2 : wr.heap.size ≤ w2.heap.size := HB2.out.size
      have hblk : ∀ i, i < wr.heap.size → i ≠ g → w4.heap[i]? = wr.heap[i]? := fun i hi hne => (HGR.out.block i (by simp; omega) (fun e => hne (Option.some.inj e))).trans ((Below.heap_alloc _ _ i (by simp; omega)).trans ((Below.heap_alloc _ _ i (by omega)).trans (HB2.out.block i hi)))
      have hblk2 : ∀ (qq : Addr) v, wr.heap.size ≤ qq.block → w2.cell? qq = some v → w4.cell? qq = some v := fun qq v hq hc => by
        have hlt := World.block_lt_of_cell? _ _ hc
        exact (World.cell?_of_block (w := w2) ((HGR.out.block qq.block (by simp; omega) (fun e => by have := Option.some.inj e; omega)).trans ((Below.heap_alloc _ _ _ (by simp; omega)).trans (Below.heap_alloc _ _ _ hlt)))).trans hc
      have hb4 : Below w.heap.size w w4 := (((HBR.out.trans (HB2.out.mono HBR.out.size)).alloc (Below.size (HBR.out.trans (HB2.out.mono HBR.out.size))) _).alloc (by have := HBR.out.size; simp; omega) _).grown HGR.out (by have := HBR.out.size; simp; omega) (fun j hj => by have := Option.some.inj hj; have := HG.out; omega)
      have hnew := HMORE.out w4 q (HRW.out.keep hblk) ((HV2.out.keep hblk2).base (by omega)) (by have := HKB.out.1; have := HYL.out; omega) (by first | exact HKB.out.2 | (rw [HY1.out]; exact HKB.out.2) | (have := HKB.out.2; rw [← HY1.out] at this; exact this))
      have HNEW := Lib.hid hnew; have HB4 := Lib.hid hb4; clear hnew hb4 hblk hblk2
      go_roundg (nk - (k + 1))
      case measure => omega
      case rel => exact ⟨k + 1, _, by omega, rfl, by go_num, rfl, by rw [HSN.out q]; exact HO4.out, HNEW.out, HB4.out⟩
    · obtain rfl : k = nk := by omega
      go_wp2_with fail
      go_loopg [3, 6] 12 (fun gk ov i wz => ∃ j : Nat, j ≤ 12 ∧ gk = 12 - j ∧ i = .int .i64 (j : Int) ∧ ov = .slice (some ⟨g, 0, none⟩) (k + j) (k + 12) ∧ wz.ownsRow g 25 5 (.slice (some ⟨g, 0, none⟩) (k + j) (k + 12)) (k + j) (rowE es ++ rowM j) ∧ Rows wz g l k es ∧ Below w.heap.size w wz)
      case atStart => exact ⟨0, by omega, by omega, rfl, rfl, by have := HO.out; simpa [rowM, rowOf] using this, HRW.out, HBR.out⟩
      case round =>
        obtain ⟨j, hj, rfl, rfl, rfl, hown2, hrows2, hbr2⟩ := hrel
        clear HO HRW HBR
        have HO := Lib.hid hown2; have HRW := Lib.hid hrows2; have HBR := Lib.hid hbr2; clear hown2 hrows2 hbr2
        by_cases hjt : j < 12
        · have HMK := Lib.hid (fun u => show Calls Try.prog 37 #[.int .i64 1, .int .i64 (j : Int)] u fun e w' => e = .returned (.agg #[.int .u8 0, .string { data := #[] }, .int .i64 0, .int .i64 (8000024 + (j : Int)), .slice none 0 0]) ∧ Below u.heap.size u w' from mark_node j (by omega) u)
          have HSN := Lib.hid (rowM_succ j)
          generalize 8000024 + (j : Int) = mj at *
          have hgl : g < _ := (HO.out.lt g rfl).2
          go_wp2_with (first
            | (go_at_call 37; go_must (refine (HMK.out _).mono ?_; rintro e w2 ⟨rfl, hb⟩; have HB2 := Lib.hid hb; clear hb))
            | (at_builtin; go_loud (refine wpList_append_fits _ rfl _ _ _ rfl g 25 ti 5 Try.underlying23 hi hsz g (k + j) (k + 12) _ rfl ((Heap.own_new HO.out HB2.out).alloc _) ⟨w2.heap.size, 0, none⟩ 1 1 [.int .u8 0, .string { data := #[] }, .int .i64 0, .int .i64 mj, .slice none 0 0] rfl rfl (World.news_of_block (heap_alloc_new w2 _)) (by simp [Value.oneCell']) (by omega) ?_; intro w4 hown4 hgr4; have HO4 := Lib.hid hown4; have HGR := Lib.hid hgr4; clear hown4 hgr4)))
          have hsz2 : wr.heap.size ≤ w2.heap.size := HB2.out.size
          have hblk : ∀ i, i < wr.heap.size → i ≠ g → w4.heap[i]? = wr.heap[i]? := fun i hi hne => (HGR.out.block i (by simp; omega) (fun e => hne (Option.some.inj e))).trans ((Below.heap_alloc _ _ i (by omega)).trans (HB2.out.block i hi))
          have hb4 : Below w.heap.size w w4 := ((HBR.out.trans (HB2.out.mono HBR.out.size)).alloc (Below.size (HBR.out.trans (HB2.out.mono HBR.out.size))) _).grown HGR.out (by have := HBR.out.size; simp; omega) (fun j hj => by have := Option.some.inj hj; have := HG.out; omega)
          have HNEW := Lib.hid (HRW.out.keep hblk); have HB4 := Lib.hid hb4; clear hb4 hblk
          go_roundg (12 - (j + 1))
          case measure => omega
          case rel => exact ⟨j + 1, by omega, rfl, by go_num, rfl, by rw [HSN.out, ← List.append_assoc]; exact HO4.out, HNEW.out, HB4.out⟩
        · obtain rfl : j = 12 := by omega
          go_wp2_with fail
          go_ret
          refine ⟨g, rfl, ⟨by have := HG.out; omega, ?_, ?_⟩, HBR.out⟩
          · have := lents_of HRW.out (by have := HNK.out; omega) fun j v hj => HO.out.cells (g := g) rfl j v (getE_append hj)
            exact this.base2 (by have := HG.out; omega)
          · have := marks_of (w := wr) (g := g) (k * 5) fun j v hj => by
              have := HO.out.cells (g := g) rfl (k * 5 + j) v (by rw [List.getElem?_append_right (by rw [rowE_len, HRW.out.len]; omega), rowE_len, HRW.out.len, Nat.add_sub_cancel_left]; exact hj)
              rwa [add0] at this
            rw [HNK.out]; exact this
theorem blk_set {w : World} {b : Nat} {cs : Array Value} {T : TypeId} (h : w.heap[b]? = some (.cells cs T (0, 0))) (i : Nat) (v : Value) : (w.setCell ⟨b, i, none⟩ v).heap[b]? = some (.cells (cs.setIfInBounds i v) T (0, 0)) := heap_setCell_same w b i cs T v h
theorem box_of {w : World} {b : Nat} {v0 v1 v2 v3 v4 : Value} {T : TypeId} (h : w.heap[b]? = some (.cells #[v0, v1, v2, v3, v4] T (0, 0))) : Box5 w b v0 v1 v2 v3 v4 :=
  ⟨cell_of_row w b 0 _ T (0, 0) h, cell_of_row w b 1 _ T (0, 0) h, cell_of_row w b 2 _ T (0, 0) h, cell_of_row w b 3 _ T (0, 0) h, cell_of_row w b 4 _ T (0, 0) h⟩
set_option maxRecDepth 100000 in
set_option maxHeartbeats 4000000 in
theorem lent_step {k : Nat} {t : ByteArray} {n a : Int} {l : List Nd} (ih : ∀ y ∈ l, LentOK y) : LentOK (.mk k t n a l) := by
  intro p c w hr
  have HL := Lib.hid (fun (u : World) (hu : Below w.heap.size w u) => lents_any (c := c) ih (KidsV.below hu hr.kids) (show l.length ≤ 1000000 from hr.len))
  show Calls Try.prog 12 #[.agg #[.int .u8 (k : Int), .string t, .int .i64 n, .int .i64 a, .slice p l.length c]] w fun e w' => ∃ g, e = .returned (.agg #[.int .u8 (k : Int), .string t, .int .i64 n, .int .i64 a, .slice (some ⟨g, 0, none⟩) l.length (l.length + 12)]) ∧ LentV w' w.heap.size g l ∧ Below w.heap.size w w'
  clear hr ih
  generalize l.length = nk at *
  generalize (k : Int) = k0 at *
  have HB := Lib.hid (((Below.refl w.heap.size w).alloc (Nat.le_refl _) (.cells #[.int .u8 k0, .string t, .int .i64 n, .int .i64 a, .slice p nk c] 25)).alloc (by simp) (.cells #[.int .u8 0, .string { data := #[] }, .int .i64 0, .int .i64 0, .slice none 0 0] 25))
  have HA := Lib.hid ((Box5.new (w := w) (v0 := .int .u8 k0) (v1 := .string t) (v2 := .int .i64 n) (v3 := .int .i64 a) (v4 := .slice p nk c) (T := 25)).below ((Below.refl _ _).alloc (Nat.le_refl _) (.cells #[.int .u8 0, .string { data := #[] }, .int .i64 0, .int .i64 0, .slice none 0 0] 25)))
  have hsz : ((w.alloc (.cells #[.int .u8 k0, .string t, .int .i64 n, .int .i64 a, .slice p nk c] 25)).alloc (.cells #[.int .u8 0, .string { data := #[] }, .int .i64 0, .int .i64 0, .slice none 0 0] 25)).heap.size = w.heap.size + 2 := by simp
  have HA2 := Lib.hid (Box5.new (w := w.alloc (.cells #[.int .u8 k0, .string t, .int .i64 n, .int .i64 a, .slice p nk c] 25)) (v0 := .int .u8 0) (v1 := .string { data := #[] }) (v2 := .int .i64 0) (v3 := .int .i64 0) (v4 := .slice none 0 0) (T := 25))
  rw [show (w.alloc (.cells #[.int .u8 k0, .string t, .int .i64 n, .int .i64 a, .slice p nk c] 25)).heap.size = w.heap.size + 1 by simp] at HA2
  have HSZ := Lib.hid hsz; clear hsz
  have HOB := Lib.hid (show ((w.alloc (.cells #[.int .u8 k0, .string t, .int .i64 n, .int .i64 a, .slice p nk c] 25)).alloc (.cells #[.int .u8 0, .string { data := #[] }, .int .i64 0, .int .i64 0, .slice none 0 0] 25)).heap[w.heap.size + 1]? = some (.cells #[.int .u8 0, .string { data := #[] }, .int .i64 0, .int .i64 0, .slice none 0 0] 25 (0, 0)) from alloc2 w _ _)
  have HOA := Lib.hid (show ((w.alloc (.cells #[.int .u8 k0, .string t, .int .i64 n, .int .i64 a, .slice p nk c] 25)).alloc (.cells #[.int .u8 0, .string { data := #[] }, .int .i64 0, .int .i64 0, .slice none 0 0] 25)).heap[w.heap.size]? = some (.cells #[.int .u8 k0, .string t, .int .i64 n, .int .i64 a, .slice p nk c] 25 (0, 0)) from (Below.heap_alloc _ _ _ (by simp)).trans (heap_alloc_new _ _))
  go_enter Try.func12, Try.ntmps12
  go_upto_region 1 with fail
  generalize ((w.alloc (.cells #[.int .u8 k0, .string t, .int .i64 n, .int .i64 a, .slice p nk c] 25)).alloc (.cells #[.int .u8 0, .string { data := #[] }, .int .i64 0, .int .i64 0, .slice none 0 0] 25)) = W at *
  generalize hH : w.heap.size = H at *
  have HHH := Lib.hid hH; clear hH
  obtain ⟨a0, a1, a2, a3, a4⟩ := HA.out
  go_wp2_with (go_at_call 26; go_must (refine (HL.out _ HB.out).mono ?_; rintro e w2 ⟨q, rfl, hv, hb⟩; have HV := Lib.hid hv; have HB2 := Lib.hid hb; clear hv; clear a0 a1 a2 a3 a4; obtain ⟨a0, a1, a2, a3, a4⟩ := HA.out.below hb; obtain ⟨b0, b1, b2, b3, b4⟩ := HA2.out.below hb; have hoa := (hb.block H (by have := HSZ.out; omega)).trans HOA.out; have hob := (hb.block (H + 1) (by have := HSZ.out; omega)).trans HOB.out; have fa := frozen_of_row w2 H 4 _ _ hoa; have fb0 := frozen_of_row w2 (H + 1) 0 _ _ hob; have fb1 := frozen_of_row w2 (H + 1) 1 _ _ hob; have fb2 := frozen_of_row w2 (H + 1) 2 _ _ hob; have fb3 := frozen_of_row w2 (H + 1) 3 _ _ hob; have fb4 := frozen_of_row w2 (H + 1) 4 _ _ hob; have HO2 := Lib.hid hob; clear hb hoa hob))
  have hx0 := Lib.hid ((Below.heap_setCell w2 ⟨H, 4, none⟩ (.slice (some ⟨q, 0, none⟩) nk (nk + 12)) (H + 1) (by simp)).trans HO2.out)
  have hx := blk_set (blk_set (blk_set (blk_set (blk_set hx0.out 0 (.int .u8 k0)) 1 (.string t)) 2 (.int .i64 n)) 3 (.int .i64 a)) 4 (.slice (some ⟨q, 0, none⟩) nk (nk + 12))
  refine bodyPost_ret (res_node rfl (box_of hx) rfl) rfl ⟨q, rfl, LentV.base (B := W.heap.size) (by have := HSZ.out; have := HHH.out; omega) (HV.out.keep fun qa v hq hc => ?_), ?_⟩
  · have hlt := HSZ.out
    refine (World.cell?_of_block (w := w2) ?_).trans hc
    exact (Below.heap_setCell _ _ _ _ (by show qa.block ≠ H + 1; omega)).trans ((Below.heap_setCell _ _ _ _ (by show qa.block ≠ H + 1; omega)).trans ((Below.heap_setCell _ _ _ _ (by show qa.block ≠ H + 1; omega)).trans ((Below.heap_setCell _ _ _ _ (by show qa.block ≠ H + 1; omega)).trans ((Below.heap_setCell _ _ _ _ (by show qa.block ≠ H + 1; omega)).trans (Below.heap_setCell _ _ _ _ (by show qa.block ≠ H; omega))))))
  · rw [HHH.out]
    exact ((((((HB.out.trans (HB2.out.mono (by have := HSZ.out; omega))).setCell (Nat.le_refl _) _).setCell (Nat.le_succ _) _).setCell (Nat.le_succ _) _).setCell (Nat.le_succ _) _).setCell (Nat.le_succ _) _).setCell (Nat.le_succ _) _
theorem lent_any : ∀ x : Nd, LentOK x
  | .mk k t n a l => lent_step fun y _hy => lent_any y
  termination_by x => SizeOf.sizeOf x
  decreasing_by have := List.sizeOf_lt_of_mem _hy; simp; omega
end Go.Proofs.Ytkjpdhnibfhaaaa.KitC
