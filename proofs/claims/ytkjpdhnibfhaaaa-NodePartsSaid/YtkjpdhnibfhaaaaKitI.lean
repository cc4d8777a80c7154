/- Two trees lent side by side; what is bare is a tree. -/
import Derived.Test.YtkjpdhnibfhaaaaKitH
import Derived.Test.YtkjpdhnibfhaaaaTypedG
import Derived.Deep.Cut
namespace Go.Proofs.Ytkjpdhnibfhaaaa.KitI
open Go Go.RowKit Go.Proofs.Ytkjpdhnibfhaaaa.Heap Go.Proofs.Ytkjpdhnibfhaaaa.Dat Go.Proofs.Ytkjpdhnibfhaaaa.Nodey Go.Proofs.Ytkjpdhnibfhaaaa.NodeA Go.Proofs.Ytkjpdhnibfhaaaa.NodeB Go.Proofs.Ytkjpdhnibfhaaaa.NodeF Go.Proofs.Ytkjpdhnibfhaaaa.NodeI Go.Proofs.Ytkjpdhnibfhaaaa.NodeK Go.Proofs.Ytkjpdhnibfhaaaa.NodeM Go.Proofs.Ytkjpdhnibfhaaaa.NodeS Go.Proofs.Ytkjpdhnibfhaaaa.NodeT Go.Proofs.Ytkjpdhnibfhaaaa.NodeU Go.Proofs.Ytkjpdhnibfhaaaa.Cut Go.Proofs.Ytkjpdhnibfhaaaa.Build Go.Proofs.Ytkjpdhnibfhaaaa.KitA Go.Proofs.Ytkjpdhnibfhaaaa.KitC Go.Proofs.Ytkjpdhnibfhaaaa.KitG Go.Proofs.Ytkjpdhnibfhaaaa.KitH

mutual
theorem ok_bare : ∀ x : Nd, okN x → okN (bareN x)
  | .mk k t n a l, h => by
    rw [okN] at h
    rw [bareN, okN, bareL_len]
    exact ⟨h.1, h.2.1, ok_bares l h.2.2⟩
theorem ok_bares : ∀ l : List Nd, okL l → okL (bareL l)
  | [], _ => by rw [bareL, okL]; trivial
  | x :: l, h => by
    rw [okL] at h
    rw [bareL, okL]
    exact ⟨ok_bare x h.1, ok_bares l h.2⟩
end
theorem ok_kids {w : World} {p : Option Addr} {l : List Nd} (h : KidsV w p l) : okL l := by
  rcases h with rfl | ⟨g, o, _, h⟩
  · rw [okL]; trivial
  · exact ok_nds l o h
theorem bare_node {x : Nd} {p : Option Addr} {c : Nat} {w : World} (hr : Ready w p c x) : Calls Try.prog 16 #[.agg (nodeC x p c)] w fun e w' => ∃ v, e = .returned v ∧ IsNode w' v (bareN x) ∧ Below w.heap.size w w' := by
  refine (bare_any x p c w hr).mono ?_
  rintro e w' ⟨p', c', bk, rfl, hl, _, hb⟩
  refine ⟨_, rfl, ?_, hb⟩
  obtain ⟨k, t, n, a, l⟩ := x
  have hl' : Lies w' w.heap.size (.row 25 5 (bareL l).length (ndsD (bareL l))) (.slice p' l.length c') bk := by rw [bareL_len]; exact hl
  obtain ⟨p2, c2, he, hc, hk⟩ := lies_kids (ok_bares l (ok_kids hr.kids)) hl'
  simp only [Value.slice.injEq] at he
  obtain ⟨rfl, _, rfl⟩ := he
  rw [bareN]
  refine ⟨p', c', ?_, hk, hc, by show (bareL l).length ≤ 1000000; rw [bareL_len]; exact hr.len, hr.text⟩
  unfold nodeC
  simp only [Nd.kind, Nd.text, Nd.num, Nd.at_, Nd.kids, bareL_len]
/-- a row with marks behind is no new variable -/
theorem mark_off {w : World} {g b l : Nat} (hz : ZeroAt w b) (h : NdsAt w g (l * 5) ((List.range 12).map markN)) : g ≠ b := by
  rintro rfl
  have h3 : w.cell? ⟨g, l * 5 + 3, none⟩ = some (.int .i64 8000024) := by
    rw [show (List.range 12).map markN = markN 0 :: ((List.range' 1 11).map markN) from rfl, NdsAt] at h
    have h1 := h.1
    rw [markN, NdAt] at h1
    exact h1.2.2.2.2.2.1
  rw [cell_of_row w g (l * 5 + 3) _ _ (0, 0) hz] at h3
  unfold zeros at h3
  rcases l with _ | l
  · simp at h3
  · rw [show (l + 1) * 5 + 3 = l * 5 + 8 by omega] at h3
    simp at h3
mutual
theorem LentAt.set {w w' : World} {B b : Nat} (hz : ZeroAt w b) (hw : ∀ i, i ≠ b → w'.heap[i]? = w.heap[i]?) : ∀ (x : Nd) (g o : Nat), g ≠ b → LentAt w B g o x → LentAt w' B g o x
  | .mk k t n a l, g, o, hg, h => by
    rw [LentAt] at h ⊢
    have cell : ∀ {q : Nat} {j v}, q ≠ b → w.cell? ⟨q, j, none⟩ = some v → w'.cell? ⟨q, j, none⟩ = some v := fun {q j v} hq hc => (World.cell?_of_block (w := w) (hw q hq)).trans hc
    obtain ⟨h1, h2, h3, h4, h5, h6, g', h7, h8, h9, h10⟩ := h
    have hg' := mark_off hz h10
    exact ⟨h1, h2, cell hg h3, cell hg h4, cell hg h5, cell hg h6, g', cell hg h7, h8, LentsAt.set hz hw l g' 0 hg' h9, nd_keep (fun _ _ hc => cell hg' hc) _ marks_bare _ h10⟩
theorem LentsAt.set {w w' : World} {B b : Nat} (hz : ZeroAt w b) (hw : ∀ i, i ≠ b → w'.heap[i]? = w.heap[i]?) : ∀ (l : List Nd) (g o : Nat), g ≠ b → LentsAt w B g o l → LentsAt w' B g o l
  | [], _, _, _, _ => by rw [LentsAt]; trivial
  | x :: l, g, o, hg, h => by
    rw [LentsAt] at h ⊢
    exact ⟨LentAt.set hz hw x g o hg h.1, LentsAt.set hz hw l g (o + 5) hg h.2⟩
end
theorem LentV.set {w w' : World} {B b g : Nat} {l : List Nd} (hz : ZeroAt w b) (hw : ∀ i, i ≠ b → w'.heap[i]? = w.heap[i]?) (h : LentV w B g l) : LentV w' B g l := by
  have hg := mark_off hz h.2.2
  have cell : ∀ {j v}, w.cell? ⟨g, j, none⟩ = some v → w'.cell? ⟨g, j, none⟩ = some v := fun {j v} hc => (World.cell?_of_block (w := w) (hw g hg)).trans hc
  exact ⟨h.1, LentsAt.set hz hw l g 0 hg h.2.1, nd_keep (fun _ _ hc => cell hc) _ marks_bare _ h.2.2⟩
/-- what LentNode tells -/
def Lent (w : World) (B : Nat) (v : Value) (x : Nd) : Prop := ∃ g, v = .agg (nodeC x (some ⟨g, 0, none⟩) (x.kids.length + 12)) ∧ LentV w B g x.kids
/-- what a store of such a tree leaves -/
structure Laid (w w' : World) (b : Nat) (cs : Array Value) : Prop where
  row : w'.heap[b]? = some (.cells cs 25 (0, 0))
  size : w'.heap.size = w.heap.size
  other : ∀ i, i ≠ b → w'.heap[i]? = w.heap[i]?
  below : ∀ B, B ≤ b → Below B w w'
theorem fin_set {ops : Array Oper} {Q : Exit → Act → World → Prop} {o : Oper} {tb ts : Operand} {a : Act} {w : World} {b : Nat} {x : Nd} {p : Option Addr} {c : Nat} (ho : o.op = .store 25 tb ts) (hg : o.guard = none) (hd : o.dst = none)
    (hb : a.eval tb = .pointer (some ⟨b, 0, none⟩)) (hv : a.eval ts = .agg (nodeC x p c)) (hz : ZeroAt w b) {rest : List Oper} (h : ∀ w', Laid w w' b (nodeC x p c) → wpList Try.prog ops Q rest a w') : wpList Try.prog ops Q (o :: rest) a w := by
  refine wpList_store_rowTo hg _ tb ts ho hd b (nodeC x p c) hb hv _ _ hz (by kernel_rfl) rfl (by kernel_rfl) (h _ ?_)
  have hsz : (w.setRow b (nodeC x p c)).heap.size = w.heap.size := by simp [World.setRow]
  refine ⟨setRow_heap w b _ _ _ _ hz, hsz, fun i hi => setRow_other w b i _ hi, fun B hB => ⟨?_, ?_, ?_, by rw [hsz]; exact Nat.le_refl _, fun k hk => setRow_other w b k _ (by omega)⟩⟩
  all_goals simp [World.setRow]
theorem Laid.box {w w' : World} {b : Nat} {v0 v1 v2 v3 v4 : Value} (h : Laid w w' b #[v0, v1, v2, v3, v4]) : Box5 w' b v0 v1 v2 v3 v4 := box_of h.row
/-- what the slots hold: x, y := LentNode(a), LentNode(b) -/
def TwoF (A D : Value) (a b : Nd) (B : Nat) (i : Nat) (w : World) (v : Value) : Prop := match i with
  | 0 => v = A
  | 1 => Lent w B v a
  | 2 => v = D
  | 3 => Lent w B v b
  | 4 => ∃ q, v = .pointer (some ⟨q, 0, none⟩) ∧ B ≤ q ∧ ZeroAt w q
  | 5 => ∃ q, v = .pointer (some ⟨q, 0, none⟩) ∧ B ≤ q ∧ ZeroAt w q
  | _ => True
theorem Lent.below {w w' : World} {B : Nat} {v : Value} {x : Nd} (h : Lent w B v x) (hb : Below w.heap.size w w') : Lent w' B v x := by
  obtain ⟨g, e, h⟩ := h
  exact ⟨g, e, h.below hb⟩
theorem TwoF.below {A D : Value} {a b : Nd} {B : Nat} (i : Nat) (w w' : World) (v : Value) (h : TwoF A D a b B i w v) (hb : Below w.heap.size w w') : TwoF A D a b B i w' v := by
  unfold TwoF at h ⊢
  split <;> simp only at h
  · exact h
  · exact h.below hb
  · exact h
  · exact h.below hb
  · obtain ⟨q, e, hq, hz⟩ := h; exact ⟨q, e, hq, hz.below hb⟩
  · obtain ⟨q, e, hq, hz⟩ := h; exact ⟨q, e, hq, hz.below hb⟩
  · trivial
theorem TwoF.old {A D : Value} {a b : Nd} {B : Nat} : ∀ i ∈ [4, 5], ∀ w v, TwoF A D a b B i w v → ∃ q, blockOf v = some q ∧ q < w.heap.size := by
  intro i hi w v h
  simp only [List.mem_cons, List.not_mem_nil, or_false] at hi
  rcases hi with rfl | rfl
  all_goals
    obtain ⟨q, rfl, _, hz⟩ := h
    exact ⟨q, rfl, (Array.getElem?_eq_some_iff.1 hz).1⟩
section
variable {Q : Exit → Act → World → Prop} {ds : List Tmp} {a0 : Act} {w0 : World} {i : Nat} {o : Oper} {F : Nat → World → Value → Prop} {fr : List Nat}
/-- any slots: a variable is read -/
theorem sf_load {t : Tmp} {b : Nat} {v0 v1 v2 v3 v4 : Value} (hF : ∀ w, Below w0.heap.size w0 w → F i w (.agg #[v0, v1, v2, v3, v4])) (ho : o.op = .load 25 (.tmp t)) (ht : ds.contains t = false) (ha : a0.tmps[t]? = some (.pointer (some ⟨b, 0, none⟩))) (hb : Box5 w0 b v0 v1 v2 v3 v4) :
    StepT Try.prog Q (fun u => Below w0.heap.size w0 u) F ds a0 i o := by
  intro a w hS _ hfr _ K hK
  obtain ⟨k0, k1, k2, k3, k4⟩ := hb.below hS
  have h1 := eval_tmp ((hfr t (by simpa using ht)).trans ha)
  refine wp_val (v := .agg #[v0, v1, v2, v3, v4]) (w' := w) ?_ (hK.out _ _ hS (Below.refl _ _) (hF w hS))
  simp only [execOp, ho, h1]
  go_simp
/-- any slots: a call out of one slot -/
theorem sf_call {f : FuncId} {j : Nat} {t : Tmp} {u : Value} (hj : (depsOf o).contains j = true) (ht : ds.getD j 0 = t) (hu : ∀ w v, F j w v → v = u) (hr : ∀ (a : Act) w, a.tmps[t]? = some u → (execOp a.eval o).run Try.prog w = .ok (.enter f #[u]) w)
    (hc : ∀ w, Below w0.heap.size w0 w → Calls Try.prog f #[u] w fun e w' => ∃ v, e = .returned v ∧ F i w' v ∧ Below w.heap.size w w') :
    StepT Try.prog Q (fun u => Below w0.heap.size w0 u) F ds a0 i o := by
  intro a w hS _ hfr hd K hK
  obtain ⟨v, hv, hf⟩ := allDeps_get hd (by simpa using hj)
  rw [ht, hu w v hf] at hv
  refine wp_go (hr a w hv) ((hc w hS).mono ?_)
  rintro e w' ⟨v, rfl, h1, h2⟩
  exact hK.out _ _ (hS.trans (h2.mono hS.size)) h2 h1
/-- any slots: a new variable -/
theorem sf_alloc (hF : ∀ w q, Below w0.heap.size w0 w → w0.heap.size ≤ q → ZeroAt w q → F i w (.pointer (some ⟨q, 0, none⟩))) (ho : o.op = .alloc 25) : StepA Try.prog Q (fun u => Below w0.heap.size w0 u) F fr ds a0 i o := by
  intro a w hS _ _ _ K hK
  have hb := hS.alloc hS.size (.cells zeros 25)
  refine wp_val (v := .pointer (some ⟨w.heap.size, 0, none⟩)) (w' := w.alloc (.cells zeros 25)) ?_ (hK.out _ _ hb ((Below.refl _ _).alloc (Nat.le_refl _) _) (hF _ _ hb hS.size (heap_alloc_new w _)) fun _ => ⟨_, rfl, Nat.le_refl _⟩)
  simp only [execOp, ho]
  simp [Instr.alloc, Try.zeroValue25, go_sem, zeros]
end
end Go.Proofs.Ytkjpdhnibfhaaaa.KitI
