/- Trees that are built: a region of loads, calls, rows, whatever comes up when. -/
import Derived.Test.YtkjpdhnibfhaaaaNodeU
import Derived.Test.YtkjpdhnibfhaaaaTyped
import Derived.Great.Walk
namespace Go.Proofs.Ytkjpdhnibfhaaaa.Build
open Go Go.RowKit Go.Proofs.Ytkjpdhnibfhaaaa.Nodey Go.Proofs.Ytkjpdhnibfhaaaa.NodeA Go.Proofs.Ytkjpdhnibfhaaaa.NodeB Go.Proofs.Ytkjpdhnibfhaaaa.NodeF Go.Proofs.Ytkjpdhnibfhaaaa.NodeI Go.Proofs.Ytkjpdhnibfhaaaa.NodeK Go.Proofs.Ytkjpdhnibfhaaaa.NodeM Go.Proofs.Ytkjpdhnibfhaaaa.NodeS Go.Proofs.Ytkjpdhnibfhaaaa.NodeT Go.Proofs.Ytkjpdhnibfhaaaa.NodeU Go.Proofs.Ytkjpdhnibfhaaaa.Cut

section
variable {P : Program} {Q : Exit → Act → World → Prop}
/-- the same of a region that does not draw -/
theorem wp_region_inrow {l1 l2 : List Oper} {id : Nat} {a0 : Act} {w0 : World} (ds : List Tmp) (S : World → Prop) (F : Nat → World → Value → Prop)
    (hB : (Cut.backB 0 l1 && Cut.nodupB ds && (l1.map (·.dst) == ds.map some) && l1.all (fun o => o.guard.isNone)) = true)
    (hz : (ds.all fun d => decide (d < a0.tmps.size)) = true) (hF : ∀ i w w' v, F i w v → Below w.heap.size w w' → F i w' v) (hS : S w0)
    (hs : StepsT P Q S F ds a0 0 l1)
    (he : ∀ w, S w → EndT F w (fun vs => wpList P (l1 ++ l2).toArray Q l2 (putAll a0 (ds.zip vs)) w) l1.length 0 []) : (Code.region id (l1 ++ l2).toArray false).wp P Q a0 w0 := by
  simp only [Bool.and_eq_true, beq_iff_eq] at hB
  obtain ⟨⟨⟨h3, h4⟩, h5⟩, h6⟩ := hB
  have hdst : ∀ (i : Nat) (o : Oper), l1[i]? = some o → ∃ d, o.dst = some d ∧ ds[i]? = some d := by
    intro i o ho
    have h := congrArg (fun l => l[i]?) h5
    simp only [List.getElem?_map, ho, Option.map_some] at h
    cases hd : ds[i]? with
    | none => rw [hd] at h; simp at h
    | some d => rw [hd] at h; exact ⟨d, by simpa using h, rfl⟩
  have hlen : l1.length = ds.length := by simpa using congrArg List.length h5
  refine wp_region_lit ?_
  have key : ∀ (l : List Oper) (k : Nat) (a : Act) (w : World), l1.drop k = l → S w → a.defers = a0.defers → a.tmps.size = a0.tmps.size → (∀ t, t ∉ ds → a.tmps[t]? = a0.tmps[t]?) → (∀ i d, ds[i]? = some d → i < k → ∃ v, a.tmps[d]? = some v ∧ F i w v) →
      wpList P (l1 ++ l2).toArray Q (l ++ l2) a w := by
    intro l
    induction l with
    | nil =>
      intro k a w hk hSw i2 i3 i4 i5
      have hk2 : l1.length ≤ k := by simpa using List.drop_eq_nil_iff.1 hk
      have hv : ∀ i, ∃ v, i < ds.length → a.tmps[ds.getD i 0]? = some v ∧ F i w v := by
        intro i
        by_cases hi : i < ds.length
        · obtain ⟨v, h1, h2⟩ := i5 i ds[i] (List.getElem?_eq_getElem hi) (by omega)
          exact ⟨v, fun _ => ⟨by rw [List.getD_eq_getElem?_getD, List.getElem?_eq_getElem hi]; exact h1, h2⟩⟩
        · exact ⟨undef, fun h => absurd h hi⟩
      obtain ⟨V, hV⟩ := Classical.axiomOfChoice hv
      have hend := endT_at l1.length 0 [] ((List.range l1.length).map V) (he w hSw) (by simp) (fun i v hi => by
        simp only [List.getElem?_map] at hi
        obtain ⟨k, hk, rfl⟩ := Option.map_eq_some_iff.1 hi
        obtain ⟨hk1, hk2⟩ := List.getElem?_eq_some_iff.1 hk
        have : k = i := by simpa using hk2.symm
        subst this
        rw [Nat.zero_add]
        exact (hV k (by simp at hk1; omega)).2)
      have hfr : putAll a0 (ds.zip ((List.range l1.length).map V)) = a := by
        refine putAll_eq _ _ _ i2 i3 (fun t ht => i4 t fun hm => ?_) (fun x hx => ?_)
        · obtain ⟨i, hi, rfl⟩ := List.getElem_of_mem hm
          refine ht (ds[i], V i) ?_ rfl
          refine List.mem_iff_getElem?.2 ⟨i, ?_⟩
          simp [hi, hlen]
        · obtain ⟨i, hi⟩ := List.mem_iff_getElem?.1 hx
          obtain ⟨h1, h2⟩ := List.getElem?_zip_eq_some.1 hi
          have hil := (List.getElem?_eq_some_iff.1 h1).1
          have hx2 : V i = x.2 := by simpa [hlen, hil] using h2
          have := (hV i hil).1
          rw [List.getD_eq_getElem?_getD, h1] at this
          rw [← hx2]; exact this
      rw [List.nil_append, hfr] at hend
      exact hend
    | cons o l ih =>
      intro k a w hk hSw i2 i3 i4 i5
      have ho' : l1[k]? = some o := by
        have := congrArg (fun l => l[0]?) hk
        simpa using this
      obtain ⟨d, hod, hdi⟩ := hdst k o ho'
      have hst := stepsT_at hs ho'
      rw [Nat.zero_add] at hst
      refine list_step (List.all_eq_true.1 h6 o (List.mem_of_getElem? ho')) (hst a w hSw i3 i4 (allDeps_of fun j hj => ?_) _ fun v w' k1 k2 k3 => ?_)
      · obtain ⟨e, he, rfl⟩ := List.mem_map.1 hj
        obtain ⟨he1, he2⟩ := List.mem_filter.1 he
        have hlt : e.on < k := by have := back_at (k := 0) (i := k) h3 ho' e (by simpa using he1) he2; omega
        have hil : k < l1.length := (List.getElem?_eq_some_iff.1 ho').1
        obtain ⟨d', hd'⟩ : ∃ d', ds[e.on]? = some d' := ⟨ds[e.on]'(by omega), List.getElem?_eq_getElem (by omega)⟩
        obtain ⟨v, hv1, hv2⟩ := i5 e.on d' hd' hlt
        exact ⟨v, by rw [List.getD_eq_getElem?_getD, hd']; exact hv1, hv2⟩
      · refine ih (k + 1) _ w' (by rw [← List.drop_drop, hk]; rfl) k1 (by rw [hod]; exact i2) (by rw [hod]; show (a.tmps.setIfInBounds d v).size = _; simpa using i3) (fun t ht => ?_) (fun j dj hj hjk => ?_)
        · rw [hod]
          show (a.tmps.setIfInBounds d v)[t]? = _
          rw [Array.getElem?_setIfInBounds, if_neg (fun e => ht (by rw [← e]; exact List.mem_of_getElem? hdi))]
          exact i4 t ht
        · rw [hod]
          show ∃ v', (a.tmps.setIfInBounds d v)[dj]? = some v' ∧ _
          by_cases hji : j = k
          · subst hji
            have e : d = dj := Option.some.inj (hdi.symm.trans hj)
            subst e
            have hsz : d < a.tmps.size := by
              have := List.all_eq_true.1 hz d (List.mem_of_getElem? hdi)
              rw [i3]; simpa using this
            exact ⟨v, by simp [hsz], k3⟩
          · have hne : d ≠ dj := fun e => hji (nodup_at h4 hj (by rw [← e]; exact hdi))
            rw [Array.getElem?_setIfInBounds, if_neg hne]
            obtain ⟨v', hv1, hv2⟩ := i5 j dj hj (by omega)
            exact ⟨v', hv1, hF _ _ _ _ hv2 k2⟩
  exact key l1 0 a0 w0 (by simp) hS rfl rfl (fun _ _ => rfl) (fun i d _ h => by omega)
end

/-- a node, as a value -/
def IsNode (w : World) (v : Value) (x : Nd) : Prop := ∃ p c, v = .agg (nodeC x p c) ∧ Ready w p c x
def IsKids (w : World) (v : Value) (l : List Nd) : Prop := ∃ p c, v = .slice p l.length c ∧ KidsV w p l ∧ l.length ≤ c ∧ l.length ≤ 1000000
theorem IsNode.below {w w' : World} {v : Value} {x : Nd} (hb : Below w.heap.size w w') (h : IsNode w v x) : IsNode w' v x := by
  obtain ⟨p, c, h1, h2⟩ := h; exact ⟨p, c, h1, h2.below hb⟩
theorem IsKids.below {w w' : World} {v : Value} {l : List Nd} (hb : Below w.heap.size w w') (h : IsKids w v l) : IsKids w' v l := by
  obtain ⟨p, c, h1, h2, h3⟩ := h; exact ⟨p, c, h1, KidsV.below hb h2, h3⟩
theorem IsKids.nil (w : World) : IsKids w (.slice none 0 0) [] := ⟨none, 0, rfl, Or.inl rfl, Nat.le_refl _, by simp⟩
/-- no node of no kind -/
def zeros : Array Value := #[.int .u8 0, .string { data := #[] }, .int .i64 0, .int .i64 0, .slice none 0 0]
def ZeroAt (w : World) (b : Nat) : Prop := w.heap[b]? = some (.cells zeros 25 (0, 0))
theorem ZeroAt.below {w w' : World} {b : Nat} (hb : Below w.heap.size w w') (h : ZeroAt w b) : ZeroAt w' b := (hb.block b (Array.getElem?_eq_some_iff.1 h).1).trans h
mutual
def properN : Nd → Bool
  | .mk k _ _ _ l => k != 0 && properL l
def properL : List Nd → Bool
  | [] => true
  | x :: l => properN x && properL l
end
theorem off_zero {w : World} {b o k : Nat} (h : ZeroAt w b) (hk : k ≠ 0) : w.cell? ⟨b, o, none⟩ ≠ some (.int .u8 (k : Int)) := by
  intro e
  rw [cell_of_row w b o _ _ (0, 0) h] at e
  unfold zeros at e
  rcases o with _ | _ | _ | _ | _ | o
  · simp at e; exact hk (by omega)
  · simp at e
  · simp at e
  · simp at e
  · simp at e
  · simp at e
mutual
theorem NdAt.set {w w' : World} {b : Nat} (h0 : ZeroAt w b) (hw : ∀ i, i ≠ b → w'.heap[i]? = w.heap[i]?) : ∀ (x : Nd) (g o : Nat), properN x = true → NdAt w g o x → NdAt w' g o x
  | .mk k t n a l, g, o, hp, h => by
    rw [NdAt] at h ⊢
    simp only [properN, Bool.and_eq_true, bne_iff_ne] at hp
    obtain ⟨h1, h2, h3, h4, h5, h6, p, c, h7, h9, h8⟩ := h
    have hg : g ≠ b := fun e => off_zero h0 hp.1 (by rw [← e]; exact h3)
    have cell : ∀ {j v}, w.cell? ⟨g, j, none⟩ = some v → w'.cell? ⟨g, j, none⟩ = some v := fun hc => (World.cell?_of_block (w := w) (hw g hg)).trans hc
    refine ⟨h1, h2, cell h3, cell h4, cell h5, cell h6, p, c, cell h7, h9, ?_⟩
    rcases h8 with h8 | ⟨g', o', e, h8⟩
    · exact Or.inl h8
    · exact Or.inr ⟨g', o', e, NdsAt.set h0 hw l g' o' hp.2 h8⟩
theorem NdsAt.set {w w' : World} {b : Nat} (h0 : ZeroAt w b) (hw : ∀ i, i ≠ b → w'.heap[i]? = w.heap[i]?) : ∀ (l : List Nd) (g o : Nat), properL l = true → NdsAt w g o l → NdsAt w' g o l
  | [], _, _, _, _ => by rw [NdsAt]; trivial
  | x :: l, g, o, hp, h => by
    rw [NdsAt] at h ⊢
    simp only [properL, Bool.and_eq_true] at hp
    exact ⟨NdAt.set h0 hw x g o hp.1 h.1, NdsAt.set h0 hw l g (o + 5) hp.2 h.2⟩
end
theorem Ready.set {w w' : World} {b : Nat} {p : Option Addr} {c : Nat} {x : Nd} (h0 : ZeroAt w b) (hw : ∀ i, i ≠ b → w'.heap[i]? = w.heap[i]?) (hp : properN x = true) (h : Ready w p c x) : Ready w' p c x := by
  obtain ⟨k, t, n, a, l⟩ := x
  refine ⟨?_, h.cap, h.len, h.text⟩
  rcases h.kids with e | ⟨g, o, e, hn⟩
  · exact Or.inl e
  · simp only [properN, Bool.and_eq_true] at hp
    exact Or.inr ⟨g, o, e, NdsAt.set h0 hw _ _ _ hp.2 hn⟩
/-- a variable that holds a node -/
def NodeBox (w : World) (b : Nat) (x : Nd) : Prop := ∃ p c, Box5 w b (.int .u8 (x.kind : Int)) (.string x.text) (.int .i64 x.num) (.int .i64 x.at_) (.slice p x.kids.length c) ∧ Ready w p c x
theorem NodeBox.below {w w' : World} {b : Nat} {x : Nd} (hb : Below w.heap.size w w') (h : NodeBox w b x) : NodeBox w' b x := by
  obtain ⟨p, c, h1, h2⟩ := h; exact ⟨p, c, h1.below hb, h2.below hb⟩
inductive BSpec
  | node (x : Nd)
  | kids (l : List Nd)
  | fresh
  | val (u : Value)
def BSpec.holds (w0 : World) (w : World) (v : Value) : BSpec → Prop
  | .node x => IsNode w v x
  | .kids l => IsKids w v l
  | .fresh => ∃ b, v = .pointer (some ⟨b, 0, none⟩) ∧ w0.heap.size ≤ b ∧ ZeroAt w b
  | .val u => v = u
def FS (specs : List BSpec) (w0 : World) (i : Nat) (w : World) (v : Value) : Prop := ∃ s, specs[i]? = some s ∧ s.holds w0 w v
theorem FS.below {specs : List BSpec} {w0 : World} (i : Nat) (w w' : World) (v : Value) (h : FS specs w0 i w v) (hb : Below w.heap.size w w') : FS specs w0 i w' v := by
  obtain ⟨s, h1, h2⟩ := h
  refine ⟨s, h1, ?_⟩
  cases s with
  | node x => exact IsNode.below hb h2
  | kids l => exact IsKids.below hb h2
  | fresh => obtain ⟨b, e, h3, h4⟩ := h2; exact ⟨b, e, h3, h4.below hb⟩
  | val u => exact h2
theorem FS.of {specs : List BSpec} {w0 w : World} {i : Nat} {v : Value} {s : BSpec} (h : FS specs w0 i w v) (hs : specs[i]? = some s) : s.holds w0 w v := by
  obtain ⟨s', h1, h2⟩ := h
  rw [hs] at h1; cases h1; exact h2
theorem allDeps_get {ds : List Tmp} {F : Nat → World → Value → Prop} {a : Act} {w : World} {j : Nat} : ∀ {l : List Nat}, AllDeps ds F a w l → j ∈ l → ∃ v, a.tmps[ds.getD j 0]? = some v ∧ F j w v
  | [], _, hj => by cases hj
  | i :: l, h, hj => by
    rcases List.mem_cons.1 hj with rfl | hj
    · exact h.1
    · exact allDeps_get h.2 hj
section
variable {Q : Exit → Act → World → Prop} {specs : List BSpec} {ds : List Tmp} {a0 : Act} {w0 : World} {i : Nat} {o : Oper}
/-- a variable is read -/
theorem st_load {t : Tmp} {b : Nat} {x : Nd} (hs : specs[i]? = some (.node x)) (ho : o.op = .load 25 (.tmp t)) (ht : ds.contains t = false) (ha : a0.tmps[t]? = some (.pointer (some ⟨b, 0, none⟩))) (hb : NodeBox w0 b x) :
    StepT Try.prog Q (fun u => Below w0.heap.size w0 u) (FS specs w0) ds a0 i o := by
  intro a w hS _ hfr _ K hK
  obtain ⟨p, c, hbx, hr⟩ := NodeBox.below hS hb
  obtain ⟨k0, k1, k2, k3, k4⟩ := hbx
  have h1 := eval_tmp ((hfr t (by simpa using ht)).trans ha)
  refine wp_val (v := .agg (nodeC x p c)) (w' := w) ?_ (hK.out _ _ hS (Below.refl _ _) ⟨_, hs, p, c, rfl, hr⟩)
  unfold nodeC
  simp only [execOp, ho, h1]
  go_simp
/-- a row of nodes, or none, as an argument -/
inductive KArg (specs : List BSpec) (ds : List Tmp) (o : Oper) : Operand → List Nd → Prop
  | none : KArg specs ds o (.const (.slice none 0 0)) []
  | tmp {j : Nat} {t : Tmp} {l : List Nd} (hj : (depsOf o).contains j = true) (ht : ds.getD j 0 = t) (hl : specs[j]? = some (.kids l)) : KArg specs ds o (.tmp t) l
theorem KArg.get {X : Operand} {l : List Nd} {a : Act} {w : World} (hk : KArg specs ds o X l) (hd : AllDeps ds (FS specs w0) a w (depsOf o)) : ∃ v, a.eval X = v ∧ IsKids w v l := by
  cases hk with
  | none => exact ⟨_, rfl, IsKids.nil w⟩
  | tmp hj ht hl =>
    obtain ⟨v, hv, hf⟩ := allDeps_get hd (by simpa using hj)
    rw [ht] at hv
    exact ⟨v, eval_tmp hv, FS.of hf hl⟩
/-- an argument's row -/
theorem st_move {t : Tmp} {v : Value} {l : List Nd} (hs : specs[i]? = some (.kids l)) (ho : o.op = .move (.tmp t)) (ht : ds.contains t = false) (ha : a0.tmps[t]? = some v) (hb : IsKids w0 v l) :
    StepT Try.prog Q (fun u => Below w0.heap.size w0 u) (FS specs w0) ds a0 i o := by
  intro a w hS _ hfr _ K hK
  have h1 := eval_tmp ((hfr t (by simpa using ht)).trans ha)
  refine wp_val (v := v) (w' := w) ?_ (hK.out _ _ hS (Below.refl _ _) ⟨_, hs, IsKids.below hS hb⟩)
  simp only [execOp, ho, h1]
  go_simp
/-- a new variable -/
theorem st_alloc (hs : specs[i]? = some .fresh) (ho : o.op = .alloc 25) : StepT Try.prog Q (fun u => Below w0.heap.size w0 u) (FS specs w0) ds a0 i o := by
  intro a w hS _ _ _ K hK
  refine wp_val (v := .pointer (some ⟨w.heap.size, 0, none⟩)) (w' := w.alloc (.cells zeros 25)) ?_ (hK.out _ _ (hS.alloc hS.size _) ((Below.refl _ _).alloc (Nat.le_refl _) _) ⟨_, hs, _, rfl, hS.size, heap_alloc_new w _⟩)
  simp only [execOp, ho]
  simp [Instr.alloc, Try.zeroValue25, go_sem, zeros]
/-- a call whose answer is a node -/
theorem st_call {f : FuncId} {x : Nd} (hs : specs[i]? = some (.node x)) {args : Act → Array Value} (hrun : ∀ a w, (execOp a.eval o).run Try.prog w = .ok (.enter f (args a)) w)
    (hc : ∀ a w, Below w0.heap.size w0 w → (∀ t, t ∉ ds → a.tmps[t]? = a0.tmps[t]?) → AllDeps ds (FS specs w0) a w (depsOf o) → Calls Try.prog f (args a) w fun e w' => ∃ u, e = .returned u ∧ IsNode w' u x ∧ Below w.heap.size w w') :
    StepT Try.prog Q (fun u => Below w0.heap.size w0 u) (FS specs w0) ds a0 i o := by
  intro a w hS _ hfr hd K hK
  refine wp_go (f := f) (args := args a) (hrun a w) ((hc a w hS hfr hd).mono ?_)
  rintro e w' ⟨u, rfl, h1, h2⟩
  exact hK.out _ _ (hS.trans (h2.mono hS.size)) h2 ⟨_, hs, h1⟩
/-- what a store leaves -/
structure Stored (w w' : World) (b : Nat) (x : Nd) : Prop where
  box : NodeBox w' b x
  size : w'.heap.size = w.heap.size
  other : ∀ i, i ≠ b → w'.heap[i]? = w.heap[i]?
  below : ∀ B, B ≤ b → Below B w w'
theorem Stored.on {w0 w w' : World} {b : Nat} {x : Nd} (h : Stored w w' b x) (hb : Below w0.heap.size w0 w) (hle : w0.heap.size ≤ b) : Below w0.heap.size w0 w' := hb.trans (h.below _ hle)
theorem fin_store {ops : Array Oper} {Q : Exit → Act → World → Prop} {o : Oper} {tb ts : Operand} {a : Act} {w : World} {b : Nat} {v : Value} {x : Nd} (ho : o.op = .store 25 tb ts) (hg : o.guard = none) (hd : o.dst = none)
    (hb : a.eval tb = .pointer (some ⟨b, 0, none⟩)) (hv : a.eval ts = v) (hz : ZeroAt w b) (hx : IsNode w v x) (hp : properN x = true) {rest : List Oper} (h : ∀ w', Stored w w' b x → wpList Try.prog ops Q rest a w') : wpList Try.prog ops Q (o :: rest) a w := by
  obtain ⟨p, c, rfl, hr⟩ := hx
  refine wpList_store_rowTo hg _ tb ts ho hd b (nodeC x p c) hb hv _ _ hz (by kernel_rfl) rfl (by kernel_rfl) (h _ ?_)
  have hblk : (w.setRow b (nodeC x p c)).heap[b]? = some (.cells (nodeC x p c) 25 (0, 0)) := setRow_heap w b _ _ _ _ hz
  have hoth : ∀ i, i ≠ b → (w.setRow b (nodeC x p c)).heap[i]? = w.heap[i]? := fun i hi => setRow_other w b i _ hi
  have hsz : (w.setRow b (nodeC x p c)).heap.size = w.heap.size := by simp [World.setRow]
  refine ⟨⟨p, c, ?_, Ready.set hz hoth hp hr⟩, hsz, hoth, fun B hB => ⟨?_, ?_, ?_, by rw [hsz]; exact Nat.le_refl _, fun k hk => hoth k (by omega)⟩⟩
  · have hc := fun j => cell_of_row (w.setRow b (nodeC x p c)) b j _ _ (0, 0) hblk
    exact ⟨hc 0, hc 1, hc 2, hc 3, hc 4⟩
  all_goals simp [World.setRow]
theorem NodeBox.set {w w' : World} {b b2 : Nat} {x y : Nd} (hs : Stored w w' b x) (h0 : ZeroAt w b) (h : NodeBox w b2 y) (hp : properN y = true) (hne : b2 ≠ b) : NodeBox w' b2 y := by
  obtain ⟨p, c, ⟨c0, c1, c2, c3, c4⟩, hr⟩ := h
  have cell : ∀ {j v}, w.cell? ⟨b2, j, none⟩ = some v → w'.cell? ⟨b2, j, none⟩ = some v := fun hc => (World.cell?_of_block (w := w) (hs.other b2 hne)).trans hc
  exact ⟨p, c, ⟨cell c0, cell c1, cell c2, cell c3, cell c4⟩, Ready.set h0 hs.other hp hr⟩
theorem fin_alloc {ops : Array Oper} {Q : Exit → Act → World → Prop} {o : Oper} {a : Act} {w : World} (ho : o.op = .alloc 25) (hg : o.guard.isNone = true) {rest : List Oper}
    (h : ∀ b w', w.heap.size = b → Below w.heap.size w w' → ZeroAt w' b → w'.heap.size = b + 1 → wpList Try.prog ops Q rest (a.put o.dst (.pointer (some ⟨b, 0, none⟩))) w') : wpList Try.prog ops Q (o :: rest) a w := by
  refine list_step hg (wp_val (v := .pointer (some ⟨w.heap.size, 0, none⟩)) (w' := w.alloc (.cells zeros 25)) ?_ (h _ _ rfl ((Below.refl _ _).alloc (Nat.le_refl _) _) (heap_alloc_new w _) (by simp)))
  simp only [execOp, ho]
  simp [Instr.alloc, Try.zeroValue25, go_sem, zeros]
theorem IsNode.set {w w' : World} {b : Nat} {x y : Nd} {v : Value} (hs : Stored w w' b x) (h0 : ZeroAt w b) (h : IsNode w v y) (hp : properN y = true) : IsNode w' v y := by
  obtain ⟨p, c, e, hr⟩ := h; exact ⟨p, c, e, Ready.set h0 hs.other hp hr⟩
theorem ZeroAt.set {w w' : World} {b b2 : Nat} {x : Nd} (hs : Stored w w' b x) (h : ZeroAt w b2) (hne : b2 ≠ b) : ZeroAt w' b2 := (hs.other b2 hne).trans h
theorem NodeBox.lt {w : World} {b : Nat} {x : Nd} (h : NodeBox w b x) : b < w.heap.size := by
  obtain ⟨p, c, h1, _⟩ := h
  exact World.block_lt_of_cell? _ _ h1.c0
theorem ZeroAt.lt {w : World} {b : Nat} (h : ZeroAt w b) : b < w.heap.size := (Array.getElem?_eq_some_iff.1 h).1
/-- the variables so far; R: the result's -/
structure Env (w : World) (R : Nat) (wk : World) (vs : List (Nat × Nd)) : Prop where
  on : Below w.heap.size w wk
  le : w.heap.size ≤ R
  zero : ZeroAt wk R
  vars : ∀ e ∈ vs, NodeBox wk e.1 e.2 ∧ w.heap.size ≤ e.1 ∧ e.1 ≠ R ∧ properN e.2 = true
theorem Env.start (w : World) : Env w w.heap.size (w.alloc (.cells zeros 25)) [] := ⟨(Below.refl _ _).alloc (Nat.le_refl _) _, Nat.le_refl _, heap_alloc_new w _, fun _ h => by cases h⟩
theorem Env.below {w wk w' : World} {R : Nat} {vs : List (Nat × Nd)} (h : Env w R wk vs) (hb : Below wk.heap.size wk w') : Env w R w' vs :=
  ⟨h.on.trans (hb.mono h.on.size), h.le, h.zero.below hb, fun e he => ⟨(h.vars e he).1.below hb, (h.vars e he).2⟩⟩
theorem Env.store {w wk w' : World} {R b : Nat} {x : Nd} {vs : List (Nat × Nd)} (h : Env w R wk vs) (hz : ZeroAt wk b) (hs : Stored wk w' b x) (hle : w.heap.size ≤ b) (hR : b ≠ R) (hne : ∀ e ∈ vs, e.1 ≠ b) (hp : properN x = true) : Env w R w' ((b, x) :: vs) := by
  refine ⟨h.on.trans (hs.below _ hle), h.le, ZeroAt.set hs h.zero hR.symm, fun e he => ?_⟩
  rcases List.mem_cons.1 he with rfl | he
  · exact ⟨hs.box, hle, hR, hp⟩
  · exact ⟨NodeBox.set hs hz (h.vars e he).1 (h.vars e he).2.2.2 (hne e he), (h.vars e he).2⟩
theorem Env.after {w wk wx w' : World} {R b : Nat} {x : Nd} {vs : List (Nat × Nd)} (h : Env w R wk vs) (hb : Below wk.heap.size wk wx) (hz : ZeroAt wx b) (hle : wk.heap.size ≤ b) (hs : Stored wx w' b x) (hp : properN x = true) : Env w R w' ((b, x) :: vs) :=
  (h.below hb).store hz hs (Nat.le_trans h.on.size hle) (by have := h.zero.lt; omega) (fun e he => by have := (h.vars e he).1.lt; omega) hp
theorem Env.get {w wk : World} {R b : Nat} {x : Nd} {vs : List (Nat × Nd)} (h : Env w R wk vs) (he : (b, x) ∈ vs) : NodeBox wk b x := (h.vars _ he).1
end
end Go.Proofs.Ytkjpdhnibfhaaaa.Build
