/- A region that does not draw, with guards that are met: what its slots hold. -/
import Derived.Test.YtkjpdhnibfhaaaaNodeV
import Derived.Test.YtkjpdhnibfhaaaaBuildN
namespace Go.Proofs.Ytkjpdhnibfhaaaa.Build
open Go Go.RowKit Go.Proofs.Ytkjpdhnibfhaaaa.Nodey Go.Proofs.Ytkjpdhnibfhaaaa.NodeA Go.Proofs.Ytkjpdhnibfhaaaa.NodeB Go.Proofs.Ytkjpdhnibfhaaaa.NodeF Go.Proofs.Ytkjpdhnibfhaaaa.NodeI Go.Proofs.Ytkjpdhnibfhaaaa.NodeK Go.Proofs.Ytkjpdhnibfhaaaa.NodeM Go.Proofs.Ytkjpdhnibfhaaaa.NodeS Go.Proofs.Ytkjpdhnibfhaaaa.NodeT Go.Proofs.Ytkjpdhnibfhaaaa.NodeU Go.Proofs.Ytkjpdhnibfhaaaa.Cut

/-- the guards are met -/
def guardB (specs : List BSpec) (o : Oper) : Prop := o.guard = none ∨ ∃ g b, o.guard = some (g, b) ∧ (depsOf o).contains g = true ∧ specs[g]? = some (.val (.bool b))
def GuardsB (specs : List BSpec) : List Oper → Prop
  | [] => True
  | o :: l => guardB specs o ∧ GuardsB specs l
theorem guards_at {specs : List BSpec} : ∀ {l : List Oper} {i : Nat} {o : Oper}, GuardsB specs l → l[i]? = some o → guardB specs o
  | [], i, o, _, h => by simp at h
  | x :: l, 0, o, hs, h => by
    have : x = o := by simpa using h
    subst this; exact hs.1
  | x :: l, i + 1, o, hs, h => guards_at (i := i) hs.2 (by simpa using h)
theorem guard_no {specs : List BSpec} {o : Oper} (h : o.guard = none) : guardB specs o := Or.inl h
theorem guard_yes {specs : List BSpec} {o : Oper} {g : Nat} {b : Bool} (h : o.guard = some (g, b)) (hd : (depsOf o).contains g = true) (hs : specs[g]? = some (.val (.bool b))) : guardB specs o := Or.inr ⟨g, b, h, hd, hs⟩
section
variable {P : Program} {Q : Exit → Act → World → Prop}
theorem wp_region_guarded {l1 l2 : List Oper} {id : Nat} {a0 : Act} {w0 : World} (ds : List Tmp) (S : World → Prop) (specs : List BSpec)
    (hB : (Cut.backB 0 l1 && Cut.nodupB ds && (l1.map (·.dst) == ds.map some)) = true) (hG : GuardsB specs l1)
    (hz : (ds.all fun d => decide (d < a0.tmps.size)) = true) (hS : S w0)
    (hs : StepsT P Q S (FS specs w0) ds a0 0 l1)
    (he : ∀ a w, S w → a.defers = a0.defers → a.tmps.size = a0.tmps.size → (∀ t, t ∉ ds → a.tmps[t]? = a0.tmps[t]?) → (∀ (i : Nat) (d : Tmp), ds[i]? = some d → ∃ v, a.tmps[d]? = some v ∧ FS specs w0 i w v) → wpList P (l1 ++ l2).toArray Q l2 a w) : (Code.region id (l1 ++ l2).toArray false).wp P Q a0 w0 := by
  simp only [Bool.and_eq_true, beq_iff_eq] at hB
  obtain ⟨⟨h3, h4⟩, h5⟩ := hB
  have hdst : ∀ (i : Nat) (o : Oper), l1[i]? = some o → ∃ d, o.dst = some d ∧ ds[i]? = some d := by
    intro i o ho
    have h := congrArg (fun l => l[i]?) h5
    simp only [List.getElem?_map, ho, Option.map_some] at h
    cases hd : ds[i]? with
    | none => rw [hd] at h; simp at h
    | some d => rw [hd] at h; exact ⟨d, by simpa using h, rfl⟩
  have hlen : l1.length = ds.length := by simpa using congrArg List.length h5
  refine wp_region_lit ?_
  have key : ∀ (l : List Oper) (k : Nat) (a : Act) (w : World), l1.drop k = l → S w → a.defers = a0.defers → a.tmps.size = a0.tmps.size → (∀ t, t ∉ ds → a.tmps[t]? = a0.tmps[t]?) → (∀ i d, ds[i]? = some d → i < k → ∃ v, a.tmps[d]? = some v ∧ FS specs w0 i w v) →
      wpList P (l1 ++ l2).toArray Q (l ++ l2) a w := by
    intro l
    induction l with
    | nil =>
      intro k a w hk hSw i2 i3 i4 i5
      have hk2 : l1.length ≤ k := by simpa using List.drop_eq_nil_iff.1 hk
      rw [List.nil_append]
      exact he a w hSw i2 i3 i4 fun i d hd => i5 i d hd (by have := (List.getElem?_eq_some_iff.1 hd).1; omega)
    | cons o l ih =>
      intro k a w hk hSw i2 i3 i4 i5
      have ho' : l1[k]? = some o := by
        have := congrArg (fun l => l[0]?) hk
        simpa using this
      obtain ⟨d, hod, hdi⟩ := hdst k o ho'
      have hst := stepsT_at hs ho'
      rw [Nat.zero_add] at hst
      have hdeps : AllDeps ds (FS specs w0) a w (depsOf o) := allDeps_of fun j hj => by
        obtain ⟨e, he, rfl⟩ := List.mem_map.1 hj
        obtain ⟨he1, he2⟩ := List.mem_filter.1 he
        have hlt : e.on < k := by have := back_at (k := 0) (i := k) h3 ho' e (by simpa using he1) he2; omega
        have hil : k < l1.length := (List.getElem?_eq_some_iff.1 ho').1
        obtain ⟨d', hd'⟩ : ∃ d', ds[e.on]? = some d' := ⟨ds[e.on]'(by omega), List.getElem?_eq_getElem (by omega)⟩
        obtain ⟨v, hv1, hv2⟩ := i5 e.on d' hd' hlt
        exact ⟨v, by rw [List.getD_eq_getElem?_getD, hd']; exact hv1, hv2⟩
      have hwant : Region.wanted o (yielded (l1 ++ l2).toArray a.tmps) = true := by
        rcases guards_at hG ho' with h | ⟨g, b, h, hgd, hgs⟩
        · exact want_none (by rw [h]; rfl)
        · obtain ⟨v, hv1, hv2⟩ := allDeps_get hdeps (by simpa using hgd)
          have hv : v = .bool b := FS.of hv2 hgs
          subst hv
          have hgl : g < l1.length := by
            obtain ⟨e, he, rfl⟩ := List.mem_map.1 (show g ∈ depsOf o by simpa using hgd)
            obtain ⟨he1, he2⟩ := List.mem_filter.1 he
            have hlt : e.on < k := by have := back_at (k := 0) (i := k) h3 ho' e (by simpa using he1) he2; omega
            have hil : k < l1.length := (List.getElem?_eq_some_iff.1 ho').1
            omega
          obtain ⟨dg, hdg1, hdg2⟩ := hdst g l1[g] (List.getElem?_eq_getElem hgl)
          refine wanted_at (t := dg) h ?_ ?_
          · rw [List.getElem?_toArray, List.getElem?_append_left hgl, List.getElem?_eq_getElem hgl]; exact hdg1
          · rw [List.getD_eq_getElem?_getD, hdg2] at hv1; exact hv1
      show wpList _ _ _ (o :: (l ++ l2)) _ _
      rw [wpList, if_pos hwant]
      refine .inl (hst a w hSw i3 i4 hdeps _ fun v w' k1 k2 k3 => ?_)
      refine ih (k + 1) _ w' (by rw [← List.drop_drop, hk]; rfl) k1 (by rw [hod]; exact i2) (by rw [hod]; show (a.tmps.setIfInBounds d v).size = _; simpa using i3) (fun t ht => ?_) (fun j dj hj hjk => ?_)
      · rw [hod]
        show (a.tmps.setIfInBounds d v)[t]? = _
        rw [Array.getElem?_setIfInBounds, if_neg (fun e => ht (by rw [← e]; exact List.mem_of_getElem? hdi))]
        exact i4 t ht
      · rw [hod]
        show ∃ v', (a.tmps.setIfInBounds d v)[dj]? = some v' ∧ _
        by_cases hji : j = k
        · subst hji
          have e : d = dj := Option.some.inj (hdi.symm.trans hj)
          subst e
          have hsz : d < a.tmps.size := by
            have := List.all_eq_true.1 hz d (List.mem_of_getElem? hdi)
            rw [i3]; simpa using this
          exact ⟨v, by simp [hsz], k3⟩
        · have hne : d ≠ dj := fun e => hji (nodup_at h4 hj (by rw [← e]; exact hdi))
          rw [Array.getElem?_setIfInBounds, if_neg hne]
          obtain ⟨v', hv1, hv2⟩ := i5 j dj hj (by omega)
          exact ⟨v', hv1, FS.below _ _ _ _ hv2 k2⟩
  exact key l1 0 a0 w0 (by simp) hS rfl rfl (fun _ _ => rfl) (fun i d _ h => by omega)
end
section
variable {Q : Exit → Act → World → Prop} {specs : List BSpec} {ds : List Tmp} {a0 : Act} {w0 : World} {i : Nat} {o : Oper}
/-- a call whose answer is told -/
theorem st_callv {f : FuncId} {u : Value} (hs : specs[i]? = some (.val u)) {args : Act → Array Value} (hrun : ∀ a w, (execOp a.eval o).run Try.prog w = .ok (.enter f (args a)) w)
    (hc : ∀ a w, Below w0.heap.size w0 w → AllDeps ds (FS specs w0) a w (depsOf o) → Calls Try.prog f (args a) w fun e w' => e = .returned u ∧ Below w.heap.size w w') :
    StepT Try.prog Q (fun u => Below w0.heap.size w0 u) (FS specs w0) ds a0 i o := by
  intro a w hS _ _ hd K hK
  refine wp_go (f := f) (args := args a) (hrun a w) ((hc a w hS hd).mono ?_)
  rintro e w' ⟨rfl, h2⟩
  exact hK.out _ _ (hS.trans (h2.mono hS.size)) h2 ⟨_, hs, rfl⟩
theorem get_node {j : Nat} {t : Tmp} {x : Nd} {a : Act} {w : World} (hd : AllDeps ds (FS specs w0) a w (depsOf o)) (hj : (depsOf o).contains j = true) (ht : ds.getD j 0 = t) (hl : specs[j]? = some (.node x)) : ∃ v, a.eval (.tmp t) = v ∧ IsNode w v x := by
  obtain ⟨v, hv, hf⟩ := allDeps_get hd (by simpa using hj)
  rw [ht] at hv
  exact ⟨v, eval_tmp hv, FS.of hf hl⟩
theorem get_val {j : Nat} {t : Tmp} {u : Value} {a : Act} {w : World} (hd : AllDeps ds (FS specs w0) a w (depsOf o)) (hj : (depsOf o).contains j = true) (ht : ds.getD j 0 = t) (hl : specs[j]? = some (.val u)) : a.eval (.tmp t) = u := by
  obtain ⟨v, hv, hf⟩ := allDeps_get hd (by simpa using hj)
  rw [ht] at hv
  have : v = u := FS.of hf hl
  rw [← this]
  exact eval_tmp hv
theorem st_right {j : Nat} {t : Tmp} {x : Nd} {b : Bool} {mm : Int} {tys : Array TypeId} (hm : w0.cell? ⟨0, 0, none⟩ = some (.int .i64 mm)) (hs : specs[i]? = some (.val (.bool b))) (hj : (depsOf o).contains j = true) (ht : ds.getD j 0 = t) (hl : specs[j]? = some (.node x))
    (ho : o.op = .call { callee := .value (.func 8), args := #[.tmp t], argTypes := tys }) (hb : rightN x = b) : StepT Try.prog Q (fun u => Below w0.heap.size w0 u) (FS specs w0) ds a0 i o := by
  refine st_callv (f := 8) hs (args := fun a => #[a.eval (.tmp t)]) (fun a w => ?_) fun a w hS hd => ?_
  · simp only [execOp, ho]; go_simp
  · obtain ⟨v, hv, p, c, rfl, hr⟩ := get_node hd hj ht hl
    simp only [hv]
    rw [← hb]
    exact right_any (cell_on hS hm) hr
theorem st_deep {j : Nat} {t : Tmp} {x : Nd} {n : Int} {tys : Array TypeId} (hs : specs[i]? = some (.val (.int .i64 n))) (hj : (depsOf o).contains j = true) (ht : ds.getD j 0 = t) (hl : specs[j]? = some (.node x))
    (ho : o.op = .call { callee := .value (.func 9), args := #[.tmp t], argTypes := tys }) (hn : (deepN x : Int) = n) (hle : deepN x ≤ 1000000000) : StepT Try.prog Q (fun u => Below w0.heap.size w0 u) (FS specs w0) ds a0 i o := by
  refine st_callv (f := 9) hs (args := fun a => #[a.eval (.tmp t)]) (fun a w => ?_) fun a w hS hd => ?_
  · simp only [execOp, ho]; go_simp
  · obtain ⟨v, hv, p, c, rfl, hr⟩ := get_node hd hj ht hl
    simp only [hv]
    rw [← hn]
    exact NodeU.deep_any x p c w hr hle
theorem st_val {u : Value} (hs : specs[i]? = some (.val u)) (hrun : ∀ a w, AllDeps ds (FS specs w0) a w (depsOf o) → (execOp a.eval o).run Try.prog w = .ok (.value u) w) : StepT Try.prog Q (fun u => Below w0.heap.size w0 u) (FS specs w0) ds a0 i o := by
  intro a w hS _ _ hd K hK
  exact wp_val (v := u) (w' := w) (hrun a w hd) (hK.out _ _ hS (Below.refl _ _) ⟨_, hs, rfl⟩)
theorem st_movev {j : Nat} {t : Tmp} {u : Value} (hs : specs[i]? = some (.val u)) (hj : (depsOf o).contains j = true) (ht : ds.getD j 0 = t) (hl : specs[j]? = some (.val u)) (ho : o.op = .move (.tmp t)) :
    StepT Try.prog Q (fun u => Below w0.heap.size w0 u) (FS specs w0) ds a0 i o := by
  refine st_val hs fun a w hd => ?_
  simp only [execOp, ho, get_val hd hj ht hl]
  go_simp
theorem st_pick {j1 j2 : Nat} {t1 t2 : Tmp} {b : Bool} {c : Value} (hs : specs[i]? = some (.val (.bool b))) (d1 : (depsOf o).contains j1 = true) (e1 : ds.getD j1 0 = t1) (l1 : specs[j1]? = some (.val (.bool true))) (d2 : (depsOf o).contains j2 = true) (e2 : ds.getD j2 0 = t2) (l2 : specs[j2]? = some (.val (.bool b))) (ho : o.op = .pick (.tmp t1) (.tmp t2) (.const c)) :
    StepT Try.prog Q (fun u => Below w0.heap.size w0 u) (FS specs w0) ds a0 i o := by
  refine st_val hs fun a w hd => ?_
  simp only [execOp, ho, get_val hd d1 e1 l1, get_val hd d2 e2 l2]
  go_simp
theorem st_not {j : Nat} {t : Tmp} {b c : Bool} {T : TypeId} (hs : specs[i]? = some (.val (.bool c))) (hj : (depsOf o).contains j = true) (ht : ds.getD j 0 = t) (hl : specs[j]? = some (.val (.bool b))) (ho : o.op = .unOp .not T (.tmp t)) (hb : c = !b) :
    StepT Try.prog Q (fun u => Below w0.heap.size w0 u) (FS specs w0) ds a0 i o := by
  subst hb
  refine st_val hs fun a w hd => ?_
  simp only [execOp, ho, get_val hd hj ht hl]
  go_simp
theorem st_eql {j : Nat} {t : Tmp} {n m : Int} {b : Bool} (hs : specs[i]? = some (.val (.bool b))) (hj : (depsOf o).contains j = true) (ht : ds.getD j 0 = t) (hl : specs[j]? = some (.val (.int .i64 n))) (ho : o.op = .binOp .eql 3 (.tmp t) (.const (.int .i64 m)) 3) (hb : (n == m) = b) :
    StepT Try.prog Q (fun u => Below w0.heap.size w0 u) (FS specs w0) ds a0 i o := by
  subst hb
  refine st_val hs fun a w hd => ?_
  simp only [execOp, ho, get_val hd hj ht hl]
  go_simp
end
/-- the variables so far, no result's among them -/
structure EnvV (w : World) (wk : World) (vs : List (Nat × Nd)) : Prop where
  on : Below w.heap.size w wk
  vars : ∀ e ∈ vs, NodeBox wk e.1 e.2 ∧ w.heap.size ≤ e.1 ∧ properN e.2 = true
theorem EnvV.start (w : World) : EnvV w w [] := ⟨Below.refl _ _, fun _ h => by cases h⟩
theorem EnvV.below {w wk w' : World} {vs : List (Nat × Nd)} (h : EnvV w wk vs) (hb : Below wk.heap.size wk w') : EnvV w w' vs :=
  ⟨h.on.trans (hb.mono h.on.size), fun e he => ⟨(h.vars e he).1.below hb, (h.vars e he).2⟩⟩
theorem EnvV.store {w wk w' : World} {b : Nat} {x : Nd} {vs : List (Nat × Nd)} (h : EnvV w wk vs) (hz : ZeroAt wk b) (hs : Stored wk w' b x) (hle : w.heap.size ≤ b) (hne : ∀ e ∈ vs, e.1 ≠ b) (hp : properN x = true) : EnvV w w' ((b, x) :: vs) := by
  refine ⟨h.on.trans (hs.below _ hle), fun e he => ?_⟩
  rcases List.mem_cons.1 he with rfl | he
  · exact ⟨hs.box, hle, hp⟩
  · exact ⟨NodeBox.set hs hz (h.vars e he).1 (h.vars e he).2.2 (hne e he), (h.vars e he).2⟩
theorem EnvV.after {w wk wx w' : World} {b : Nat} {x : Nd} {vs : List (Nat × Nd)} (h : EnvV w wk vs) (hb : Below wk.heap.size wk wx) (hz : ZeroAt wx b) (hle : wk.heap.size ≤ b) (hs : Stored wx w' b x) (hp : properN x = true) : EnvV w w' ((b, x) :: vs) :=
  (h.below hb).store hz hs (Nat.le_trans h.on.size hle) (fun e he => by have := (h.vars e he).1.lt; omega) hp
theorem EnvV.get {w wk : World} {b : Nat} {x : Nd} {vs : List (Nat × Nd)} (h : EnvV w wk vs) (he : (b, x) ∈ vs) : NodeBox wk b x := (h.vars _ he).1
end Go.Proofs.Ytkjpdhnibfhaaaa.Build
