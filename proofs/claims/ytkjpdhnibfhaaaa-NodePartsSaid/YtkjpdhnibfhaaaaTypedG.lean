/- A region that draws its order, its guards met: each operation once, by what the slots hold that it waits for. -/
import Derived.Test.YtkjpdhnibfhaaaaBuild
namespace Go.Proofs.Ytkjpdhnibfhaaaa.Cut
open Go Go.RowKit
section
variable {P : Program} {Q : Exit → Act → World → Prop}
/-- every operation that can come up is wanted, and keeps what holds -/
theorem any_invG {ops : Array Oper} (Inv : Array Bool → Act → World → Prop) (hback : ∀ (i : Nat) o, ops[i]? = some o → ∀ e ∈ o.after, Region.binds .any e = true → e.on < i)
    (hg : ∀ (i : Nat) o L a w, ops[i]? = some o → L.size = ops.size → (∀ e ∈ o.after, Region.binds .any e = true → L.getD e.on false = true) → Inv L a w → Region.wanted o (yielded ops a.tmps) = true)
    (hstep : ∀ (i : Nat) o L a w, ops[i]? = some o → L.size = ops.size → (∀ e ∈ o.after, Region.binds .any e = true → L.getD e.on false = true) → L.getD i true = false → Inv L a w → o.wp P a w (fun a' w' => Inv (L.setIfInBounds i true) a' w') Q)
    (hend : ∀ L a w, (∀ i, i < ops.size → L.getD i false = true) → Inv L a w → Q .normal a w) :
    ∀ (n : Nat) (U : List Nat) (L : Array Bool) (a : Act) (w : World), U.length = n → L.size = ops.size → (∀ i, L.getD i true = false → i ∈ U) → Inv L a w → wpAnyH P .any ops Q (fun _ => True) n L a w := by
  have hfin : ∀ L a w, L.size = ops.size → Region.ready .any ops L = [] → Inv L a w → Q .normal a w := by
    intro L a w hL h0 hI
    refine hend L a w ?_ hI
    intro i
    induction i using Nat.strongRecOn with
    | _ i ih =>
      intro hi
      cases hl : L.getD i true with
      | true => simpa [Array.getD, hL, hi] using hl
      | false =>
        have hm : i ∈ Region.ready .any ops L := mem_ready.2 ⟨hl, ops[i], Array.getElem?_eq_getElem hi, fun e he hb => ih _ (hback i _ (Array.getElem?_eq_getElem hi) e he hb) (Nat.lt_trans (hback i _ (Array.getElem?_eq_getElem hi) e he hb) hi)⟩
        rw [h0] at hm; cases hm
  intro n
  induction n with
  | zero =>
    intro U L a w hU hL hall hI
    have h0 : Region.ready .any ops L = [] := by
      rw [List.eq_nil_iff_forall_not_mem]
      intro i hi
      have := hall i (mem_ready.1 hi).1
      rw [List.eq_nil_of_length_eq_zero hU] at this
      cases this
    exact ⟨h0, hfin L a w hL h0 hI⟩
  | succ n ih =>
    intro U L a w hU hL hall hI
    refine ⟨fun h0 => hfin L a w hL h0 hI, fun i hi => ?_⟩
    obtain ⟨hl, o, ho, hd⟩ := mem_ready.1 hi
    unfold wpOp
    rw [ho]
    simp only
    rw [if_pos (hg i o L a w ho hL hd hI)]
    refine .inl (Oper.wp_mono (fun a' w' h => ⟨trivial, ih (U.erase i) _ a' w' ?_ (by simpa using hL) ?_ h⟩) (hstep i o L a w ho hL hd hl hI))
    · rw [List.length_erase_of_mem (hall i hl), hU]; rfl
    · intro j hj
      by_cases hji : j = i
      · subst hji
        have hs : j < L.size := by rw [hL]; exact (Array.getElem?_eq_some_iff.1 ho).1
        simp [Array.getD, hs] at hj
      · refine (List.mem_erase_of_ne hji).2 (hall j ?_)
        rw [← hj]
        simp only [Array.getD_eq_getD_getElem?, Array.getElem?_setIfInBounds]
        rw [if_neg (fun e => hji e.symm)]
/-- the block that a value points to -/
def blockOf : Value → Option Nat
  | .pointer (some ad) => some ad.block
  | _ => none
/-- an operation, done once; if it is one of these, it tells a new block -/
def StepA (P : Program) (Q : Exit → Act → World → Prop) (S : World → Prop) (F : Nat → World → Value → Prop) (fr : List Nat) (ds : List Tmp) (a0 : Act) (i : Nat) (o : Oper) : Prop :=
  ∀ a w, S w → a.tmps.size = a0.tmps.size → (∀ t, t ∉ ds → a.tmps[t]? = a0.tmps[t]?) → AllDeps ds F a w (depsOf o) → ∀ K : Act → World → Prop, Shut (∀ v w', S w' → Below w.heap.size w w' → F i w' v → (i ∈ fr → ∃ b, blockOf v = some b ∧ w.heap.size ≤ b) → K (a.put o.dst v) w') → o.wp P a w K Q
theorem StepT.toA {S : World → Prop} {F : Nat → World → Value → Prop} {fr : List Nat} {ds : List Tmp} {a0 : Act} {i : Nat} {o : Oper} (h : StepT P Q S F ds a0 i o) (hi : fr.contains i = false) : StepA P Q S F fr ds a0 i o :=
  fun a w hS hz hfr hd _ hK => h a w hS hz hfr hd _ fun v w' h1 h2 h3 => hK.out v w' h1 h2 h3 fun hm => absurd hm (by simpa using hi)
def StepsA (P : Program) (Q : Exit → Act → World → Prop) (S : World → Prop) (F : Nat → World → Value → Prop) (fr : List Nat) (ds : List Tmp) (a0 : Act) : Nat → List Oper → Prop
  | _, [] => True
  | k, o :: l => StepA P Q S F fr ds a0 k o ∧ StepsA P Q S F fr ds a0 (k + 1) l
theorem stepsA_at {S : World → Prop} {F : Nat → World → Value → Prop} {fr : List Nat} {ds : List Tmp} {a0 : Act} : ∀ {l : List Oper} {k i : Nat} {o : Oper}, StepsA P Q S F fr ds a0 k l → l[i]? = some o → StepA P Q S F fr ds a0 (k + i) o
  | [], k, i, o, _, h => by simp at h
  | x :: l, k, 0, o, hs, h => by
    have : x = o := by simpa using h
    subst this; exact hs.1
  | x :: l, k, i + 1, o, hs, h => by
    have := stepsA_at (i := i) hs.2 (by simpa using h)
    rwa [show k + 1 + i = k + (i + 1) by omega] at this
/-- a guard is waited for -/
def guardsB (l : List Oper) : Bool := l.all fun o => match o.guard with | none => true | some (g, _) => (depsOf o).contains g
theorem wp_region_typedG {l1 l2 : List Oper} {id : Nat} {a0 : Act} {w0 : World} (fr : List Nat) (ds : List Tmp) (S : World → Prop) (F : Nat → World → Value → Prop) (hm : P.follows .mixedOrders = true)
    (hB : (ordB l1.length 0 l1 && phB l1 l2 && backB 0 l1 && nodupB ds && (l1.map (·.dst) == ds.map some) && guardsB l1 && chainB (l1 ++ l2).toArray l2.length l1.length (List.replicate l1.length true ++ List.replicate l2.length false).toArray) = true)
    (hG : ∀ o ∈ l1, ∀ g b, o.guard = some (g, b) → ∀ w v, F g w v → v = .bool b)
    (hz : (ds.all fun d => decide (d < a0.tmps.size)) = true) (hF : ∀ i w w' v, F i w v → Below w.heap.size w w' → F i w' v) (hS : S { w0 with drawn := w0.drawn + 1 })
    (hs : StepsA P (upTo Q (wpList P (l1 ++ l2).toArray Q l2)) S F fr ds a0 0 l1) (hO : ∀ i ∈ fr, ∀ w v, F i w v → ∃ b, blockOf v = some b ∧ b < w.heap.size)
    (he : ∀ a w, S w → a.defers = a0.defers → a.tmps.size = a0.tmps.size → (∀ t, t ∉ ds → a.tmps[t]? = a0.tmps[t]?) → (∀ (i : Nat) (d : Tmp), ds[i]? = some d → ∃ v, a.tmps[d]? = some v ∧ F i w v) → (∀ i j di dj vi vj, i ∈ fr → j ∈ fr → i ≠ j → ds[i]? = some di → ds[j]? = some dj → a.tmps[di]? = some vi → a.tmps[dj]? = some vj → blockOf vi ≠ blockOf vj) → wpList P (l1 ++ l2).toArray Q l2 a w) : (Code.region id (l1 ++ l2).toArray true).wp P Q a0 w0 := by
  simp only [Bool.and_eq_true, beq_iff_eq] at hB
  obtain ⟨⟨⟨⟨⟨⟨h1, h2⟩, h3⟩, h4⟩, h5⟩, h6⟩, h7⟩ := hB
  have hdst : ∀ (i : Nat) (o : Oper), l1[i]? = some o → ∃ d, o.dst = some d ∧ ds[i]? = some d := by
    intro i o ho
    have h := congrArg (fun l => l[i]?) h5
    simp only [List.getElem?_map, ho, Option.map_some] at h
    cases hd : ds[i]? with
    | none => rw [hd] at h; simp at h
    | some d => rw [hd] at h; exact ⟨d, by simpa using h, rfl⟩
  have hlen : l1.length = ds.length := by simpa using congrArg List.length h5
  refine wp_region_cut (fun _ => True) (wpList P (l1 ++ l2).toArray Q l2) hm (by rw [h1, h2]; rfl) ?_ fun a w hJ => any_list l2 l1.length _ a w (fun j => by simp [List.getElem?_append_right]) h7 hJ
  refine any_invG (ops := l1.toArray) (fun L a w => S w ∧ a.defers = a0.defers ∧ a.tmps.size = a0.tmps.size ∧ (∀ t, t ∉ ds → a.tmps[t]? = a0.tmps[t]?) ∧ (∀ i d, ds[i]? = some d → L.getD i false = true → ∃ v, a.tmps[d]? = some v ∧ F i w v) ∧ ∀ i j di dj vi vj, i ∈ fr → j ∈ fr → i ≠ j → ds[i]? = some di → ds[j]? = some dj → L.getD i false = true → L.getD j false = true → a.tmps[di]? = some vi → a.tmps[dj]? = some vj → blockOf vi ≠ blockOf vj)
    (fun i o ho e he hb => by have := back_at (k := 0) (i := i) h3 (by simpa using ho) e he hb; omega) ?_ ?_ ?_ l1.length (List.range l1.length) _ a0 _ (by simp) (by simp) ?_ ?_
  · intro i o L a w ho hL hd hI
    have ho' : l1[i]? = some o := by simpa using ho
    have hmem := List.mem_of_getElem? ho'
    cases hgu : o.guard with
    | none => exact want_none (by rw [hgu]; rfl)
    | some gb =>
      obtain ⟨g, b⟩ := gb
      have hgd : g ∈ depsOf o := by
        have := List.all_eq_true.1 h6 o hmem
        rw [hgu] at this
        simpa using this
      obtain ⟨e, he1, he2⟩ := List.mem_map.1 hgd
      obtain ⟨he3, he4⟩ := List.mem_filter.1 he1
      have hon := hd e (by simpa using he3) he4
      have hlt : e.on < i := by have := back_at (k := 0) (i := i) h3 ho' e (by simpa using he3) he4; omega
      have hil : i < l1.length := (List.getElem?_eq_some_iff.1 ho').1
      rw [he2] at hon hlt
      obtain ⟨d', hd'⟩ : ∃ d', ds[g]? = some d' := ⟨ds[g]'(by omega), List.getElem?_eq_getElem (by omega)⟩
      obtain ⟨v, hv1, hv2⟩ := hI.2.2.2.2.1 g d' hd' hon
      have hv := hG o hmem g b hgu w v hv2
      obtain ⟨d2, hd2, hd3⟩ := hdst g (l1[g]'(by omega)) (List.getElem?_eq_getElem (by omega))
      rw [hd'] at hd3
      cases hd3
      refine wanted_at hgu (t := d') ?_ (by rw [hv1, hv])
      rw [List.getElem?_toArray, List.getElem?_eq_getElem (by omega)]
      exact hd2
  · intro i o L a w ho hL hd hl hI
    have ho' : l1[i]? = some o := by simpa using ho
    obtain ⟨i1, i2, i3, i4, i5, i6⟩ := hI
    obtain ⟨d, hod, hdi⟩ := hdst i o ho'
    have hst := stepsA_at hs ho'
    rw [Nat.zero_add] at hst
    have hset : ∀ j, j ≠ i → (L.setIfInBounds i true).getD j false = true → L.getD j false = true := fun j hji hLj => by
      rw [← hLj]
      simp only [Array.getD_eq_getD_getElem?, Array.getElem?_setIfInBounds]
      rw [if_neg (fun e => hji e.symm)]
    refine hst a w i1 i3 i4 (allDeps_of fun j hj => ?_) _ fun v w' k1 k2 k3 k4 => ⟨k1, by rw [hod]; exact i2, ?_, ?_, ?_, ?_⟩
    · obtain ⟨e, he, rfl⟩ := List.mem_map.1 hj
      obtain ⟨he1, he2⟩ := List.mem_filter.1 he
      have hon := hd e (by simpa using he1) he2
      have hlt : e.on < i := by have := back_at (k := 0) (i := i) h3 ho' e (by simpa using he1) he2; omega
      have hil : i < l1.length := (List.getElem?_eq_some_iff.1 ho').1
      obtain ⟨d', hd'⟩ : ∃ d', ds[e.on]? = some d' := ⟨ds[e.on]'(by omega), List.getElem?_eq_getElem (by omega)⟩
      obtain ⟨v, hv1, hv2⟩ := i5 e.on d' hd' hon
      exact ⟨v, by rw [List.getD_eq_getElem?_getD, hd']; exact hv1, hv2⟩
    · rw [hod]; show (a.tmps.setIfInBounds d v).size = _; simpa using i3
    · intro t ht
      rw [hod]
      show (a.tmps.setIfInBounds d v)[t]? = _
      rw [Array.getElem?_setIfInBounds, if_neg (fun e => ht (by rw [← e]; exact List.mem_of_getElem? hdi))]
      exact i4 t ht
    · intro j dj hj hLj
      rw [hod]
      show ∃ v', (a.tmps.setIfInBounds d v)[dj]? = some v' ∧ _
      by_cases hji : j = i
      · subst hji
        have e : d = dj := Option.some.inj (hdi.symm.trans hj)
        subst e
        have hsz : d < a.tmps.size := by
          have := List.all_eq_true.1 hz d (List.mem_of_getElem? hdi)
          rw [i3]; simpa using this
        exact ⟨v, by simp [hsz], k3⟩
      · have hne : d ≠ dj := fun e => hji (nodup_at h4 hj (by rw [← e]; exact hdi))
        rw [Array.getElem?_setIfInBounds, if_neg hne]
        obtain ⟨v', hv1, hv2⟩ := i5 j dj hj (hset j hji hLj)
        exact ⟨v', hv1, hF _ _ _ _ hv2 k2⟩
    · intro p q dp dq vp vq hp hq hpq hdp hdq hLp hLq hvp hvq
      rw [hod] at hvp hvq
      have at_old : ∀ {j dj vj}, ds[j]? = some dj → j ≠ i → (a.tmps.setIfInBounds d v)[dj]? = some vj → a.tmps[dj]? = some vj := fun {j dj vj} hj hji hv => by
        have hne : d ≠ dj := fun e => hji (nodup_at h4 hj (by rw [← e]; exact hdi))
        rwa [Array.getElem?_setIfInBounds, if_neg hne] at hv
      have at_new : ∀ {vj}, (a.tmps.setIfInBounds d v)[d]? = some vj → vj = v := fun {vj} hv => by
        rw [Array.getElem?_setIfInBounds, if_pos rfl] at hv
        split at hv
        · exact (Option.some.inj hv).symm
        · cases hv
      by_cases hpi : p = i
      · subst hpi
        have e : d = dp := Option.some.inj (hdi.symm.trans hdp)
        subst e
        have ev := at_new hvp
        subst ev
        obtain ⟨b, hb1, hb2⟩ := k4 hp
        obtain ⟨u, hu1, hu2⟩ := i5 q dq hdq (hset q (Ne.symm hpq) hLq)
        have hvq' := at_old hdq (Ne.symm hpq) hvq
        rw [hu1] at hvq'
        obtain rfl := Option.some.inj hvq'
        obtain ⟨b', hb3, hb4⟩ := hO q hq w u hu2
        rw [hb1, hb3]
        intro e
        have := Option.some.inj e
        omega
      · by_cases hqi : q = i
        · subst hqi
          have e : d = dq := Option.some.inj (hdi.symm.trans hdq)
          subst e
          have ev := at_new hvq
          subst ev
          obtain ⟨b, hb1, hb2⟩ := k4 hq
          obtain ⟨u, hu1, hu2⟩ := i5 p dp hdp (hset p hpi hLp)
          have hvp' := at_old hdp hpi hvp
          rw [hu1] at hvp'
          obtain rfl := Option.some.inj hvp'
          obtain ⟨b', hb3, hb4⟩ := hO p hp w u hu2
          rw [hb1, hb3]
          intro e
          have := Option.some.inj e
          omega
        · exact i6 p q dp dq vp vq hp hq hpq hdp hdq (hset p hpi hLp) (hset q hqi hLq) (at_old hdp hpi hvp) (at_old hdq hqi hvq)
  · intro L a w hall hI
    obtain ⟨i1, i2, i3, i4, i5, i6⟩ := hI
    have hl : ∀ {i d}, ds[i]? = some d → L.getD i false = true := fun {i d} hd => hall i (by have := (List.getElem?_eq_some_iff.1 hd).1; simp; omega)
    exact he a w i1 i2 i3 i4 (fun i d hd => i5 i d hd (hl hd)) fun i j di dj vi vj hi hj hij hdi hdj => i6 i j di dj vi vj hi hj hij hdi hdj (hl hdi) (hl hdj)
  · intro i hi
    rw [List.mem_range]
    rcases Nat.lt_or_ge i l1.length with h | h
    · exact h
    · simp [Array.getD] at hi
      omega
  · refine ⟨hS, rfl, rfl, fun _ _ => rfl, fun i d _ hl => ?_, fun i j _ _ _ _ _ _ _ _ _ hl => ?_⟩ <;>
    · simp only [Array.getD_eq_getD_getElem?, Array.getElem?_replicate] at hl
      split at hl <;> simp at hl
/-- no guards -/
theorem no_guards {F : Nat → World → Value → Prop} {l : List Oper} (h : l.all (fun o => o.guard.isNone) = true) : ∀ o ∈ l, ∀ g b, o.guard = some (g, b) → ∀ w v, F g w v → v = .bool b := fun o ho g b hg => by
  have := List.all_eq_true.1 h o ho
  rw [hg] at this
  cases this
theorem list6 {α : Type} {vs : List α} (h : vs.length = 6) : ∃ v0 v1 v2 v3 v4 v5, vs = [v0, v1, v2, v3, v4, v5] := by
  match vs, h with
  | [v0, v1, v2, v3, v4, v5], _ => exact ⟨v0, v1, v2, v3, v4, v5, rfl⟩
/-- the same; the frame behind it is told -/
theorem wp_region_typedE {l1 l2 : List Oper} {id : Nat} {a0 : Act} {w0 : World} (fr : List Nat) (ds : List Tmp) (S : World → Prop) (F : Nat → World → Value → Prop) (hm : P.follows .mixedOrders = true)
    (hB : (ordB l1.length 0 l1 && phB l1 l2 && backB 0 l1 && nodupB ds && (l1.map (·.dst) == ds.map some) && guardsB l1 && chainB (l1 ++ l2).toArray l2.length l1.length (List.replicate l1.length true ++ List.replicate l2.length false).toArray) = true)
    (hG : ∀ o ∈ l1, ∀ g b, o.guard = some (g, b) → ∀ w v, F g w v → v = .bool b)
    (hz : (ds.all fun d => decide (d < a0.tmps.size)) = true) (hF : ∀ i w w' v, F i w v → Below w.heap.size w w' → F i w' v) (hS : S { w0 with drawn := w0.drawn + 1 })
    (hs : StepsA P (upTo Q (wpList P (l1 ++ l2).toArray Q l2)) S F fr ds a0 0 l1) (hO : ∀ i ∈ fr, ∀ w v, F i w v → ∃ b, blockOf v = some b ∧ b < w.heap.size)
    (he : ∀ (vs : List Value) w, vs.length = ds.length → S w → (∀ (i : Nat) v, vs[i]? = some v → F i w v) → (∀ i j vi vj, i ∈ fr → j ∈ fr → i ≠ j → vs[i]? = some vi → vs[j]? = some vj → blockOf vi ≠ blockOf vj) → wpList P (l1 ++ l2).toArray Q l2 (putAll a0 (ds.zip vs)) w) : (Code.region id (l1 ++ l2).toArray true).wp P Q a0 w0 := by
  have hB' := hB
  simp only [Bool.and_eq_true, beq_iff_eq] at hB'
  have h4 := hB'.1.1.1.2
  refine wp_region_typedG fr ds S F hm hB hG hz hF hS hs hO fun a w hSw i2 i3 i4 i5 i6 => ?_
  have hv : ∀ i, ∃ v, i < ds.length → a.tmps[ds.getD i 0]? = some v ∧ F i w v := by
    intro i
    by_cases hi : i < ds.length
    · obtain ⟨v, h1, h2⟩ := i5 i ds[i] (List.getElem?_eq_getElem hi)
      exact ⟨v, fun _ => ⟨by rw [List.getD_eq_getElem?_getD, List.getElem?_eq_getElem hi]; exact h1, h2⟩⟩
    · exact ⟨undef, fun h => absurd h hi⟩
  obtain ⟨V, hV⟩ := Classical.axiomOfChoice hv
  have hget : ∀ {i v}, ((List.range ds.length).map V)[i]? = some v → i < ds.length ∧ V i = v := by
    intro i v hi
    simp only [List.getElem?_map] at hi
    obtain ⟨k, hk, rfl⟩ := Option.map_eq_some_iff.1 hi
    obtain ⟨hk1, hk2⟩ := List.getElem?_eq_some_iff.1 hk
    have : k = i := by simpa using hk2.symm
    subst this
    exact ⟨by simpa using hk1, rfl⟩
  have hat : ∀ {i}, (hi : i < ds.length) → a.tmps[ds[i]]? = some (V i) := by
    intro i hi
    have := (hV i hi).1
    rwa [List.getD_eq_getElem?_getD, List.getElem?_eq_getElem hi] at this
  have hfrm : putAll a0 (ds.zip ((List.range ds.length).map V)) = a := by
    refine putAll_eq _ _ _ i2 i3 (fun t ht => i4 t fun hm => ?_) (fun x hx => ?_)
    · obtain ⟨i, hi, rfl⟩ := List.getElem_of_mem hm
      refine ht (ds[i], V i) ?_ rfl
      refine List.mem_iff_getElem?.2 ⟨i, ?_⟩
      simp [hi]
    · obtain ⟨i, hi⟩ := List.mem_iff_getElem?.1 hx
      obtain ⟨h1, h2⟩ := List.getElem?_zip_eq_some.1 hi
      obtain ⟨hil, hx2⟩ := hget h2
      have := hat hil
      obtain ⟨_, h1'⟩ := List.getElem?_eq_some_iff.1 h1
      rw [h1', hx2] at this
      exact this
  rw [← hfrm]
  refine he _ w (by simp) hSw (fun i v hi => ?_) fun i j vi vj hi hj hij hvi hvj => ?_
  · obtain ⟨hil, rfl⟩ := hget hi
    exact (hV i hil).2
  · obtain ⟨hil, rfl⟩ := hget hvi
    obtain ⟨hjl, rfl⟩ := hget hvj
    exact i6 i j ds[i] ds[j] _ _ hi hj hij (List.getElem?_eq_getElem hil) (List.getElem?_eq_getElem hjl) (hat hil) (hat hjl)
end
end Go.Proofs.Ytkjpdhnibfhaaaa.Cut
namespace Go.Proofs.Ytkjpdhnibfhaaaa.Build
open Go Go.RowKit Go.Proofs.Ytkjpdhnibfhaaaa.Nodey Go.Proofs.Ytkjpdhnibfhaaaa.NodeA Go.Proofs.Ytkjpdhnibfhaaaa.NodeB Go.Proofs.Ytkjpdhnibfhaaaa.NodeM Go.Proofs.Ytkjpdhnibfhaaaa.NodeS Go.Proofs.Ytkjpdhnibfhaaaa.NodeT Go.Proofs.Ytkjpdhnibfhaaaa.NodeU Go.Proofs.Ytkjpdhnibfhaaaa.Cut
/-- the guards are met -/
def metB (specs : List BSpec) (l : List Oper) : Bool := l.all fun o => match o.guard with
  | none => true
  | some (g, b) => match specs[g]? with
    | some (.val (.bool c)) => b == c
    | _ => false
theorem met_at {specs : List BSpec} {w0 : World} {l : List Oper} (h : metB specs l = true) : ∀ o ∈ l, ∀ g b, o.guard = some (g, b) → ∀ w v, FS specs w0 g w v → v = .bool b := by
  intro o ho g b hg w v hf
  have := List.all_eq_true.1 h o ho
  rw [hg] at this
  simp only at this
  obtain ⟨s, h1, h2⟩ := hf
  rw [h1] at this
  cases s with
  | node x => simp at this
  | kids x => simp at this
  | fresh => simp at this
  | val u =>
    cases u <;> simp at this
    subst this
    exact h2
section
variable {Q : Exit → Act → World → Prop} {specs : List BSpec} {ds : List Tmp} {a0 : Act} {w0 : World} {i : Nat} {o : Oper}
/-- a slot that holds this very value -/
structure HasV (specs : List BSpec) (ds : List Tmp) (o : Oper) (t : Tmp) (u : Value) : Prop where
  j : ∃ j, (depsOf o).contains j = true ∧ ds.getD j 0 = t ∧ specs[j]? = some (.val u)
theorem HasV.of {t : Tmp} {u : Value} (j : Nat) (h1 : (depsOf o).contains j = true) (h2 : ds.getD j 0 = t) (h3 : specs[j]? = some (.val u)) : HasV specs ds o t u := ⟨⟨j, h1, h2, h3⟩⟩
theorem HasV.at {t : Tmp} {u : Value} {a : Act} {w : World} (h : HasV specs ds o t u) (hd : AllDeps ds (FS specs w0) a w (depsOf o)) : a.tmps[t]? = some u := by
  obtain ⟨j, h1, h2, h3⟩ := h
  obtain ⟨v, hv, hf⟩ := allDeps_get hd (by simpa using h1)
  rw [h2] at hv
  rw [hv]
  exact congrArg some (FS.of hf h3)
/-- a slot that holds such a node -/
structure HasN (specs : List BSpec) (ds : List Tmp) (o : Oper) (t : Tmp) (x : Nd) : Prop where
  j : ∃ j, (depsOf o).contains j = true ∧ ds.getD j 0 = t ∧ specs[j]? = some (.node x)
theorem HasN.of {t : Tmp} {x : Nd} (j : Nat) (h1 : (depsOf o).contains j = true) (h2 : ds.getD j 0 = t) (h3 : specs[j]? = some (.node x)) : HasN specs ds o t x := ⟨⟨j, h1, h2, h3⟩⟩
theorem HasN.at {t : Tmp} {x : Nd} {a : Act} {w : World} (h : HasN specs ds o t x) (hd : AllDeps ds (FS specs w0) a w (depsOf o)) : ∃ v, a.tmps[t]? = some v ∧ IsNode w v x := by
  obtain ⟨j, h1, h2, h3⟩ := h
  obtain ⟨v, hv, hf⟩ := allDeps_get hd (by simpa using h1)
  rw [h2] at hv
  exact ⟨v, hv, FS.of hf h3⟩
/-- a variable is read -/
theorem sv_load {t : Tmp} {b : Nat} {v0 v1 v2 v3 v4 : Value} (hs : specs[i]? = some (.val (.agg #[v0, v1, v2, v3, v4]))) (ho : o.op = .load 25 (.tmp t)) (ht : ds.contains t = false) (ha : a0.tmps[t]? = some (.pointer (some ⟨b, 0, none⟩))) (hb : Box5 w0 b v0 v1 v2 v3 v4) :
    StepT Try.prog Q (fun u => Below w0.heap.size w0 u) (FS specs w0) ds a0 i o := by
  intro a w hS _ hfr _ K hK
  obtain ⟨k0, k1, k2, k3, k4⟩ := hb.below hS
  have h1 := eval_tmp ((hfr t (by simpa using ht)).trans ha)
  refine wp_val (v := .agg #[v0, v1, v2, v3, v4]) (w' := w) ?_ (hK.out _ _ hS (Below.refl _ _) ⟨_, hs, rfl⟩)
  simp only [execOp, ho, h1]
  go_simp
/-- what is reckoned out of one slot -/
theorem sv_one {t : Tmp} {u v : Value} (hs : specs[i]? = some (.val v)) (h1 : HasV specs ds o t u) (hr : ∀ (a : Act) w, a.tmps[t]? = some u → (execOp a.eval o).run Try.prog w = .ok (.value v) w) :
    StepT Try.prog Q (fun u => Below w0.heap.size w0 u) (FS specs w0) ds a0 i o := by
  intro a w hS _ hfr hd K hK
  exact wp_val (hr a w (h1.at hd)) (hK.out _ _ hS (Below.refl _ _) ⟨_, hs, rfl⟩)
theorem sv_two {t t' : Tmp} {u u' v : Value} (hs : specs[i]? = some (.val v)) (h1 : HasV specs ds o t u) (h2 : HasV specs ds o t' u') (hr : ∀ (a : Act) w, a.tmps[t]? = some u → a.tmps[t']? = some u' → (execOp a.eval o).run Try.prog w = .ok (.value v) w) :
    StepT Try.prog Q (fun u => Below w0.heap.size w0 u) (FS specs w0) ds a0 i o := by
  intro a w hS _ hfr hd K hK
  exact wp_val (hr a w (h1.at hd) (h2.at hd)) (hK.out _ _ hS (Below.refl _ _) ⟨_, hs, rfl⟩)
/-- a call that tells this very value -/
theorem sv_call0 {f : FuncId} {v : Value} (hs : specs[i]? = some (.val v)) (hr : ∀ (a : Act) w, (execOp a.eval o).run Try.prog w = .ok (.enter f #[]) w)
    (hc : ∀ w, Below w0.heap.size w0 w → Calls Try.prog f #[] w fun e w' => e = .returned v ∧ Below w.heap.size w w') :
    StepT Try.prog Q (fun u => Below w0.heap.size w0 u) (FS specs w0) ds a0 i o := by
  intro a w hS _ hfr hd K hK
  refine wp_go (hr a w) ((hc w hS).mono ?_)
  rintro e w' ⟨rfl, h2⟩
  exact hK.out _ _ (hS.trans (h2.mono hS.size)) h2 ⟨_, hs, rfl⟩
theorem sv_call1 {f : FuncId} {t : Tmp} {u v : Value} (hs : specs[i]? = some (.val v)) (h1 : HasV specs ds o t u) (hr : ∀ (a : Act) w, a.tmps[t]? = some u → (execOp a.eval o).run Try.prog w = .ok (.enter f #[u]) w)
    (hc : ∀ w, Below w0.heap.size w0 w → Calls Try.prog f #[u] w fun e w' => e = .returned v ∧ Below w.heap.size w w') :
    StepT Try.prog Q (fun u => Below w0.heap.size w0 u) (FS specs w0) ds a0 i o := by
  intro a w hS _ hfr hd K hK
  refine wp_go (hr a w (h1.at hd)) ((hc w hS).mono ?_)
  rintro e w' ⟨rfl, h2⟩
  exact hK.out _ _ (hS.trans (h2.mono hS.size)) h2 ⟨_, hs, rfl⟩
theorem sv_call2 {f : FuncId} {t t' : Tmp} {u u' v : Value} (hs : specs[i]? = some (.val v)) (h1 : HasV specs ds o t u) (h2 : HasV specs ds o t' u') (hr : ∀ (a : Act) w, a.tmps[t]? = some u → a.tmps[t']? = some u' → (execOp a.eval o).run Try.prog w = .ok (.enter f #[u, u']) w)
    (hc : ∀ w, Below w0.heap.size w0 w → Calls Try.prog f #[u, u'] w fun e w' => e = .returned v ∧ Below w.heap.size w w') :
    StepT Try.prog Q (fun u => Below w0.heap.size w0 u) (FS specs w0) ds a0 i o := by
  intro a w hS _ hfr hd K hK
  refine wp_go (hr a w (h1.at hd) (h2.at hd)) ((hc w hS).mono ?_)
  rintro e w' ⟨rfl, h2⟩
  exact hK.out _ _ (hS.trans (h2.mono hS.size)) h2 ⟨_, hs, rfl⟩
/-- a call that tells such a node -/
theorem sv_node {f : FuncId} {t : Tmp} {u : Value} {x : Nd} (hs : specs[i]? = some (.node x)) (h1 : HasV specs ds o t u) (hr : ∀ (a : Act) w, a.tmps[t]? = some u → (execOp a.eval o).run Try.prog w = .ok (.enter f #[u]) w)
    (hc : ∀ w, Below w0.heap.size w0 w → Calls Try.prog f #[u] w fun e w' => ∃ v, e = .returned v ∧ IsNode w' v x ∧ Below w.heap.size w w') :
    StepT Try.prog Q (fun u => Below w0.heap.size w0 u) (FS specs w0) ds a0 i o := by
  intro a w hS _ hfr hd K hK
  refine wp_go (hr a w (h1.at hd)) ((hc w hS).mono ?_)
  rintro e w' ⟨v, rfl, h1, h2⟩
  exact hK.out _ _ (hS.trans (h2.mono hS.size)) h2 ⟨_, hs, h1⟩
theorem sv_vn {f : FuncId} {t t' : Tmp} {u v : Value} {x : Nd} (hs : specs[i]? = some (.val v)) (h1 : HasV specs ds o t u) (h2 : HasN specs ds o t' x) (hr : ∀ (a : Act) w u', a.tmps[t]? = some u → a.tmps[t']? = some u' → (execOp a.eval o).run Try.prog w = .ok (.enter f #[u, u']) w)
    (hc : ∀ w u', Below w0.heap.size w0 w → IsNode w u' x → Calls Try.prog f #[u, u'] w fun e w' => e = .returned v ∧ Below w.heap.size w w') :
    StepT Try.prog Q (fun u => Below w0.heap.size w0 u) (FS specs w0) ds a0 i o := by
  intro a w hS _ hfr hd K hK
  obtain ⟨u', hu, hn⟩ := h2.at hd
  refine wp_go (hr a w u' (h1.at hd) hu) ((hc w u' hS hn).mono ?_)
  rintro e w' ⟨rfl, h2⟩
  exact hK.out _ _ (hS.trans (h2.mono hS.size)) h2 ⟨_, hs, rfl⟩
theorem sv_nn {f : FuncId} {t t' : Tmp} {v : Value} {x y : Nd} (hs : specs[i]? = some (.val v)) (h1 : HasN specs ds o t x) (h2 : HasN specs ds o t' y) (hr : ∀ (a : Act) w u u', a.tmps[t]? = some u → a.tmps[t']? = some u' → (execOp a.eval o).run Try.prog w = .ok (.enter f #[u, u']) w)
    (hc : ∀ w u u', Below w0.heap.size w0 w → IsNode w u x → IsNode w u' y → Calls Try.prog f #[u, u'] w fun e w' => e = .returned v ∧ Below w.heap.size w w') :
    StepT Try.prog Q (fun u => Below w0.heap.size w0 u) (FS specs w0) ds a0 i o := by
  intro a w hS _ hfr hd K hK
  obtain ⟨u, hu0, hn0⟩ := h1.at hd
  obtain ⟨u', hu, hn⟩ := h2.at hd
  refine wp_go (hr a w u u' hu0 hu) ((hc w u u' hS hn0 hn).mono ?_)
  rintro e w' ⟨rfl, h2⟩
  exact hK.out _ _ (hS.trans (h2.mono hS.size)) h2 ⟨_, hs, rfl⟩
end
end Go.Proofs.Ytkjpdhnibfhaaaa.Build
