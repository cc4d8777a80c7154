/- A region that draws its order, whatever comes up when: each operation once, by what the slots hold that it waits for. No function of a program. -/
import Derived.Test.YtkjpdhnibfhaaaaCut
namespace Go.Proofs.Ytkjpdhnibfhaaaa.Cut
open Go Go.RowKit
section
variable {P : Program} {Q : Exit → Act → World → Prop}
/-- every operation that can come up keeps what holds -/
theorem any_inv {ops : Array Oper} (Inv : Array Bool → Act → World → Prop) (hg : ∀ (i : Nat) o, ops[i]? = some o → o.guard.isNone = true) (hback : ∀ (i : Nat) o, ops[i]? = some o → ∀ e ∈ o.after, Region.binds .any e = true → e.on < i)
    (hstep : ∀ (i : Nat) o L a w, ops[i]? = some o → L.size = ops.size → (∀ e ∈ o.after, Region.binds .any e = true → L.getD e.on false = true) → L.getD i true = false → Inv L a w → o.wp P a w (fun a' w' => Inv (L.setIfInBounds i true) a' w') Q)
    (hend : ∀ L a w, (∀ i, i < ops.size → L.getD i false = true) → Inv L a w → Q .normal a w) :
    ∀ (n : Nat) (U : List Nat) (L : Array Bool) (a : Act) (w : World), U.length = n → L.size = ops.size → (∀ i, L.getD i true = false → i ∈ U) → Inv L a w → wpAnyH P .any ops Q (fun _ => True) n L a w := by
  have hfin : ∀ L a w, L.size = ops.size → Region.ready .any ops L = [] → Inv L a w → Q .normal a w := by
    intro L a w hL h0 hI
    refine hend L a w ?_ hI
    intro i
    induction i using Nat.strongRecOn with
    | _ i ih =>
      intro hi
      cases hl : L.getD i true with
      | true => simpa [Array.getD, hL, hi] using hl
      | false =>
        have hm : i ∈ Region.ready .any ops L := mem_ready.2 ⟨hl, ops[i], Array.getElem?_eq_getElem hi, fun e he hb => ih _ (hback i _ (Array.getElem?_eq_getElem hi) e he hb) (Nat.lt_trans (hback i _ (Array.getElem?_eq_getElem hi) e he hb) hi)⟩
        rw [h0] at hm; cases hm
  intro n
  induction n with
  | zero =>
    intro U L a w hU hL hall hI
    have h0 : Region.ready .any ops L = [] := by
      rw [List.eq_nil_iff_forall_not_mem]
      intro i hi
      have := hall i (mem_ready.1 hi).1
      rw [List.eq_nil_of_length_eq_zero hU] at this
      cases this
    exact ⟨h0, hfin L a w hL h0 hI⟩
  | succ n ih =>
    intro U L a w hU hL hall hI
    refine ⟨fun h0 => hfin L a w hL h0 hI, fun i hi => ?_⟩
    obtain ⟨hl, o, ho, hd⟩ := mem_ready.1 hi
    unfold wpOp
    rw [ho]
    simp only
    rw [if_pos (want_none (hg i o ho))]
    refine .inl (Oper.wp_mono (fun a' w' h => ⟨trivial, ih (U.erase i) _ a' w' ?_ (by simpa using hL) ?_ h⟩) (hstep i o L a w ho hL hd hl hI))
    · rw [List.length_erase_of_mem (hall i hl), hU]; rfl
    · intro j hj
      by_cases hji : j = i
      · subst hji
        have hs : j < L.size := by rw [hL]; exact (Array.getElem?_eq_some_iff.1 ho).1
        simp [Array.getD, hs] at hj
      · refine (List.mem_erase_of_ne hji).2 (hall j ?_)
        rw [← hj]
        simp only [Array.getD_eq_getD_getElem?, Array.getElem?_setIfInBounds]
        rw [if_neg (fun e => hji e.symm)]
/-- puts, one behind the other -/
def putAll (a : Act) : List (Tmp × Value) → Act
  | [] => a
  | (d, v) :: l => putAll (a.put (some d) v) l
theorem putAll_eq : ∀ (l : List (Tmp × Value)) (a0 a : Act), a.defers = a0.defers → a.tmps.size = a0.tmps.size → (∀ t, (∀ x ∈ l, x.1 ≠ t) → a.tmps[t]? = a0.tmps[t]?) → (∀ x ∈ l, a.tmps[x.1]? = some x.2) → putAll a0 l = a
  | [], a0, a, h1, h2, h3, _ => by
    have : a0.tmps = a.tmps := Array.ext_getElem? fun t => (h3 t (fun _ h => by cases h)).symm
    cases a; cases a0; simp_all [putAll]
  | (d, v) :: l, a0, a, h1, h2, h3, h4 => by
    refine putAll_eq l (a0.put (some d) v) a h1 (by show a.tmps.size = (a0.tmps.setIfInBounds d v).size; simpa using h2) (fun t ht => ?_) (fun x hx => h4 x (List.mem_cons_of_mem _ hx))
    show a.tmps[t]? = (a0.tmps.setIfInBounds d v)[t]?
    rw [Array.getElem?_setIfInBounds]
    by_cases hd : d = t
    · subst hd
      have hv := h4 (d, v) (List.mem_cons_self ..)
      have := (Array.getElem?_eq_some_iff.1 hv).1
      rw [if_pos rfl, if_pos (by omega)]
      exact hv
    · rw [if_neg hd]
      refine h3 t fun x hx => ?_
      rcases List.mem_cons.1 hx with rfl | hx
      · exact hd
      · exact ht x hx
/-- what an operation waits for -/
def depsOf (o : Oper) : List Nat := (o.after.toList.filter fun e => Region.binds .any e).map (·.on)
def AllDeps (ds : List Tmp) (F : Nat → World → Value → Prop) (a : Act) (w : World) : List Nat → Prop
  | [] => True
  | j :: l => (∃ v, a.tmps[ds.getD j 0]? = some v ∧ F j w v) ∧ AllDeps ds F a w l
theorem allDeps_of {ds : List Tmp} {F : Nat → World → Value → Prop} {a : Act} {w : World} : ∀ {l : List Nat}, (∀ j ∈ l, ∃ v, a.tmps[ds.getD j 0]? = some v ∧ F j w v) → AllDeps ds F a w l
  | [], _ => trivial
  | j :: _, h => ⟨h j (List.mem_cons_self ..), allDeps_of fun i hi => h i (List.mem_cons_of_mem _ hi)⟩
/-- an operation, done once -/
def StepT (P : Program) (Q : Exit → Act → World → Prop) (S : World → Prop) (F : Nat → World → Value → Prop) (ds : List Tmp) (a0 : Act) (i : Nat) (o : Oper) : Prop :=
  ∀ a w, S w → a.tmps.size = a0.tmps.size → (∀ t, t ∉ ds → a.tmps[t]? = a0.tmps[t]?) → AllDeps ds F a w (depsOf o) → ∀ K : Act → World → Prop, Shut (∀ v w', S w' → Below w.heap.size w w' → F i w' v → K (a.put o.dst v) w') → o.wp P a w K Q
def StepsT (P : Program) (Q : Exit → Act → World → Prop) (S : World → Prop) (F : Nat → World → Value → Prop) (ds : List Tmp) (a0 : Act) : Nat → List Oper → Prop
  | _, [] => True
  | k, o :: l => StepT P Q S F ds a0 k o ∧ StepsT P Q S F ds a0 (k + 1) l
theorem stepsT_at {S : World → Prop} {F : Nat → World → Value → Prop} {ds : List Tmp} {a0 : Act} : ∀ {l : List Oper} {k i : Nat} {o : Oper}, StepsT P Q S F ds a0 k l → l[i]? = some o → StepT P Q S F ds a0 (k + i) o
  | [], k, i, o, _, h => by simp at h
  | x :: l, k, 0, o, hs, h => by
    have : x = o := by simpa using h
    subst this; exact hs.1
  | x :: l, k, i + 1, o, hs, h => by
    have := stepsT_at (i := i) hs.2 (by simpa using h)
    rwa [show k + 1 + i = k + (i + 1) by omega] at this
/-- whatever the slots hold at the end -/
def EndT (F : Nat → World → Value → Prop) (w : World) (J : List Value → Prop) : Nat → Nat → List Value → Prop
  | 0, _, acc => J acc
  | n + 1, k, acc => ∀ v, F k w v → EndT F w J n (k + 1) (acc ++ [v])
theorem endT_at {F : Nat → World → Value → Prop} {w : World} {J : List Value → Prop} : ∀ (n k : Nat) (acc vs : List Value), EndT F w J n k acc → vs.length = n → (∀ i v, vs[i]? = some v → F (k + i) w v) → J (acc ++ vs)
  | 0, k, acc, vs, h, hl, _ => by rw [List.eq_nil_of_length_eq_zero hl, List.append_nil]; exact h
  | n + 1, k, acc, [], h, hl, _ => by simp at hl
  | n + 1, k, acc, v :: vs, h, hl, hv => by
    have := endT_at n (k + 1) (acc ++ [v]) vs (h v (by simpa using hv 0 v rfl)) (by simpa using hl) (fun i x hx => by
      have := hv (i + 1) x (by simpa using hx)
      rwa [show k + (i + 1) = k + 1 + i by omega] at this)
    simpa using this
def backB : Nat → List Oper → Bool
  | _, [] => true
  | k, o :: l => (o.after.toList.all fun e => !Region.binds .any e || decide (e.on < k)) && backB (k + 1) l
theorem back_at : ∀ {l : List Oper} {k i : Nat} {o : Oper}, backB k l = true → l[i]? = some o → ∀ e ∈ o.after, Region.binds .any e = true → e.on < k + i
  | [], k, i, o, _, h => by simp at h
  | x :: l, k, 0, o, hb, h => by
    have : x = o := by simpa using h
    subst this
    simp only [backB, Bool.and_eq_true, List.all_eq_true] at hb
    intro e he hbi
    have := hb.1 e (by simpa using he)
    rw [hbi] at this
    simpa using this
  | x :: l, k, i + 1, o, hb, h => by
    simp only [backB, Bool.and_eq_true] at hb
    have := back_at (i := i) hb.2 (by simpa using h)
    intro e he hbi
    have := this e he hbi
    omega
def nodupB : List Tmp → Bool
  | [] => true
  | d :: l => !l.contains d && nodupB l
theorem nodup_at : ∀ {l : List Tmp} {i j : Nat} {d : Tmp}, nodupB l = true → l[i]? = some d → l[j]? = some d → i = j
  | [], i, j, d, _, h, _ => by simp at h
  | x :: l, 0, 0, d, _, _, _ => rfl
  | x :: l, 0, j + 1, d, hb, h, k => by
    simp only [nodupB, Bool.and_eq_true, Bool.not_eq_true'] at hb
    have hx : x = d := by simpa using h
    have hk : l[j]? = some d := by simpa using k
    have := List.mem_of_getElem? hk
    subst hx
    simp [this] at hb
  | x :: l, i + 1, 0, d, hb, h, k => by
    simp only [nodupB, Bool.and_eq_true, Bool.not_eq_true'] at hb
    have hx : x = d := by simpa using k
    have hk : l[i]? = some d := by simpa using h
    have := List.mem_of_getElem? hk
    subst hx
    simp [this] at hb
  | x :: l, i + 1, j + 1, d, hb, h, k => by
    simp only [nodupB, Bool.and_eq_true] at hb
    rw [nodup_at (i := i) (j := j) hb.2 (by simpa using h) (by simpa using k)]
/-- THE REGION: what comes ahead (l1) in any order, what is behind (l2) a plain list -/
theorem wp_region_typed {l1 l2 : List Oper} {id : Nat} {a0 : Act} {w0 : World} (ds : List Tmp) (S : World → Prop) (F : Nat → World → Value → Prop) (hm : P.follows .mixedOrders = true)
    (hB : (ordB l1.length 0 l1 && phB l1 l2 && backB 0 l1 && nodupB ds && (l1.map (·.dst) == ds.map some) && l1.all (fun o => o.guard.isNone) && chainB (l1 ++ l2).toArray l2.length l1.length (List.replicate l1.length true ++ List.replicate l2.length false).toArray) = true)
    (hz : (ds.all fun d => decide (d < a0.tmps.size)) = true) (hF : ∀ i w w' v, F i w v → Below w.heap.size w w' → F i w' v) (hS : S { w0 with drawn := w0.drawn + 1 })
    (hs : StepsT P (upTo Q (wpList P (l1 ++ l2).toArray Q l2)) S F ds a0 0 l1)
    (he : ∀ w, S w → EndT F w (fun vs => wpList P (l1 ++ l2).toArray Q l2 (putAll a0 (ds.zip vs)) w) l1.length 0 []) : (Code.region id (l1 ++ l2).toArray true).wp P Q a0 w0 := by
  simp only [Bool.and_eq_true, beq_iff_eq] at hB
  obtain ⟨⟨⟨⟨⟨⟨h1, h2⟩, h3⟩, h4⟩, h5⟩, h6⟩, h7⟩ := hB
  have hdst : ∀ (i : Nat) (o : Oper), l1[i]? = some o → ∃ d, o.dst = some d ∧ ds[i]? = some d := by
    intro i o ho
    have h := congrArg (fun l => l[i]?) h5
    simp only [List.getElem?_map, ho, Option.map_some] at h
    cases hd : ds[i]? with
    | none => rw [hd] at h; simp at h
    | some d => rw [hd] at h; exact ⟨d, by simpa using h, rfl⟩
  have hlen : l1.length = ds.length := by simpa using congrArg List.length h5
  refine wp_region_cut (fun _ => True) (wpList P (l1 ++ l2).toArray Q l2) hm (by rw [h1, h2]; rfl) ?_ fun a w hJ => any_list l2 l1.length _ a w (fun j => by simp [List.getElem?_append_right]) h7 hJ
  refine any_inv (ops := l1.toArray) (fun L a w => S w ∧ a.defers = a0.defers ∧ a.tmps.size = a0.tmps.size ∧ (∀ t, t ∉ ds → a.tmps[t]? = a0.tmps[t]?) ∧ ∀ i d, ds[i]? = some d → L.getD i false = true → ∃ v, a.tmps[d]? = some v ∧ F i w v)
    (fun i o ho => List.all_eq_true.1 h6 o (List.mem_of_getElem? (by simpa using ho))) (fun i o ho e he hb => by have := back_at (k := 0) (i := i) h3 (by simpa using ho) e he hb; omega) ?_ ?_ l1.length (List.range l1.length) _ a0 _ (by simp) (by simp) ?_ ?_
  · intro i o L a w ho hL hd hl hI
    have ho' : l1[i]? = some o := by simpa using ho
    obtain ⟨i1, i2, i3, i4, i5⟩ := hI
    obtain ⟨d, hod, hdi⟩ := hdst i o ho'
    have hst := stepsT_at hs ho'
    rw [Nat.zero_add] at hst
    refine hst a w i1 i3 i4 (allDeps_of fun j hj => ?_) _ fun v w' k1 k2 k3 => ⟨k1, by rw [hod]; exact i2, ?_, ?_, ?_⟩
    · obtain ⟨e, he, rfl⟩ := List.mem_map.1 hj
      obtain ⟨he1, he2⟩ := List.mem_filter.1 he
      have hon := hd e (by simpa using he1) he2
      have hlt : e.on < i := by have := back_at (k := 0) (i := i) h3 ho' e (by simpa using he1) he2; omega
      have hil : i < l1.length := (List.getElem?_eq_some_iff.1 ho').1
      obtain ⟨d', hd'⟩ : ∃ d', ds[e.on]? = some d' := ⟨ds[e.on]'(by omega), List.getElem?_eq_getElem (by omega)⟩
      obtain ⟨v, hv1, hv2⟩ := i5 e.on d' hd' hon
      exact ⟨v, by rw [List.getD_eq_getElem?_getD, hd']; exact hv1, hv2⟩
    · rw [hod]; show (a.tmps.setIfInBounds d v).size = _; simpa using i3
    · intro t ht
      rw [hod]
      show (a.tmps.setIfInBounds d v)[t]? = _
      rw [Array.getElem?_setIfInBounds, if_neg (fun e => ht (by rw [← e]; exact List.mem_of_getElem? hdi))]
      exact i4 t ht
    · intro j dj hj hLj
      rw [hod]
      show ∃ v', (a.tmps.setIfInBounds d v)[dj]? = some v' ∧ _
      by_cases hji : j = i
      · subst hji
        have e : d = dj := Option.some.inj (hdi.symm.trans hj)
        subst e
        have hsz : d < a.tmps.size := by
          have := List.all_eq_true.1 hz d (List.mem_of_getElem? hdi)
          rw [i3]; simpa using this
        exact ⟨v, by simp [hsz], k3⟩
      · have hne : d ≠ dj := fun e => hji (nodup_at h4 hj (by rw [← e]; exact hdi))
        rw [Array.getElem?_setIfInBounds, if_neg hne]
        have hLj' : L.getD j false = true := by
          rw [← hLj]
          simp only [Array.getD_eq_getD_getElem?, Array.getElem?_setIfInBounds]
          rw [if_neg (fun e => hji e.symm)]
        obtain ⟨v', hv1, hv2⟩ := i5 j dj hj hLj'
        exact ⟨v', hv1, hF _ _ _ _ hv2 k2⟩
  · intro L a w hall hI
    obtain ⟨i1, i2, i3, i4, i5⟩ := hI
    have hv : ∀ i, ∃ v, i < ds.length → a.tmps[ds.getD i 0]? = some v ∧ F i w v := by
      intro i
      by_cases hi : i < ds.length
      · obtain ⟨v, h1, h2⟩ := i5 i ds[i] (List.getElem?_eq_getElem hi) (hall i (by simp; omega))
        exact ⟨v, fun _ => ⟨by rw [List.getD_eq_getElem?_getD, List.getElem?_eq_getElem hi]; exact h1, h2⟩⟩
      · exact ⟨undef, fun h => absurd h hi⟩
    have hch := Classical.axiomOfChoice hv
    obtain ⟨V, hV⟩ := hch
    have hend := endT_at l1.length 0 [] ((List.range l1.length).map V) (he w i1) (by simp) (fun i v hi => by
      simp only [List.getElem?_map] at hi
      obtain ⟨k, hk, rfl⟩ := Option.map_eq_some_iff.1 hi
      obtain ⟨hk1, hk2⟩ := List.getElem?_eq_some_iff.1 hk
      have : k = i := by simpa using hk2.symm
      subst this
      rw [Nat.zero_add]
      exact (hV k (by simp at hk1; omega)).2)
    show wpList P (l1 ++ l2).toArray Q l2 a w
    have hfr : putAll a0 (ds.zip ((List.range l1.length).map V)) = a := by
      refine putAll_eq _ _ _ i2 i3 (fun t ht => i4 t fun hm => ?_) (fun x hx => ?_)
      · obtain ⟨i, hi, rfl⟩ := List.getElem_of_mem hm
        refine ht (ds[i], V i) ?_ rfl
        refine List.mem_iff_getElem?.2 ⟨i, ?_⟩
        simp [hi, hlen]
      · obtain ⟨i, hi⟩ := List.mem_iff_getElem?.1 hx
        obtain ⟨h1, h2⟩ := List.getElem?_zip_eq_some.1 hi
        have hil := (List.getElem?_eq_some_iff.1 h1).1
        have hx2 : V i = x.2 := by simpa [hlen, hil] using h2
        have := (hV i hil).1
        rw [List.getD_eq_getElem?_getD, h1] at this
        rw [← hx2]; exact this
    rw [List.nil_append, hfr] at hend
    exact hend
  · intro i hi
    rw [List.mem_range]
    rcases Nat.lt_or_ge i l1.length with h | h
    · exact h
    · simp [Array.getD] at hi
      omega
  · refine ⟨hS, rfl, rfl, fun _ _ => rfl, fun i d _ hl => ?_⟩
    simp only [Array.getD_eq_getD_getElem?, Array.getElem?_replicate] at hl
    split at hl <;> simp at hl
/-- the same; what the frame is behind it is not told, but what its slots hold -/
theorem wp_region_typed' {l1 l2 : List Oper} {id : Nat} {a0 : Act} {w0 : World} (ds : List Tmp) (S : World → Prop) (F : Nat → World → Value → Prop) (hm : P.follows .mixedOrders = true)
    (hB : (ordB l1.length 0 l1 && phB l1 l2 && backB 0 l1 && nodupB ds && (l1.map (·.dst) == ds.map some) && l1.all (fun o => o.guard.isNone) && chainB (l1 ++ l2).toArray l2.length l1.length (List.replicate l1.length true ++ List.replicate l2.length false).toArray) = true)
    (hz : (ds.all fun d => decide (d < a0.tmps.size)) = true) (hF : ∀ i w w' v, F i w v → Below w.heap.size w w' → F i w' v) (hS : S { w0 with drawn := w0.drawn + 1 })
    (hs : StepsT P (upTo Q (wpList P (l1 ++ l2).toArray Q l2)) S F ds a0 0 l1)
    (he : ∀ a w, S w → a.defers = a0.defers → a.tmps.size = a0.tmps.size → (∀ t, t ∉ ds → a.tmps[t]? = a0.tmps[t]?) → (∀ (i : Nat) (d : Tmp), ds[i]? = some d → ∃ v, a.tmps[d]? = some v ∧ F i w v) → wpList P (l1 ++ l2).toArray Q l2 a w) : (Code.region id (l1 ++ l2).toArray true).wp P Q a0 w0 := by
  simp only [Bool.and_eq_true, beq_iff_eq] at hB
  obtain ⟨⟨⟨⟨⟨⟨h1, h2⟩, h3⟩, h4⟩, h5⟩, h6⟩, h7⟩ := hB
  have hdst : ∀ (i : Nat) (o : Oper), l1[i]? = some o → ∃ d, o.dst = some d ∧ ds[i]? = some d := by
    intro i o ho
    have h := congrArg (fun l => l[i]?) h5
    simp only [List.getElem?_map, ho, Option.map_some] at h
    cases hd : ds[i]? with
    | none => rw [hd] at h; simp at h
    | some d => rw [hd] at h; exact ⟨d, by simpa using h, rfl⟩
  have hlen : l1.length = ds.length := by simpa using congrArg List.length h5
  refine wp_region_cut (fun _ => True) (wpList P (l1 ++ l2).toArray Q l2) hm (by rw [h1, h2]; rfl) ?_ fun a w hJ => any_list l2 l1.length _ a w (fun j => by simp [List.getElem?_append_right]) h7 hJ
  refine any_inv (ops := l1.toArray) (fun L a w => S w ∧ a.defers = a0.defers ∧ a.tmps.size = a0.tmps.size ∧ (∀ t, t ∉ ds → a.tmps[t]? = a0.tmps[t]?) ∧ ∀ i d, ds[i]? = some d → L.getD i false = true → ∃ v, a.tmps[d]? = some v ∧ F i w v)
    (fun i o ho => List.all_eq_true.1 h6 o (List.mem_of_getElem? (by simpa using ho))) (fun i o ho e he hb => by have := back_at (k := 0) (i := i) h3 (by simpa using ho) e he hb; omega) ?_ ?_ l1.length (List.range l1.length) _ a0 _ (by simp) (by simp) ?_ ?_
  · intro i o L a w ho hL hd hl hI
    have ho' : l1[i]? = some o := by simpa using ho
    obtain ⟨i1, i2, i3, i4, i5⟩ := hI
    obtain ⟨d, hod, hdi⟩ := hdst i o ho'
    have hst := stepsT_at hs ho'
    rw [Nat.zero_add] at hst
    refine hst a w i1 i3 i4 (allDeps_of fun j hj => ?_) _ fun v w' k1 k2 k3 => ⟨k1, by rw [hod]; exact i2, ?_, ?_, ?_⟩
    · obtain ⟨e, he, rfl⟩ := List.mem_map.1 hj
      obtain ⟨he1, he2⟩ := List.mem_filter.1 he
      have hon := hd e (by simpa using he1) he2
      have hlt : e.on < i := by have := back_at (k := 0) (i := i) h3 ho' e (by simpa using he1) he2; omega
      have hil : i < l1.length := (List.getElem?_eq_some_iff.1 ho').1
      obtain ⟨d', hd'⟩ : ∃ d', ds[e.on]? = some d' := ⟨ds[e.on]'(by omega), List.getElem?_eq_getElem (by omega)⟩
      obtain ⟨v, hv1, hv2⟩ := i5 e.on d' hd' hon
      exact ⟨v, by rw [List.getD_eq_getElem?_getD, hd']; exact hv1, hv2⟩
    · rw [hod]; show (a.tmps.setIfInBounds d v).size = _; simpa using i3
    · intro t ht
      rw [hod]
      show (a.tmps.setIfInBounds d v)[t]? = _
      rw [Array.getElem?_setIfInBounds, if_neg (fun e => ht (by rw [← e]; exact List.mem_of_getElem? hdi))]
      exact i4 t ht
    · intro j dj hj hLj
      rw [hod]
      show ∃ v', (a.tmps.setIfInBounds d v)[dj]? = some v' ∧ _
      by_cases hji : j = i
      · subst hji
        have e : d = dj := Option.some.inj (hdi.symm.trans hj)
        subst e
        have hsz : d < a.tmps.size := by
          have := List.all_eq_true.1 hz d (List.mem_of_getElem? hdi)
          rw [i3]; simpa using this
        exact ⟨v, by simp [hsz], k3⟩
      · have hne : d ≠ dj := fun e => hji (nodup_at h4 hj (by rw [← e]; exact hdi))
        rw [Array.getElem?_setIfInBounds, if_neg hne]
        have hLj' : L.getD j false = true := by
          rw [← hLj]
          simp only [Array.getD_eq_getD_getElem?, Array.getElem?_setIfInBounds]
          rw [if_neg (fun e => hji e.symm)]
        obtain ⟨v', hv1, hv2⟩ := i5 j dj hj hLj'
        exact ⟨v', hv1, hF _ _ _ _ hv2 k2⟩
  · intro L a w hall hI
    obtain ⟨i1, i2, i3, i4, i5⟩ := hI
    exact he a w i1 i2 i3 i4 fun i d hd => i5 i d hd (hall i (by have := (List.getElem?_eq_some_iff.1 hd).1; simp; omega))
  · intro i hi
    rw [List.mem_range]
    rcases Nat.lt_or_ge i l1.length with h | h
    · exact h
    · simp [Array.getD] at hi
      omega
  · refine ⟨hS, rfl, rfl, fun _ _ => rfl, fun i d _ hl => ?_⟩
    simp only [Array.getD_eq_getD_getElem?, Array.getElem?_replicate] at hl
    split at hl <;> simp at hl
end
end Go.Proofs.Ytkjpdhnibfhaaaa.Cut
