/- A region that draws its order, that reads, and stores once: what it reads is told. No function of a program. -/
import Derived.Test.YtkjpdhnibfhaaaaTypedG
namespace Go.Proofs.Ytkjpdhnibfhaaaa.Cut
open Go Go.RowKit
section
variable {P : Program} {Q : Exit → Act → World → Prop}
/-- what the slots hold that an operation waits for -/
def Held (vals : List (Option (Tmp × Value))) (a : Act) : List Nat → Prop
  | [] => True
  | j :: l => (∀ d v, vals[j]? = some (some (d, v)) → a.tmps[d]? = some v) ∧ Held vals a l
theorem held_of {vals : List (Option (Tmp × Value))} {a : Act} : ∀ {l : List Nat}, (∀ j ∈ l, ∀ d v, vals[j]? = some (some (d, v)) → a.tmps[d]? = some v) → Held vals a l
  | [], _ => trivial
  | j :: _, h => ⟨h j (List.mem_cons_self ..), held_of fun i hi => h i (List.mem_cons_of_mem _ hi)⟩
theorem Held.at {vals : List (Option (Tmp × Value))} {a : Act} {j : Nat} {d : Tmp} {v : Value} : ∀ {l : List Nat}, Held vals a l → l.contains j = true → vals[j]? = some (some (d, v)) → a.tmps[d]? = some v
  | [], _, hj, _ => by simp at hj
  | i :: l, h, hj, hv => by
    simp only [List.contains_cons, Bool.or_eq_true, beq_iff_eq] at hj
    rcases hj with rfl | hj
    · exact h.1 d v hv
    · exact Held.at h.2 hj hv
/-- an operation that reads: its value, in every world that meets S -/
def ReadR (P : Program) (S : World → Prop) (vals : List (Option (Tmp × Value))) (tmps : List Tmp) (a0 : Act) (i : Nat) (o : Oper) : Prop :=
  ∀ d v, vals[i]? = some (some (d, v)) → ∀ a w, S w → (∀ t, t ∉ tmps → a.tmps[t]? = a0.tmps[t]?) → Held vals a (depsOf o) → (execOp a.eval o).run P w = .ok (.value v) w
def ReadsR (P : Program) (S0 S1 : World → Prop) (late : List Nat) (vals : List (Option (Tmp × Value))) (tmps : List Tmp) (a0 : Act) : Nat → List Oper → Prop
  | _, [] => True
  | k, o :: l => ReadR P (fun w => S0 w ∨ (late.contains k = false ∧ S1 w)) vals tmps a0 k o ∧ ReadsR P S0 S1 late vals tmps a0 (k + 1) l
theorem readsR_at {S0 S1 : World → Prop} {late : List Nat} {vals : List (Option (Tmp × Value))} {tmps : List Tmp} {a0 : Act} : ∀ {l : List Oper} {k i : Nat} {o : Oper}, ReadsR P S0 S1 late vals tmps a0 k l → l[i]? = some o → ReadR P (fun w => S0 w ∨ (late.contains (k + i) = false ∧ S1 w)) vals tmps a0 (k + i) o
  | [], k, i, o, _, h => by simp at h
  | x :: l, k, 0, o, hs, h => by
    have : x = o := by simpa using h
    subst this; exact hs.1
  | x :: l, k, i + 1, o, hs, h => by
    have := readsR_at (i := i) hs.2 (by simpa using h)
    rwa [show k + 1 + i = k + (i + 1) by omega] at this
theorem ReadR.of {S : World → Prop} {vals : List (Option (Tmp × Value))} {tmps : List Tmp} {a0 : Act} {i : Nat} {o : Oper} {d : Tmp} {v : Value} (hv : vals[i]? = some (some (d, v))) (h : ∀ (a : Act) w, S w → (∀ t, t ∉ tmps → a.tmps[t]? = a0.tmps[t]?) → Held vals a (depsOf o) → (execOp a.eval o).run P w = .ok (.value v) w) : ReadR P S vals tmps a0 i o := by
  intro d' v' hv' a w hS hfr hh
  rw [hv] at hv'
  simp only [Option.some.injEq, Prod.mk.injEq] at hv'
  obtain ⟨rfl, rfl⟩ := hv'
  exact h a w hS hfr hh
theorem wp_region_store {l1 l2 : List Oper} {rid : Nat} {a0 : Act} {w0 : World} (vals : List (Option (Tmp × Value))) (tmps : List Tmp) (s : Nat) (os : Oper) (S0 S1 : World → Prop) (hm : P.follows .mixedOrders = true) (hos : l1[s]? = some os)
    (hB : (ordB l1.length 0 l1 && phB l1 l2 && backB 0 l1 && nodupB tmps && ((vals.filterMap id).map (·.1) == tmps) && (l1.map (·.dst) == vals.map (·.map (·.1))) && l1.all (fun o => o.guard.isNone) && chainB (l1 ++ l2).toArray l2.length l1.length (List.replicate l1.length true ++ List.replicate l2.length false).toArray) = true)
    (hsv : vals[s]? = some none) (hone : ((List.range vals.length).all fun i => i == s || (vals[i]?.bind id).isSome) = true)
    (hz : (tmps.all fun d => decide (d < a0.tmps.size)) = true) (hS : S0 { w0 with drawn := w0.drawn + 1 })
    (hs : ReadsR P S0 S1 (depsOf os) vals tmps a0 0 l1)
    (hst : ∀ a w, S0 w → (∀ t, t ∉ tmps → a.tmps[t]? = a0.tmps[t]?) → Held vals a (depsOf os) → ∃ w', (execOp a.eval os).run P w = .ok .skip w' ∧ S1 w')
    (he : ∀ w, S1 w → wpList P (l1 ++ l2).toArray Q l2 (putAll a0 (vals.filterMap id)) w) : (Code.region rid (l1 ++ l2).toArray true).wp P Q a0 w0 := by
  simp only [Bool.and_eq_true, beq_iff_eq] at hB
  obtain ⟨⟨⟨⟨⟨⟨⟨h1, h2⟩, h3⟩, h4⟩, h8⟩, h5⟩, h6⟩, h7⟩ := hB
  have hdst : ∀ (i : Nat) (o : Oper), l1[i]? = some o → ∃ x, vals[i]? = some x ∧ o.dst = x.map (·.1) := by
    intro i o ho
    have h := congrArg (fun l => l[i]?) h5
    simp only [List.getElem?_map, ho, Option.map_some] at h
    cases hd : vals[i]? with
    | none => rw [hd] at h; simp at h
    | some x => rw [hd] at h; exact ⟨x, rfl, by simpa using h⟩
  have hlen : l1.length = vals.length := by simpa using congrArg List.length h5
  have hmem : ∀ {i : Nat} {d : Tmp} {v : Value}, vals[i]? = some (some (d, v)) → d ∈ tmps := fun {i d v} h => by
    rw [← h8]
    exact List.mem_map.2 ⟨(d, v), List.mem_filterMap.2 ⟨some (d, v), List.mem_of_getElem? h, rfl⟩, rfl⟩
  have hnd : ∀ (vals : List (Option (Tmp × Value))) {i j : Nat} {d : Tmp} {v v' : Value}, nodupB ((vals.filterMap id).map (·.1)) = true → vals[i]? = some (some (d, v)) → vals[j]? = some (some (d, v')) → i = j := by
    intro vals
    induction vals with
    | nil => intro i j d v v' _ h; simp at h
    | cons x vals ih =>
      intro i j d v v' hn hi hj
      have hin : ∀ {i : Nat} {d : Tmp} {v : Value}, vals[i]? = some (some (d, v)) → d ∈ (vals.filterMap id).map (·.1) := fun {i d v} h => List.mem_map.2 ⟨(d, v), List.mem_filterMap.2 ⟨some (d, v), List.mem_of_getElem? h, rfl⟩, rfl⟩
      have hn' : nodupB ((vals.filterMap id).map (·.1)) = true := by
        cases x with
        | none => simpa using hn
        | some y =>
          simp only [List.filterMap_cons, id, List.map_cons, nodupB, Bool.and_eq_true] at hn
          exact hn.2
      cases i with
      | zero =>
        cases j with
        | zero => rfl
        | succ j =>
          have hx : x = some (d, v) := by simpa using hi
          subst hx
          simp only [List.filterMap_cons, id, List.map_cons, nodupB, Bool.and_eq_true, Bool.not_eq_true'] at hn
          have := hin (by simpa using hj)
          simp [this] at hn
      | succ i =>
        cases j with
        | zero =>
          have hx : x = some (d, v') := by simpa using hj
          subst hx
          simp only [List.filterMap_cons, id, List.map_cons, nodupB, Bool.and_eq_true, Bool.not_eq_true'] at hn
          have := hin (by simpa using hi)
          simp [this] at hn
        | succ j => exact congrArg (· + 1) (ih (i := i) (j := j) (d := d) (v := v) (v' := v') hn' (by simpa using hi) (by simpa using hj))
  have hnd2 : ∀ {i j : Nat} {d : Tmp} {v v' : Value}, vals[i]? = some (some (d, v)) → vals[j]? = some (some (d, v')) → i = j := fun hi hj => hnd vals (by rw [h8]; exact h4) hi hj
  have hset : ∀ (L : Array Bool) (i j : Nat), j ≠ i → (L.setIfInBounds i true).getD j false = L.getD j false := fun L i j hji => by
    simp only [Array.getD_eq_getD_getElem?, Array.getElem?_setIfInBounds]
    rw [if_neg (fun e => hji e.symm)]
  have hself : ∀ (L : Array Bool) (i : Nat), i < L.size → (L.setIfInBounds i true).getD i false = true := fun L i hi => by simp [Array.getD, hi]
  refine wp_region_cut (fun _ => True) (wpList P (l1 ++ l2).toArray Q l2) hm (by rw [h1, h2]; rfl) ?_ fun a w hJ => any_list l2 l1.length _ a w (fun j => by simp [List.getElem?_append_right]) h7 hJ
  refine any_inv (ops := l1.toArray) (fun L a w => a.defers = a0.defers ∧ a.tmps.size = a0.tmps.size ∧ (∀ t, t ∉ tmps → a.tmps[t]? = a0.tmps[t]?) ∧ (∀ i d v, vals[i]? = some (some (d, v)) → L.getD i false = true → a.tmps[d]? = some v) ∧
      (L.getD s false = true → ∀ j ∈ depsOf os, L.getD j false = true) ∧ (L.getD s false = false → S0 w) ∧ (L.getD s false = true → S1 w))
    (fun i o ho => List.all_eq_true.1 h6 o (List.mem_of_getElem? (by simpa using ho))) (fun i o ho e he hb => by have := back_at (k := 0) (i := i) h3 (by simpa using ho) e he hb; omega) ?_ ?_ l1.length (List.range l1.length) _ a0 _ (by simp) (by simp) ?_ ?_
  · intro i o L a w ho hL hd hl hI
    have ho' : l1[i]? = some o := by simpa using ho
    obtain ⟨i2, i3, i4, i5, i6, i7, i8⟩ := hI
    have hil : i < L.size := by rw [hL]; exact (Array.getElem?_eq_some_iff.1 ho).1
    have hl' : L.getD i false = false := by simpa [Array.getD, hil] using hl
    have hdep : ∀ j ∈ depsOf o, L.getD j false = true := fun j hj => by
      obtain ⟨e, he, rfl⟩ := List.mem_map.1 hj
      obtain ⟨he1, he2⟩ := List.mem_filter.1 he
      exact hd e (by simpa using he1) he2
    have hheld : Held vals a (depsOf o) := held_of fun j hj d v hv => i5 j d v hv (hdep j hj)
    by_cases his : i = s
    · subst his
      rw [hos] at ho'
      obtain rfl := Option.some.inj ho'
      obtain ⟨w', hr, h1'⟩ := hst a w (i7 hl') i4 hheld
      obtain ⟨x, hx, hdx⟩ := hdst i os hos
      rw [hsv] at hx
      obtain rfl := Option.some.inj hx
      have hdn : os.dst = none := hdx
      refine wp_do hr ⟨?_, ?_, ?_, ?_, fun _ j hj => ?_, fun h => ?_, fun _ => h1'⟩
      · rw [hdn]; exact i2
      · rw [hdn]; exact i3
      · rw [hdn]; exact i4
      · intro j d v hv hj
        rw [hdn]
        have hji : j ≠ i := fun e => by rw [e, hsv] at hv; cases hv
        rw [hset L i j hji] at hj
        exact i5 j d v hv hj
      · by_cases hji : j = i
        · rw [hji]; exact hself L i hil
        · rw [hset L i j hji]; exact hdep j hj
      · rw [hself L i hil] at h; cases h
    · obtain ⟨x, hx, hdx⟩ := hdst i o ho'
      have hxs : ∃ d v, x = some (d, v) := by
        have := List.all_eq_true.1 hone i (by simpa using (List.getElem?_eq_some_iff.1 hx).1)
        rw [hx] at this
        simp only [Bool.or_eq_true, beq_iff_eq, his, false_or] at this
        obtain ⟨⟨d, v⟩, hy⟩ := Option.isSome_iff_exists.1 this
        exact ⟨d, v, by simpa using hy⟩
      obtain ⟨d, v, rfl⟩ := hxs
      have hod : o.dst = some d := hdx
      have hrd := readsR_at hs ho'
      rw [Nat.zero_add] at hrd
      have hrun := hrd d v hx a w (by
        cases hsL : L.getD s false with
        | false => exact .inl (i7 hsL)
        | true =>
          refine .inr ⟨?_, i8 hsL⟩
          cases hc : (depsOf os).contains i with
          | false => rfl
          | true => have := i6 hsL i (by simpa using hc); rw [hl'] at this; cases this) i4 hheld
      refine wp_val hrun ⟨?_, ?_, ?_, ?_, fun h j hj => ?_, fun h => ?_, fun h => ?_⟩
      · rw [hod]; exact i2
      · rw [hod]; show (a.tmps.setIfInBounds d v).size = _; simpa using i3
      · intro t ht
        rw [hod]
        show (a.tmps.setIfInBounds d v)[t]? = _
        rw [Array.getElem?_setIfInBounds, if_neg (fun e => ht (by rw [← e]; exact hmem hx))]
        exact i4 t ht
      · intro j dj vj hj hLj
        rw [hod]
        show (a.tmps.setIfInBounds d v)[dj]? = some vj
        by_cases hji : j = i
        · subst hji
          rw [hx] at hj
          simp only [Option.some.injEq, Prod.mk.injEq] at hj
          obtain ⟨rfl, rfl⟩ := hj
          have hsz : d < a.tmps.size := by
            have := List.all_eq_true.1 hz d (hmem hx)
            rw [i3]; simpa using this
          simp [hsz]
        · have hne : d ≠ dj := fun e => hji (hnd2 hj (by rw [← e]; exact hx))
          rw [Array.getElem?_setIfInBounds, if_neg hne]
          rw [hset L i j hji] at hLj
          exact i5 j dj vj hj hLj
      · rw [hset L i s (fun e => his e.symm)] at h
        by_cases hji : j = i
        · rw [hji]; exact hself L i hil
        · rw [hset L i j hji]; exact i6 h j hj
      · rw [hset L i s (fun e => his e.symm)] at h
        exact i7 h
      · rw [hset L i s (fun e => his e.symm)] at h
        exact i8 h
  · intro L a w hall hI
    obtain ⟨i2, i3, i4, i5, i6, i7, i8⟩ := hI
    have hsl : s < l1.length := (List.getElem?_eq_some_iff.1 hos).1
    have hfr : putAll a0 (vals.filterMap id) = a := by
      refine putAll_eq _ _ _ i2 i3 (fun t ht => i4 t fun hm => ?_) (fun x hx => ?_)
      · rw [← h8] at hm
        obtain ⟨x, hx, rfl⟩ := List.mem_map.1 hm
        exact ht x hx rfl
      · obtain ⟨y, hy, hyx⟩ := List.mem_filterMap.1 hx
        obtain ⟨i, hi⟩ := List.mem_iff_getElem?.1 hy
        have hyx' : y = some x := hyx
        subst hyx'
        exact i5 i x.1 x.2 hi (hall i (by have := (List.getElem?_eq_some_iff.1 hi).1; simp; omega))
    show wpList P (l1 ++ l2).toArray Q l2 a w
    rw [← hfr]
    exact he w (i8 (hall s (by simpa using hsl)))
  · intro i hi
    rw [List.mem_range]
    rcases Nat.lt_or_ge i l1.length with h | h
    · exact h
    · simp [Array.getD] at hi
      omega
  · have hf : ∀ j, (Array.replicate l1.length false).getD j false = false := fun j => by
      simp only [Array.getD_eq_getD_getElem?, Array.getElem?_replicate]
      split <;> rfl
    refine ⟨rfl, rfl, fun _ _ => rfl, fun i d v _ hl => ?_, fun h => ?_, fun _ => hS, fun h => ?_⟩
    · have hl' : (Array.replicate l1.length false).getD i false = true := hl
      rw [hf i] at hl'; cases hl'
    · have h' : (Array.replicate l1.length false).getD s false = true := h
      rw [hf s] at h'; cases h'
    · have h' : (Array.replicate l1.length false).getD s false = true := h
      rw [hf s] at h'; cases h'
end
end Go.Proofs.Ytkjpdhnibfhaaaa.Cut
