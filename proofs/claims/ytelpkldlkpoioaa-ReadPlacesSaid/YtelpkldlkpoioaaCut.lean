/- Regions that draw their order, walked in two parts: what comes ahead, held by a condition on the world; what waits for all of that, one behind the other. No function of a program. -/
import Derived.OrdersHeld
import Derived.Still
import Derived.Deep.RegionHeld3
namespace Go.Proofs.Ytelpkldlkpoioaa.Cut
open Go

section
variable {P : Program} {Q : Exit → Act → World → Prop} {J : Act → World → Prop} {S : World → Prop}

/-- Q, but J where all has come up -/
def upTo (Q : Exit → Act → World → Prop) (J : Act → World → Prop) : Exit → Act → World → Prop
  | .normal, a, w => J a w
  | .exit i, a, w => Q (.exit i) a w
  | .goto i, a, w => Q (.goto i) a w
  | .panic c, a, w => Q (.panic c) a w
  | .outgrown, a, w => Q .outgrown a w
  | e, a, w => Q e a w

theorem wp_upTo {o : Oper} {a : Act} {w : World} {K K' : Act → World → Prop} (h : ∀ a w, K a w → K' a w) (hh : o.wp P a w K (upTo Q J)) : o.wp P a w K' Q := by
  unfold Oper.wp at *
  generalize (execOp a.eval o).run P w = r at *
  cases r with
  | ok n w' =>
    cases n <;> simp only [Oper.upon] at hh ⊢ <;>
      first
        | exact h _ _ hh
        | exact Calls.mono hh (fun e w'' he => by cases e <;> first | exact h _ _ he | exact he)
        | exact Rows.mono hh (fun _ _ he => h _ _ he)
  | halt x w' => cases x <;> simp only [Oper.upon] at hh ⊢ <;> exact hh

/-- what comes ahead hangs on what is ahead of it -/
def ordB : Nat → Nat → List Oper → Bool
  | _, _, [] => true
  | k, i, o :: l => (o.after.all fun e => !Region.binds .any e || decide (e.on < i)) && (match o.guard with | none => true | some g => decide (g.1 < k)) && ordB k (i + 1) l
/-- an operation waits for that one, through others of these -/
def reachB (l1 : List Oper) : Nat → Oper → Nat → Bool
  | 0, _, _ => false
  | n + 1, o, j => o.after.any fun e => Region.binds .any e && (e.on == j || (match l1[e.on]? with | some x => reachB l1 n x j | none => false))
/-- what is behind waits for all that comes ahead -/
def phB (l1 l : List Oper) : Bool := l.all fun o => (List.range l1.length).all fun j => reachB l1 (l1.length + 1) o j

theorem ordB_spec {k : Nat} : ∀ {l : List Oper} {i j : Nat} {o : Oper}, ordB k i l = true → l[j]? = some o → (∀ e ∈ o.after, Region.binds .any e = true → e.on < i + j) ∧ (∀ g b, o.guard = some (g, b) → g < k)
  | [], i, j, o, _, h => by simp at h
  | x :: l, i, 0, o, hb, h => by
    obtain rfl : x = o := by simpa using h
    simp only [ordB, Bool.and_eq_true] at hb
    refine ⟨fun e he hbd => ?_, fun g b hg => ?_⟩
    · have := Array.all_eq_true_iff_forall_mem.1 hb.1.1 e he
      simpa [hbd] using this
    · have := hb.1.2
      rw [hg] at this
      simpa using this
  | x :: l, i, j + 1, o, hb, h => by
    simp only [ordB, Bool.and_eq_true] at hb
    have := ordB_spec (j := j) hb.2 (by simpa using h)
    refine ⟨fun e he hbd => ?_, this.2⟩
    have := this.1 e he hbd
    omega
/-- what is listed has all listed that it waits for -/
def Closed (l1 : List Oper) (L : List Bool) : Prop := ∀ (i : Nat) (o : Oper), l1[i]? = some o → L[i]? = some true → ∀ e ∈ o.after, Region.binds .any e = true → L[e.on]? = some true
theorem reachB_spec {l1 : List Oper} {L : List Bool} (hc : Closed l1 L) {j : Nat} : ∀ (n : Nat) (o : Oper), reachB l1 n o j = true → (∀ e ∈ o.after, Region.binds .any e = true → e.on < l1.length → L[e.on]? = some true) → j < l1.length → L[j]? = some true
  | 0, _, h, _, _ => by simp [reachB] at h
  | n + 1, o, h, ha, hj => by
    rw [reachB] at h
    obtain ⟨i, hi, he⟩ := Array.any_eq_true.1 h
    simp only [Bool.and_eq_true, Bool.or_eq_true, beq_iff_eq] at he
    obtain ⟨hb, he⟩ := he
    rcases he with he | he
    · rw [← he]; exact ha _ (Array.getElem_mem hi) hb (by omega)
    · split at he
      · rename_i x hx
        have hlt : (o.after[i]).on < l1.length := (List.getElem?_eq_some_iff.1 hx).1
        exact reachB_spec hc n x he (fun e he' hb' _ => hc _ x hx (ha _ (Array.getElem_mem hi) hb hlt) e he' hb') hj
      · cases he
theorem phB_spec {l1 l : List Oper} {o : Oper} (h : phB l1 l = true) (ho : o ∈ l) {j : Nat} (hj : j < l1.length) : reachB l1 (l1.length + 1) o j = true :=
  List.all_eq_true.1 (List.all_eq_true.1 h o ho) j (List.mem_range.2 hj)

theorem yielded_cut {l1 l2 : List Oper} {t : Array Value} {g : Nat} (h : g < l1.length) : yielded l1.toArray t g = yielded (l1 ++ l2).toArray t g := by
  unfold yielded
  have : (l1.toArray)[g]? = ((l1 ++ l2).toArray)[g]? := by simp [List.getElem?_append_left h]
  rw [this]
theorem wanted_cut {l1 l2 : List Oper} {t : Array Value} {o : Oper} (h : ∀ g b, o.guard = some (g, b) → g < l1.length) : Region.wanted o (yielded l1.toArray t) = Region.wanted o (yielded (l1 ++ l2).toArray t) := by
  unfold Region.wanted
  cases hg : o.guard with
  | none => rfl
  | some gw => obtain ⟨g, b⟩ := gw; simp only [yielded_cut (l2 := l2) (h g b hg)]

theorem wpOp_cut {l1 l2 : List Oper} {i : Nat} {K K' : Act → World → Prop} {a : Act} {w : World} (h1 : ordB l1.length 0 l1 = true) (hi : i < l1.length) (hK : ∀ a w, K a w → K' a w)
    (h : wpOp P l1.toArray (upTo Q J) i K a w) : wpOp P (l1 ++ l2).toArray Q i K' a w := by
  unfold wpOp at *
  obtain ⟨o, ho⟩ : ∃ o, l1[i]? = some o := ⟨l1[i], List.getElem?_eq_getElem hi⟩
  have e1 : (l1.toArray)[i]? = some o := by simpa using ho
  have e2 : ((l1 ++ l2).toArray)[i]? = some o := by simp [List.getElem?_append_left hi, ho]
  rw [e1] at h
  rw [e2]
  simp only at h ⊢
  rw [← wanted_cut (l2 := l2) (ordB_spec h1 ho).2]
  split
  · rename_i hw
    rw [if_pos hw] at h
    rcases h with h | ⟨h, a', w', h'⟩
    · exact .inl (wp_upTo hK h)
    · exact .inr ⟨h, a', w', h'⟩
  · rename_i hw
    rw [if_neg hw] at h
    exact hK _ _ h

theorem first_false : ∀ (L : List Bool) (n : Nat), L.count false = n + 1 → ∃ i, i < L.length ∧ L[i]? = some false ∧ ∀ j, j < i → L[j]? = some true
  | [], n, h => by simp at h
  | false :: L, n, _ => ⟨0, by simp, by simp, fun j hj => by omega⟩
  | true :: L, n, h => by
    obtain ⟨i, h1, h2, h3⟩ := first_false L n (by simpa using h)
    refine ⟨i + 1, by simpa using h1, by simpa using h2, fun j hj => ?_⟩
    cases j with
    | zero => simp
    | succ j => simpa using h3 j (by omega)
theorem count_zero : ∀ (L : List Bool), L.count false = 0 → L = List.replicate L.length true
  | [], _ => rfl
  | true :: L, h => by rw [List.length_cons, List.replicate_succ, ← count_zero L (by simpa using h)]
  | false :: L, h => by simp at h

theorem any_cut {l1 l2 : List Oper} (h1 : ordB l1.length 0 l1 = true) (h2 : phB l1 l2 = true)
    (hJ : ∀ a w, J a w → wpAny P .any (l1 ++ l2).toArray Q l2.length (List.replicate l1.length true ++ List.replicate l2.length false).toArray a w) :
    ∀ (fuel : Nat) (L : List Bool) (a : Act) (w : World), L.length = l1.length → L.count false = fuel → Closed l1 L → wpAnyH P .any l1.toArray (upTo Q J) S fuel L.toArray a w →
      wpAny P .any (l1 ++ l2).toArray Q (fuel + l2.length) (L ++ List.replicate l2.length false).toArray a w := by
  intro fuel
  induction fuel with
  | zero =>
    intro L a w hL hc _ h
    rw [count_zero L hc, hL, Nat.zero_add]
    exact hJ a w h.2
  | succ fuel ih =>
    intro L a w hL hc hcl h
    obtain ⟨i0, hi0, hf0, hlt0⟩ := first_false L fuel hc
    have get1 : ∀ j, j < l1.length → (L ++ List.replicate l2.length false)[j]? = L[j]? := fun j hj => List.getElem?_append_left (by omega)
    have hgd : ∀ j d, j < l1.length → (L ++ List.replicate l2.length false).toArray.getD j d = L.toArray.getD j d := fun j d hj => by
      simp only [Array.getD_eq_getD_getElem?, List.getElem?_toArray, get1 j hj]
    have key : ∀ i, i ∈ Region.ready .any (l1 ++ l2).toArray (L ++ List.replicate l2.length false).toArray → i < l1.length ∧ i ∈ Region.ready .any l1.toArray L.toArray := by
      intro i hi
      obtain ⟨hun, o, ho, hall⟩ := mem_ready.1 hi
      have hik : i < l1.length := by
        rcases Nat.lt_or_ge i l1.length with h | h
        · exact h
        · exfalso
          have ho' : (l1 ++ l2)[i]? = some o := by simpa using ho
          rw [List.getElem?_append_right h] at ho'
          have := reachB_spec hcl _ o (phB_spec h2 (List.mem_of_getElem? ho') (show i0 < l1.length by omega)) (fun e he hb hlt => by
            have := hall e he hb
            rw [hgd e.on false hlt] at this
            have hlt' : e.on < L.length := by omega
            simpa [Array.getD_eq_getD_getElem?, hlt'] using this) (by omega)
          rw [hf0] at this
          cases this
      have ho1 : l1[i]? = some o := by
        have ho' : (l1 ++ l2)[i]? = some o := by simpa using ho
        rwa [List.getElem?_append_left hik] at ho'
      refine ⟨hik, mem_ready.2 ⟨by rw [← hgd i true hik]; exact hun, o, by simpa using ho1, fun e he hb => ?_⟩⟩
      have hlt := (ordB_spec h1 ho1).1 e he hb
      rw [← hgd e.on false (by omega)]
      exact hall e he hb
    have hr0 : i0 ∈ Region.ready .any (l1 ++ l2).toArray (L ++ List.replicate l2.length false).toArray := by
      have hk0 : i0 < l1.length := by omega
      obtain ⟨o, ho⟩ : ∃ o, l1[i0]? = some o := ⟨l1[i0], List.getElem?_eq_getElem hk0⟩
      refine mem_ready.2 ⟨by rw [hgd i0 true hk0]; simp [hf0], o, by simp [List.getElem?_append_left hk0, ho], fun e he hb => ?_⟩
      have hlt := (ordB_spec h1 ho).1 e he hb
      rw [hgd e.on false (by omega)]
      simp [hlt0 e.on (by omega)]
    rw [show fuel + 1 + l2.length = (fuel + l2.length) + 1 by omega]
    refine ⟨fun h0 => absurd (h0 ▸ hr0) (by simp), fun i hi => ?_⟩
    obtain ⟨hik, hir⟩ := key i hi
    refine wpOp_cut h1 hik (fun a' w' hK => ?_) (h.2 i hir)
    have hset : (L ++ List.replicate l2.length false).toArray.setIfInBounds i true = (L.set i true ++ List.replicate l2.length false).toArray := by
      rw [List.setIfInBounds_toArray, List.set_append_left _ _ (by omega)]
    rw [hset]
    have hLi : L[i]? = some false := by
      have := (mem_ready.1 hir).1
      have hlt : i < L.length := by omega
      rw [List.getElem?_eq_getElem hlt]
      simpa [Array.getD_eq_getD_getElem?, hlt] using this
    have hlt : i < L.length := by omega
    refine ih (L.set i true) a' w' (by simpa using hL) ?_ ?_ (by rw [← List.setIfInBounds_toArray]; exact hK.2)
    · rw [List.count_set hlt]
      have : L[i] = false := by simpa [List.getElem?_eq_getElem hlt] using hLi
      simp [this]
      omega
    · intro m o ho hm e he hb
      have hup : ∀ n, L[n]? = some true → (L.set i true)[n]? = some true := fun n hn => by
        by_cases hin : i = n
        · subst hin; rw [hLi] at hn; cases hn
        · rw [List.getElem?_set_ne hin]; exact hn
      by_cases hmi : i = m
      · subst hmi
        obtain ⟨_, o', ho', hall⟩ := mem_ready.1 hir
        have : l1[i]? = some o' := by simpa using ho'
        rw [ho] at this
        obtain rfl : o = o' := Option.some.inj this
        have h' := hall e he hb
        have hlt' : e.on < L.length := by have := (ordB_spec h1 ho).1 e he hb; omega
        exact hup _ (by simpa [Array.getD_eq_getD_getElem?, hlt'] using h')
      · rw [List.getElem?_set_ne hmi] at hm
        exact hup _ (hcl m o ho hm e he hb)

/-- THE CUT -/
theorem wp_region_cut {l1 l2 : List Oper} {id : Nat} {a : Act} {w : World} (S : World → Prop) (J : Act → World → Prop) (hm : P.follows .mixedOrders = true) (h1 : (ordB l1.length 0 l1 && phB l1 l2) = true)
    (h : wpAnyH P .any l1.toArray (upTo Q J) S l1.length (Array.replicate l1.length false) a { w with drawn := w.drawn + 1 })
    (hJ : ∀ a w, J a w → wpAny P .any (l1 ++ l2).toArray Q l2.length (List.replicate l1.length true ++ List.replicate l2.length false).toArray a w) : (Code.region id (l1 ++ l2).toArray true).wp P Q a w := by
  simp only [Bool.and_eq_true] at h1
  refine wp_region_any hm ?_
  have := any_cut h1.1 h1.2 hJ l1.length (List.replicate l1.length false) a _ (by simp) (by simp) (fun i o _ hi => by rw [List.getElem?_replicate] at hi; split at hi <;> simp at hi) (by simpa using h)
  simpa [List.replicate_append_replicate, Nat.add_comm] using this

/-! one behind the other -/
def chainB (ops : Array Oper) : Nat → Nat → Array Bool → Bool
  | 0, _, L => (Region.ready .any ops L).isEmpty
  | n + 1, k, L => (Region.ready .any ops L == [k]) && chainB ops n (k + 1) (L.setIfInBounds k true)
theorem any_list {ops : Array Oper} : ∀ (l : List Oper) (k : Nat) (L : Array Bool) (a : Act) (w : World), (∀ j, l[j]? = ops[k + j]?) → chainB ops l.length k L = true → wpList P ops Q l a w → wpAny P .any ops Q l.length L a w
  | [], k, L, a, w, _, hB, h => ⟨by simpa [chainB] using hB, h⟩
  | o :: l, k, L, a, w, hl, hB, h => by
    simp only [List.length_cons, chainB, Bool.and_eq_true, beq_iff_eq] at hB
    have h0 : ops[k]? = some o := by simpa using (hl 0).symm
    refine ⟨fun h0 => by rw [h0] at hB; simp at hB, fun i hi => ?_⟩
    rw [hB.1] at hi
    obtain rfl : i = k := by simpa using hi
    have hn : ∀ a w, wpList P ops Q l a w → wpAny P .any ops Q l.length (L.setIfInBounds i true) a w := fun a w h => any_list l (i + 1) _ a w (fun j => by have := hl (j + 1); simpa [Nat.add_assoc, Nat.add_comm 1 j] using this) hB.2 h
    unfold wpOp
    rw [h0]
    simp only
    rw [wpList] at h
    split
    · rename_i hw
      rw [if_pos hw] at h
      exact h.imp (Oper.wp_mono hn) id
    · rename_i hw
      rw [if_neg hw] at h
      exact hn _ _ h

/-! what comes ahead, in the order of the text: true: it yields its value in every world that meets S; false: it alone may come up -/
def wpMix (P : Program) (ops : Array Oper) (Q : Exit → Act → World → Prop) (S : World → Prop) : List Bool → List Oper → Act → World → Prop
  | _, [], a, w => Q .normal a w
  | [], _ :: _, _, _ => False
  | true :: fs, o :: l, a, w => if Region.wanted o (yielded ops a.tmps) then ∃ v, (∀ u, S u → (execOp a.eval o).run P u = .ok (.value v) u) ∧ wpMix P ops Q S fs l (a.put o.dst v) w else wpMix P ops Q S fs l (a.put o.dst undef) w
  | false :: fs, o :: l, a, w => if Region.wanted o (yielded ops a.tmps) then o.wp P a w (fun a' w' => S w' ∧ wpMix P ops Q S fs l a' w') Q else wpMix P ops Q S fs l (a.put o.dst undef) w
def mixB (ops : Array Oper) : List Bool → Nat → Array Bool → Bool
  | [], _, L => (Region.ready .any ops L).isEmpty
  | true :: fs, k, L => (Region.ready .any ops L).contains k && Region.free .any ops L k && mixB ops fs (k + 1) (L.setIfInBounds k true)
  | false :: fs, k, L => (Region.ready .any ops L == [k]) && mixB ops fs (k + 1) (L.setIfInBounds k true)
/-- at a panic nothing hangs on these slots of the frame -/
def Loose (D : Option Tmp → Prop) (Q : Exit → Act → World → Prop) : Prop := ∀ c (a : Act) d v w, D d → Q (.panic c) (a.put d v) w → Q (.panic c) a w
theorem loose_body {P : Program} {fn : Func} {R : Ending → World → Prop} {D : Option Tmp → Prop} : Loose D (bodyPost P fn R) := fun c a d v w _ h => by cases d <;> exact h
theorem any_mix {ops : Array Oper} {D : Option Tmp → Prop} (hs : Region.noSelect ops = true) (hQ : Loose D Q) : ∀ (l : List Oper) (fs : List Bool) (k : Nat) (L : Array Bool) (a : Act) (w : World), (∀ o ∈ l, D o.dst) → (∀ j, l[j]? = ops[k + j]?) → fs.length = l.length → mixB ops fs k L = true → S w →
    wpMix P ops Q S fs l a w → wpAnyH P .any ops Q S l.length L a w
  | [], fs, k, L, a, w, _, _, hf, hB, _, h => by
    obtain rfl : fs = [] := List.eq_nil_of_length_eq_zero hf
    exact ⟨by simpa [mixB] using hB, h⟩
  | o :: l, [], k, L, a, w, _, _, hf, _, _, _ => by simp at hf
  | o :: l, true :: fs, k, L, a, w, hD, hl, hf, hB, hS, h => by
    have hD0 := hD o (List.mem_cons_self ..)
    have hD1 : ∀ x ∈ l, D x.dst := fun x hx => hD x (List.mem_cons_of_mem _ hx)
    simp only [mixB, Bool.and_eq_true] at hB
    have h0 : ops[k]? = some o := by simpa using (hl 0).symm
    have hl' : ∀ j, l[j]? = ops[k + 1 + j]? := fun j => by have := hl (j + 1); simpa [Nat.add_assoc, Nat.add_comm 1 j] using this
    rw [wpMix] at h
    by_cases hw : Region.wanted o (yielded ops a.tmps) = true
    · rw [if_pos hw] at h
      obtain ⟨v, hv, h⟩ := h
      exact wpAnyH_take h0 hs hB.1.2 hB.1.1 (fun c a w h => hQ _ _ _ _ _ hD0 h) (.inl ⟨hw, hv⟩) hS (any_mix hs hQ l fs (k + 1) _ _ _ hD1 hl' (by simpa using hf) hB.2 hS h)
    · rw [if_neg hw] at h
      exact wpAnyH_take h0 hs hB.1.2 hB.1.1 (fun c a w h => hQ _ _ _ _ _ hD0 h) (.inr ⟨by simpa using hw, rfl⟩) hS (any_mix hs hQ l fs (k + 1) _ _ _ hD1 hl' (by simpa using hf) hB.2 hS h)
  | o :: l, false :: fs, k, L, a, w, hD, hl, hf, hB, hS, h => by
    have hD1 : ∀ x ∈ l, D x.dst := fun x hx => hD x (List.mem_cons_of_mem _ hx)
    simp only [mixB, Bool.and_eq_true, beq_iff_eq] at hB
    have h0 : ops[k]? = some o := by simpa using (hl 0).symm
    have hl' : ∀ j, l[j]? = ops[k + 1 + j]? := fun j => by have := hl (j + 1); simpa [Nat.add_assoc, Nat.add_comm 1 j] using this
    rw [wpMix] at h
    refine ⟨fun h0 => by rw [h0] at hB; simp at hB, fun i hi => ?_⟩
    rw [hB.1] at hi
    obtain rfl : i = k := by simpa using hi
    have hn : ∀ a w, (S w ∧ wpMix P ops Q S fs l a w) → (S w ∧ wpAnyH P .any ops Q S l.length (L.setIfInBounds i true) a w) := fun a w h => ⟨h.1, any_mix hs hQ l fs (i + 1) _ a w hD1 hl' (by simpa using hf) hB.2 h.1 h.2⟩
    unfold wpOp
    rw [h0]
    simp only
    by_cases hw : Region.wanted o (yielded ops a.tmps) = true
    · rw [if_pos hw] at h ⊢
      exact .inl (Oper.wp_mono hn h)
    · rw [if_neg hw] at h ⊢
      exact hn _ _ ⟨hS, h⟩
theorem mix_take {ops : Array Oper} {fs : List Bool} {o : Oper} {l : List Oper} {a : Act} {w : World} (v : Value) (hw : Region.wanted o (yielded ops a.tmps) = true) (hv : ∀ u, S u → (execOp a.eval o).run P u = .ok (.value v) u)
    (h : wpMix P ops Q S fs l (a.put o.dst v) w) : wpMix P ops Q S (true :: fs) (o :: l) a w := by
  rw [wpMix, if_pos hw]; exact ⟨v, hv, h⟩
theorem mix_go {ops : Array Oper} {fs : List Bool} {o : Oper} {l : List Oper} {a : Act} {w : World} (hw : Region.wanted o (yielded ops a.tmps) = true)
    (h : ∀ K : Act → World → Prop, Shut (∀ a w, S w → wpMix P ops Q S fs l a w → K a w) → o.wp P a w K Q) : wpMix P ops Q S (false :: fs) (o :: l) a w := by
  rw [wpMix, if_pos hw]; exact h _ (fun _ _ h1 h2 => ⟨h1, h2⟩)
end

/-- THE REGION: what comes ahead (l1) mixed, what is behind (l2) a plain list -/
theorem wp_region_mix {P : Program} {Q : Exit → Act → World → Prop} {l1 l2 : List Oper} {id : Nat} {a : Act} {w : World} (fs : List Bool) (S : World → Prop) (hm : P.follows .mixedOrders = true)
    (hB : (ordB l1.length 0 l1 && phB l1 l2 && Region.noSelect l1.toArray && mixB l1.toArray fs 0 (Array.replicate l1.length false) && (fs.length == l1.length) && chainB (l1 ++ l2).toArray l2.length l1.length (List.replicate l1.length true ++ List.replicate l2.length false).toArray) = true)
    (hQ : Loose (fun d => d ∈ l1.map (·.dst)) Q) (hS : S { w with drawn := w.drawn + 1 })
    (h : wpMix P l1.toArray (upTo Q (wpList P (l1 ++ l2).toArray Q l2)) S fs l1 a { w with drawn := w.drawn + 1 }) : (Code.region id (l1 ++ l2).toArray true).wp P Q a w := by
  simp only [Bool.and_eq_true, beq_iff_eq] at hB
  obtain ⟨⟨⟨⟨⟨h1, h2⟩, h3⟩, h4⟩, h5⟩, h6⟩ := hB
  refine wp_region_cut S (wpList P (l1 ++ l2).toArray Q l2) hm (by rw [h1, h2]; rfl) ?_ fun a w hJ => ?_
  · exact any_mix (Q := upTo Q (wpList P (l1 ++ l2).toArray Q l2)) h3 (fun c a d v w hd h => hQ c a d v w hd h) l1 fs 0 _ a _ (fun o ho => List.mem_map_of_mem ho) (by simp) h5 h4 hS h
  · exact any_list l2 l1.length _ a w (fun j => by simp [List.getElem?_append_right]) h6 hJ
end Go.Proofs.Ytelpkldlkpoioaa.Cut
