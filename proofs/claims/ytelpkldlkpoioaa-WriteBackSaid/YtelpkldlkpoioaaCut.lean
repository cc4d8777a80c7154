/- Regions that draw their order, walked in two parts: what comes ahead, held by a condition on the world; what waits for all of that, one behind the other. No function of a program. -/
import Derived.OrdersHeld
import Derived.Still
import Derived.Deep.RegionHeld3
import Derived.Test.YtelpkldlkpoioaaDat
import Derived.Deep.AppendLies
namespace Go.Proofs.Ytelpkldlkpoioaa.Cut
open Go

section
variable {P : Program} {Q : Exit → Act → World → Prop} {J : Act → World → Prop} {S : World → Prop}

/-- Q, but J where all has come up -/
def upTo (Q : Exit → Act → World → Prop) (J : Act → World → Prop) : Exit → Act → World → Prop
  | .normal, a, w => J a w
  | .exit i, a, w => Q (.exit i) a w
  | .goto i, a, w => Q (.goto i) a w
  | .panic c, a, w => Q (.panic c) a w
  | .outgrown, a, w => Q .outgrown a w
  | e, a, w => Q e a w

theorem wp_upTo {o : Oper} {a : Act} {w : World} {K K' : Act → World → Prop} (h : ∀ a w, K a w → K' a w) (hh : o.wp P a w K (upTo Q J)) : o.wp P a w K' Q := by
  unfold Oper.wp at *
  generalize (execOp a.eval o).run P w = r at *
  cases r with
  | ok n w' =>
    cases n <;> simp only [Oper.upon] at hh ⊢ <;>
      first
        | exact h _ _ hh
        | exact Calls.mono hh (fun e w'' he => by cases e <;> first | exact h _ _ he | exact he)
        | exact Rows.mono hh (fun _ _ he => h _ _ he)
  | halt x w' => cases x <;> simp only [Oper.upon] at hh ⊢ <;> exact hh

/-- what comes ahead hangs on what is ahead of it -/
def ordB : Nat → Nat → List Oper → Bool
  | _, _, [] => true
  | k, i, o :: l => (o.after.all fun e => !Region.binds .any e || decide (e.on < i)) && (match o.guard with | none => true | some g => decide (g.1 < k)) && ordB k (i + 1) l
/-- an operation waits for that one, through others of these -/
def reachB (l1 : List Oper) : Nat → Oper → Nat → Bool
  | 0, _, _ => false
  | n + 1, o, j => o.after.any fun e => Region.binds .any e && (e.on == j || (match l1[e.on]? with | some x => reachB l1 n x j | none => false))
/-- what is behind waits for all that comes ahead -/
def phB (l1 l : List Oper) : Bool := l.all fun o => (List.range l1.length).all fun j => reachB l1 (l1.length + 1) o j

theorem ordB_spec {k : Nat} : ∀ {l : List Oper} {i j : Nat} {o : Oper}, ordB k i l = true → l[j]? = some o → (∀ e ∈ o.after, Region.binds .any e = true → e.on < i + j) ∧ (∀ g b, o.guard = some (g, b) → g < k)
  | [], i, j, o, _, h => by simp at h
  | x :: l, i, 0, o, hb, h => by
    obtain rfl : x = o := by simpa using h
    simp only [ordB, Bool.and_eq_true] at hb
    refine ⟨fun e he hbd => ?_, fun g b hg => ?_⟩
    · have := Array.all_eq_true_iff_forall_mem.1 hb.1.1 e he
      simpa [hbd] using this
    · have := hb.1.2
      rw [hg] at this
      simpa using this
  | x :: l, i, j + 1, o, hb, h => by
    simp only [ordB, Bool.and_eq_true] at hb
    have := ordB_spec (j := j) hb.2 (by simpa using h)
    refine ⟨fun e he hbd => ?_, this.2⟩
    have := this.1 e he hbd
    omega
/-- what is listed has all listed that it waits for -/
def Closed (l1 : List Oper) (L : List Bool) : Prop := ∀ (i : Nat) (o : Oper), l1[i]? = some o → L[i]? = some true → ∀ e ∈ o.after, Region.binds .any e = true → L[e.on]? = some true
theorem reachB_spec {l1 : List Oper} {L : List Bool} (hc : Closed l1 L) {j : Nat} : ∀ (n : Nat) (o : Oper), reachB l1 n o j = true → (∀ e ∈ o.after, Region.binds .any e = true → e.on < l1.length → L[e.on]? = some true) → j < l1.length → L[j]? = some true
  | 0, _, h, _, _ => by simp [reachB] at h
  | n + 1, o, h, ha, hj => by
    rw [reachB] at h
    obtain ⟨i, hi, he⟩ := Array.any_eq_true.1 h
    simp only [Bool.and_eq_true, Bool.or_eq_true, beq_iff_eq] at he
    obtain ⟨hb, he⟩ := he
    rcases he with he | he
    · rw [← he]; exact ha _ (Array.getElem_mem hi) hb (by omega)
    · split at he
      · rename_i x hx
        have hlt : (o.after[i]).on < l1.length := (List.getElem?_eq_some_iff.1 hx).1
        exact reachB_spec hc n x he (fun e he' hb' _ => hc _ x hx (ha _ (Array.getElem_mem hi) hb hlt) e he' hb') hj
      · cases he
theorem phB_spec {l1 l : List Oper} {o : Oper} (h : phB l1 l = true) (ho : o ∈ l) {j : Nat} (hj : j < l1.length) : reachB l1 (l1.length + 1) o j = true :=
  List.all_eq_true.1 (List.all_eq_true.1 h o ho) j (List.mem_range.2 hj)

theorem yielded_cut {l1 l2 : List Oper} {t : Array Value} {g : Nat} (h : g < l1.length) : yielded l1.toArray t g = yielded (l1 ++ l2).toArray t g := by
  unfold yielded
  have : (l1.toArray)[g]? = ((l1 ++ l2).toArray)[g]? := by simp [List.getElem?_append_left h]
  rw [this]
theorem wanted_cut {l1 l2 : List Oper} {t : Array Value} {o : Oper} (h : ∀ g b, o.guard = some (g, b) → g < l1.length) : Region.wanted o (yielded l1.toArray t) = Region.wanted o (yielded (l1 ++ l2).toArray t) := by
  unfold Region.wanted
  cases hg : o.guard with
  | none => rfl
  | some gw => obtain ⟨g, b⟩ := gw; simp only [yielded_cut (l2 := l2) (h g b hg)]

theorem wpOp_cut {l1 l2 : List Oper} {i : Nat} {K K' : Act → World → Prop} {a : Act} {w : World} (h1 : ordB l1.length 0 l1 = true) (hi : i < l1.length) (hK : ∀ a w, K a w → K' a w)
    (h : wpOp P l1.toArray (upTo Q J) i K a w) : wpOp P (l1 ++ l2).toArray Q i K' a w := by
  unfold wpOp at *
  obtain ⟨o, ho⟩ : ∃ o, l1[i]? = some o := ⟨l1[i], List.getElem?_eq_getElem hi⟩
  have e1 : (l1.toArray)[i]? = some o := by simpa using ho
  have e2 : ((l1 ++ l2).toArray)[i]? = some o := by simp [List.getElem?_append_left hi, ho]
  rw [e1] at h
  rw [e2]
  simp only at h ⊢
  rw [← wanted_cut (l2 := l2) (ordB_spec h1 ho).2]
  split
  · rename_i hw
    rw [if_pos hw] at h
    rcases h with h | ⟨h, a', w', h'⟩
    · exact .inl (wp_upTo hK h)
    · exact .inr ⟨h, a', w', h'⟩
  · rename_i hw
    rw [if_neg hw] at h
    exact hK _ _ h

theorem first_false : ∀ (L : List Bool) (n : Nat), L.count false = n + 1 → ∃ i, i < L.length ∧ L[i]? = some false ∧ ∀ j, j < i → L[j]? = some true
  | [], n, h => by simp at h
  | false :: L, n, _ => ⟨0, by simp, by simp, fun j hj => by omega⟩
  | true :: L, n, h => by
    obtain ⟨i, h1, h2, h3⟩ := first_false L n (by simpa using h)
    refine ⟨i + 1, by simpa using h1, by simpa using h2, fun j hj => ?_⟩
    cases j with
    | zero => simp
    | succ j => simpa using h3 j (by omega)
theorem count_zero : ∀ (L : List Bool), L.count false = 0 → L = List.replicate L.length true
  | [], _ => rfl
  | true :: L, h => by rw [List.length_cons, List.replicate_succ, ← count_zero L (by simpa using h)]
  | false :: L, h => by simp at h

theorem any_cut {l1 l2 : List Oper} (h1 : ordB l1.length 0 l1 = true) (h2 : phB l1 l2 = true)
    (hJ : ∀ a w, J a w → wpAny P .any (l1 ++ l2).toArray Q l2.length (List.replicate l1.length true ++ List.replicate l2.length false).toArray a w) :
    ∀ (fuel : Nat) (L : List Bool) (a : Act) (w : World), L.length = l1.length → L.count false = fuel → Closed l1 L → wpAnyH P .any l1.toArray (upTo Q J) S fuel L.toArray a w →
      wpAny P .any (l1 ++ l2).toArray Q (fuel + l2.length) (L ++ List.replicate l2.length false).toArray a w := by
  intro fuel
  induction fuel with
  | zero =>
    intro L a w hL hc _ h
    rw [count_zero L hc, hL, Nat.zero_add]
    exact hJ a w h.2
  | succ fuel ih =>
    intro L a w hL hc hcl h
    obtain ⟨i0, hi0, hf0, hlt0⟩ := first_false L fuel hc
    have get1 : ∀ j, j < l1.length → (L ++ List.replicate l2.length false)[j]? = L[j]? := fun j hj => List.getElem?_append_left (by omega)
    have hgd : ∀ j d, j < l1.length → (L ++ List.replicate l2.length false).toArray.getD j d = L.toArray.getD j d := fun j d hj => by
      simp only [Array.getD_eq_getD_getElem?, List.getElem?_toArray, get1 j hj]
    have key : ∀ i, i ∈ Region.ready .any (l1 ++ l2).toArray (L ++ List.replicate l2.length false).toArray → i < l1.length ∧ i ∈ Region.ready .any l1.toArray L.toArray := by
      intro i hi
      obtain ⟨hun, o, ho, hall⟩ := mem_ready.1 hi
      have hik : i < l1.length := by
        rcases Nat.lt_or_ge i l1.length with h | h
        · exact h
        · exfalso
          have ho' : (l1 ++ l2)[i]? = some o := by simpa using ho
          rw [List.getElem?_append_right h] at ho'
          have := reachB_spec hcl _ o (phB_spec h2 (List.mem_of_getElem? ho') (show i0 < l1.length by omega)) (fun e he hb hlt => by
            have := hall e he hb
            rw [hgd e.on false hlt] at this
            have hlt' : e.on < L.length := by omega
            simpa [Array.getD_eq_getD_getElem?, hlt'] using this) (by omega)
          rw [hf0] at this
          cases this
      have ho1 : l1[i]? = some o := by
        have ho' : (l1 ++ l2)[i]? = some o := by simpa using ho
        rwa [List.getElem?_append_left hik] at ho'
      refine ⟨hik, mem_ready.2 ⟨by rw [← hgd i true hik]; exact hun, o, by simpa using ho1, fun e he hb => ?_⟩⟩
      have hlt := (ordB_spec h1 ho1).1 e he hb
      rw [← hgd e.on false (by omega)]
      exact hall e he hb
    have hr0 : i0 ∈ Region.ready .any (l1 ++ l2).toArray (L ++ List.replicate l2.length false).toArray := by
      have hk0 : i0 < l1.length := by omega
      obtain ⟨o, ho⟩ : ∃ o, l1[i0]? = some o := ⟨l1[i0], List.getElem?_eq_getElem hk0⟩
      refine mem_ready.2 ⟨by rw [hgd i0 true hk0]; simp [hf0], o, by simp [List.getElem?_append_left hk0, ho], fun e he hb => ?_⟩
      have hlt := (ordB_spec h1 ho).1 e he hb
      rw [hgd e.on false (by omega)]
      simp [hlt0 e.on (by omega)]
    rw [show fuel + 1 + l2.length = (fuel + l2.length) + 1 by omega]
    refine ⟨fun h0 => absurd (h0 ▸ hr0) (by simp), fun i hi => ?_⟩
    obtain ⟨hik, hir⟩ := key i hi
    refine wpOp_cut h1 hik (fun a' w' hK => ?_) (h.2 i hir)
    have hset : (L ++ List.replicate l2.length false).toArray.setIfInBounds i true = (L.set i true ++ List.replicate l2.length false).toArray := by
      rw [List.setIfInBounds_toArray, List.set_append_left _ _ (by omega)]
    rw [hset]
    have hLi : L[i]? = some false := by
      have := (mem_ready.1 hir).1
      have hlt : i < L.length := by omega
      rw [List.getElem?_eq_getElem hlt]
      simpa [Array.getD_eq_getD_getElem?, hlt] using this
    have hlt : i < L.length := by omega
    refine ih (L.set i true) a' w' (by simpa using hL) ?_ ?_ (by rw [← List.setIfInBounds_toArray]; exact hK.2)
    · rw [List.count_set hlt]
      have : L[i] = false := by simpa [List.getElem?_eq_getElem hlt] using hLi
      simp [this]
      omega
    · intro m o ho hm e he hb
      have hup : ∀ n, L[n]? = some true → (L.set i true)[n]? = some true := fun n hn => by
        by_cases hin : i = n
        · subst hin; rw [hLi] at hn; cases hn
        · rw [List.getElem?_set_ne hin]; exact hn
      by_cases hmi : i = m
      · subst hmi
        obtain ⟨_, o', ho', hall⟩ := mem_ready.1 hir
        have : l1[i]? = some o' := by simpa using ho'
        rw [ho] at this
        obtain rfl : o = o' := Option.some.inj this
        have h' := hall e he hb
        have hlt' : e.on < L.length := by have := (ordB_spec h1 ho).1 e he hb; omega
        exact hup _ (by simpa [Array.getD_eq_getD_getElem?, hlt'] using h')
      · rw [List.getElem?_set_ne hmi] at hm
        exact hup _ (hcl m o ho hm e he hb)

/-- THE CUT -/
theorem wp_region_cut {l1 l2 : List Oper} {id : Nat} {a : Act} {w : World} (S : World → Prop) (J : Act → World → Prop) (hm : P.follows .mixedOrders = true) (h1 : (ordB l1.length 0 l1 && phB l1 l2) = true)
    (h : wpAnyH P .any l1.toArray (upTo Q J) S l1.length (Array.replicate l1.length false) a { w with drawn := w.drawn + 1 })
    (hJ : ∀ a w, J a w → wpAny P .any (l1 ++ l2).toArray Q l2.length (List.replicate l1.length true ++ List.replicate l2.length false).toArray a w) : (Code.region id (l1 ++ l2).toArray true).wp P Q a w := by
  simp only [Bool.and_eq_true] at h1
  refine wp_region_any hm ?_
  have := any_cut h1.1 h1.2 hJ l1.length (List.replicate l1.length false) a _ (by simp) (by simp) (fun i o _ hi => by rw [List.getElem?_replicate] at hi; split at hi <;> simp at hi) (by simpa using h)
  simpa [List.replicate_append_replicate, Nat.add_comm] using this

/-! one behind the other -/
def chainB (ops : Array Oper) : Nat → Nat → Array Bool → Bool
  | 0, _, L => (Region.ready .any ops L).isEmpty
  | n + 1, k, L => (Region.ready .any ops L == [k]) && chainB ops n (k + 1) (L.setIfInBounds k true)
theorem any_list {ops : Array Oper} : ∀ (l : List Oper) (k : Nat) (L : Array Bool) (a : Act) (w : World), (∀ j, l[j]? = ops[k + j]?) → chainB ops l.length k L = true → wpList P ops Q l a w → wpAny P .any ops Q l.length L a w
  | [], k, L, a, w, _, hB, h => ⟨by simpa [chainB] using hB, h⟩
  | o :: l, k, L, a, w, hl, hB, h => by
    simp only [List.length_cons, chainB, Bool.and_eq_true, beq_iff_eq] at hB
    have h0 : ops[k]? = some o := by simpa using (hl 0).symm
    refine ⟨fun h0 => by rw [h0] at hB; simp at hB, fun i hi => ?_⟩
    rw [hB.1] at hi
    obtain rfl : i = k := by simpa using hi
    have hn : ∀ a w, wpList P ops Q l a w → wpAny P .any ops Q l.length (L.setIfInBounds i true) a w := fun a w h => any_list l (i + 1) _ a w (fun j => by have := hl (j + 1); simpa [Nat.add_assoc, Nat.add_comm 1 j] using this) hB.2 h
    unfold wpOp
    rw [h0]
    simp only
    rw [wpList] at h
    split
    · rename_i hw
      rw [if_pos hw] at h
      exact h.imp (Oper.wp_mono hn) id
    · rename_i hw
      rw [if_neg hw] at h
      exact hn _ _ h

/-! what comes ahead, in the order of the text: true: it yields its value in every world that meets S; false: it alone may come up -/
def wpMix (P : Program) (ops : Array Oper) (Q : Exit → Act → World → Prop) (S : World → Prop) : List Bool → List Oper → Act → World → Prop
  | _, [], a, w => Q .normal a w
  | [], _ :: _, _, _ => False
  | true :: fs, o :: l, a, w => if Region.wanted o (yielded ops a.tmps) then ∃ v, (∀ u, S u → (execOp a.eval o).run P u = .ok (.value v) u) ∧ wpMix P ops Q S fs l (a.put o.dst v) w else wpMix P ops Q S fs l (a.put o.dst undef) w
  | false :: fs, o :: l, a, w => if Region.wanted o (yielded ops a.tmps) then o.wp P a w (fun a' w' => S w' ∧ wpMix P ops Q S fs l a' w') Q else wpMix P ops Q S fs l (a.put o.dst undef) w
def mixB (ops : Array Oper) : List Bool → Nat → Array Bool → Bool
  | [], _, L => (Region.ready .any ops L).isEmpty
  | true :: fs, k, L => (Region.ready .any ops L).contains k && Region.free .any ops L k && mixB ops fs (k + 1) (L.setIfInBounds k true)
  | false :: fs, k, L => (Region.ready .any ops L == [k]) && mixB ops fs (k + 1) (L.setIfInBounds k true)
/-- at a panic nothing hangs on these slots of the frame -/
def Loose (D : Option Tmp → Prop) (Q : Exit → Act → World → Prop) : Prop := ∀ c (a : Act) d v w, D d → Q (.panic c) (a.put d v) w → Q (.panic c) a w
theorem loose_body {P : Program} {fn : Func} {R : Ending → World → Prop} {D : Option Tmp → Prop} : Loose D (bodyPost P fn R) := fun c a d v w _ h => by cases d <;> exact h
theorem any_mix {ops : Array Oper} {D : Option Tmp → Prop} (hs : Region.noSelect ops = true) (hQ : Loose D Q) : ∀ (l : List Oper) (fs : List Bool) (k : Nat) (L : Array Bool) (a : Act) (w : World), (∀ o ∈ l, D o.dst) → (∀ j, l[j]? = ops[k + j]?) → fs.length = l.length → mixB ops fs k L = true → S w →
    wpMix P ops Q S fs l a w → wpAnyH P .any ops Q S l.length L a w
  | [], fs, k, L, a, w, _, _, hf, hB, _, h => by
    obtain rfl : fs = [] := List.eq_nil_of_length_eq_zero hf
    exact ⟨by simpa [mixB] using hB, h⟩
  | o :: l, [], k, L, a, w, _, _, hf, _, _, _ => by simp at hf
  | o :: l, true :: fs, k, L, a, w, hD, hl, hf, hB, hS, h => by
    have hD0 := hD o (List.mem_cons_self ..)
    have hD1 : ∀ x ∈ l, D x.dst := fun x hx => hD x (List.mem_cons_of_mem _ hx)
    simp only [mixB, Bool.and_eq_true] at hB
    have h0 : ops[k]? = some o := by simpa using (hl 0).symm
    have hl' : ∀ j, l[j]? = ops[k + 1 + j]? := fun j => by have := hl (j + 1); simpa [Nat.add_assoc, Nat.add_comm 1 j] using this
    rw [wpMix] at h
    by_cases hw : Region.wanted o (yielded ops a.tmps) = true
    · rw [if_pos hw] at h
      obtain ⟨v, hv, h⟩ := h
      exact wpAnyH_take h0 hs hB.1.2 hB.1.1 (fun c a w h => hQ _ _ _ _ _ hD0 h) (.inl ⟨hw, hv⟩) hS (any_mix hs hQ l fs (k + 1) _ _ _ hD1 hl' (by simpa using hf) hB.2 hS h)
    · rw [if_neg hw] at h
      exact wpAnyH_take h0 hs hB.1.2 hB.1.1 (fun c a w h => hQ _ _ _ _ _ hD0 h) (.inr ⟨by simpa using hw, rfl⟩) hS (any_mix hs hQ l fs (k + 1) _ _ _ hD1 hl' (by simpa using hf) hB.2 hS h)
  | o :: l, false :: fs, k, L, a, w, hD, hl, hf, hB, hS, h => by
    have hD1 : ∀ x ∈ l, D x.dst := fun x hx => hD x (List.mem_cons_of_mem _ hx)
    simp only [mixB, Bool.and_eq_true, beq_iff_eq] at hB
    have h0 : ops[k]? = some o := by simpa using (hl 0).symm
    have hl' : ∀ j, l[j]? = ops[k + 1 + j]? := fun j => by have := hl (j + 1); simpa [Nat.add_assoc, Nat.add_comm 1 j] using this
    rw [wpMix] at h
    refine ⟨fun h0 => by rw [h0] at hB; simp at hB, fun i hi => ?_⟩
    rw [hB.1] at hi
    obtain rfl : i = k := by simpa using hi
    have hn : ∀ a w, (S w ∧ wpMix P ops Q S fs l a w) → (S w ∧ wpAnyH P .any ops Q S l.length (L.setIfInBounds i true) a w) := fun a w h => ⟨h.1, any_mix hs hQ l fs (i + 1) _ a w hD1 hl' (by simpa using hf) hB.2 h.1 h.2⟩
    unfold wpOp
    rw [h0]
    simp only
    by_cases hw : Region.wanted o (yielded ops a.tmps) = true
    · rw [if_pos hw] at h ⊢
      exact .inl (Oper.wp_mono hn h)
    · rw [if_neg hw] at h ⊢
      exact hn _ _ ⟨hS, h⟩
theorem mix_take {ops : Array Oper} {fs : List Bool} {o : Oper} {l : List Oper} {a : Act} {w : World} (v : Value) (hw : Region.wanted o (yielded ops a.tmps) = true) (hv : ∀ u, S u → (execOp a.eval o).run P u = .ok (.value v) u)
    (h : wpMix P ops Q S fs l (a.put o.dst v) w) : wpMix P ops Q S (true :: fs) (o :: l) a w := by
  rw [wpMix, if_pos hw]; exact ⟨v, hv, h⟩
theorem mix_go {ops : Array Oper} {fs : List Bool} {o : Oper} {l : List Oper} {a : Act} {w : World} (hw : Region.wanted o (yielded ops a.tmps) = true)
    (h : ∀ K : Act → World → Prop, Shut (∀ a w, S w → wpMix P ops Q S fs l a w → K a w) → o.wp P a w K Q) : wpMix P ops Q S (false :: fs) (o :: l) a w := by
  rw [wpMix, if_pos hw]; exact h _ (fun _ _ h1 h2 => ⟨h1, h2⟩)
end

/-- THE REGION: what comes ahead (l1) mixed, what is behind (l2) a plain list -/
theorem wp_region_mix {P : Program} {Q : Exit → Act → World → Prop} {l1 l2 : List Oper} {id : Nat} {a : Act} {w : World} (fs : List Bool) (S : World → Prop) (hm : P.follows .mixedOrders = true)
    (hB : (ordB l1.length 0 l1 && phB l1 l2 && Region.noSelect l1.toArray && mixB l1.toArray fs 0 (Array.replicate l1.length false) && (fs.length == l1.length) && chainB (l1 ++ l2).toArray l2.length l1.length (List.replicate l1.length true ++ List.replicate l2.length false).toArray) = true)
    (hQ : Loose (fun d => d ∈ l1.map (·.dst)) Q) (hS : S { w with drawn := w.drawn + 1 })
    (h : wpMix P l1.toArray (upTo Q (wpList P (l1 ++ l2).toArray Q l2)) S fs l1 a { w with drawn := w.drawn + 1 }) : (Code.region id (l1 ++ l2).toArray true).wp P Q a w := by
  simp only [Bool.and_eq_true, beq_iff_eq] at hB
  obtain ⟨⟨⟨⟨⟨h1, h2⟩, h3⟩, h4⟩, h5⟩, h6⟩ := hB
  refine wp_region_cut S (wpList P (l1 ++ l2).toArray Q l2) hm (by rw [h1, h2]; rfl) ?_ fun a w hJ => ?_
  · exact any_mix (Q := upTo Q (wpList P (l1 ++ l2).toArray Q l2)) h3 (fun c a d v w hd h => hQ c a d v w hd h) l1 fs 0 _ a _ (fun o ho => List.mem_map_of_mem ho) (by simp) h5 h4 hS h
  · exact any_list l2 l1.length _ a w (fun j => by simp [List.getElem?_append_right]) h6 hJ
end Go.Proofs.Ytelpkldlkpoioaa.Cut
/- A region that draws its order: x.f = append(x.f, g(..)): the law of the whole region, of any program. -/
namespace Go.Proofs.Ytelpkldlkpoioaa.Cut
open Go Go.RowKit Go.Proofs.Ytelpkldlkpoioaa.Heap Go.Proofs.Ytelpkldlkpoioaa.Dat

/-- the region's Bool -/
def app8B (o0 o1 o2 o3 o4 o5 o6 o7 : Oper) : Bool :=
  ordB 5 0 [o0, o1, o2, o3, o4] && phB [o0, o1, o2, o3, o4] [o5, o6, o7] && Region.noSelect #[o0, o1, o2, o3, o4] && mixB #[o0, o1, o2, o3, o4] [true, true, true, false, false] 0 #[false, false, false, false, false] &&
    chainB #[o0, o1, o2, o3, o4, o5, o6, o7] 3 5 #[true, true, true, true, true, false, false, false] && [o0, o1, o2, o3, o4, o5, o6, o7].all fun o => o.guard.isNone
theorem want_none {o : Oper} {y : Nat → Option Bool} (h : o.guard.isNone = true) : Region.wanted o y = true := by
  unfold Region.wanted
  cases hg : o.guard with
  | none => rfl
  | some g => rw [hg] at h; cases h

theorem wp_go {P : Program} {o : Oper} {a : Act} {w : World} {f : FuncId} {args : Array Value} {K : Act → World → Prop} {Q : Exit → Act → World → Prop} (hr : (execOp a.eval o).run P w = .ok (.enter f args) w)
    (h : Calls P f args w fun | .returned v, w' => K (a.put o.dst v) w' | .panicked c, w' => Q (.panic c) a w' | .outgrown, _ => LetsOut Q) : o.wp P a w K Q := by
  unfold Oper.wp; rw [hr]; exact h
theorem wp_val {P : Program} {o : Oper} {a : Act} {w w' : World} {v : Value} {K : Act → World → Prop} {Q : Exit → Act → World → Prop} (hr : (execOp a.eval o).run P w = .ok (.value v) w') (h : K (a.put o.dst v) w') : o.wp P a w K Q := by
  unfold Oper.wp; rw [hr]; exact h
theorem wp_do {P : Program} {o : Oper} {a : Act} {w w' : World} {K : Act → World → Prop} {Q : Exit → Act → World → Prop} (hr : (execOp a.eval o).run P w = .ok .skip w') (h : K (a.put o.dst undef) w') : o.wp P a w K Q := by
  unfold Oper.wp; rw [hr]; exact h
theorem list_step {P : Program} {ops : Array Oper} {Q : Exit → Act → World → Prop} {o : Oper} {l : List Oper} {a : Act} {w : World} (hg : o.guard.isNone = true) (h : o.wp P a w (wpList P ops Q l) Q) : wpList P ops Q (o :: l) a w := by
  rw [wpList, if_pos (want_none hg)]; exact .inl h

/-- what is known behind the call: of its answer's cells, and of the world -/
structure Came (w w1 : World) (B H : Nat) (rr : Option Nat) (us : List Value) (ds : List Dat) (b2 : List Nat) : Prop where
  lies : LiesL w1 w.heap.size ds us b2
  nodup : b2.Nodup
  grown : w.grownBy w1 rr
  far : ∀ j, rr = some j → j < B ∧ j ≠ H

theorem append8 {P : Program} {Q : Exit → Act → World → Prop} {id : Nat} {a : Act} {w : World} {o0 o1 o2 o3 o4 o5 o6 o7 : Oper} {α : Type} {val : α → Value} {us : α → List Value} {ds : α → List Dat} {X : α → World → Prop} {B H fo E S n bytes R : Nat} {ti : TypeInfo} {z : Value} {items : List Dat} {bk : List Nat} {rv v2 : Value} {f : FuncId} {args : Array Value} {rr : Option Nat} {S2 : World → Prop} {sx xx : Operand}
    (hm : P.follows .mixedOrders = true) (hB : app8B o0 o1 o2 o3 o4 o5 o6 o7 = true) (hQ : Loose (fun d => d ∈ [o0, o1, o2, o3, o4].map (·.dst)) Q)
    (hcell : w.cell? ⟨H, fo, none⟩ = some rv) (hfro : w.frozen? ⟨H, fo, none⟩ = false) (hL : Lies w B (.row E S n items) rv bk) (hnd : bk.Nodup) (hHB : H < B) (hBw : B ≤ w.heap.size)
    (hE : P.underlying R = some (.slice E)) (hi : P.info? E = some ti) (hz : ti.zero = some z) (hsz : ti.size = S) (hby : ti.bytes = bytes) (hzs : z.cells.size = S) (hS0 : 0 < S) (hn : n ≤ 1000000) (hb1 : bytes ≤ 1000)
    (hus : ∀ x, (us x).length = S ∧ (ds x).length = S ∧ ∀ u ∈ us x, u.oneCell' = true)
    (y0 : ∀ u, (execOp a.eval o0).run P u = .ok (.value (.pointer (some ⟨H, fo, none⟩))) u)
    (y1 : ∀ u, u.cell? ⟨H, fo, none⟩ = some rv → (execOp (a.put o0.dst (.pointer (some ⟨H, fo, none⟩))).eval o1).run P u = .ok (.value rv) u)
    (hS2 : S2 w.drew) (hS2n : ∀ u o, S2 u → S2 (u.alloc o))
    (y2 : ∀ u, S2 u → (execOp ((a.put o0.dst (.pointer (some ⟨H, fo, none⟩))).put o1.dst rv).eval o2).run P u = .ok (.value v2) u)
    (y3 : ∀ u, (execOp (((a.put o0.dst (.pointer (some ⟨H, fo, none⟩))).put o1.dst rv).put o2.dst v2).eval o3).run P u = .ok (.enter f args) u)
    (hc : Calls P f args w.drew fun e w1 => (∃ c, e = .panicked c ∧ Q (.panic c) (((a.put o0.dst (.pointer (some ⟨H, fo, none⟩))).put o1.dst rv).put o2.dst v2) w1) ∨ ∃ x b2, e = .returned (val x) ∧ X x w1 ∧ S2 w1 ∧ Came w w1 B H rr (us x) (ds x) b2)
    (y4 : ∀ x u, (execOp ((((a.put o0.dst (.pointer (some ⟨H, fo, none⟩))).put o1.dst rv).put o2.dst v2).put o3.dst (val x)).eval o4).run P u = .ok (.value (.slice (some ⟨u.heap.size, 0, none⟩) 1 1)) (u.alloc (.cells (us x).toArray E)))
    (y5 : o5.op = .call { callee := .builtin .append, args := #[sx, xx], argTypes := #[R, R] })
    (y5a : ∀ x v4, (((((a.put o0.dst (.pointer (some ⟨H, fo, none⟩))).put o1.dst rv).put o2.dst v2).put o3.dst (val x)).put o4.dst v4).eval sx = rv)
    (y5b : ∀ x v4, (((((a.put o0.dst (.pointer (some ⟨H, fo, none⟩))).put o1.dst rv).put o2.dst v2).put o3.dst (val x)).put o4.dst v4).eval xx = v4)
    (y6 : ∀ x v4 v5 u, (execOp ((((((a.put o0.dst (.pointer (some ⟨H, fo, none⟩))).put o1.dst rv).put o2.dst v2).put o3.dst (val x)).put o4.dst v4).put o5.dst v5).eval o6).run P u = .ok (.value (.pointer (some ⟨H, fo, none⟩))) u)
    (y7 : ∀ x v4 g cp u, u.cell? ⟨H, fo, none⟩ = some rv → u.frozen? ⟨H, fo, none⟩ = false → (execOp (((((((a.put o0.dst (.pointer (some ⟨H, fo, none⟩))).put o1.dst rv).put o2.dst v2).put o3.dst (val x)).put o4.dst v4).put o5.dst (.slice (some ⟨g, 0, none⟩) (n + 1) cp)).put o6.dst (.pointer (some ⟨H, fo, none⟩))).eval o7).run P u = .ok .skip (u.setCell ⟨H, fo, none⟩ (.slice (some ⟨g, 0, none⟩) (n + 1) cp)))
    (hfin : ∀ x w1 wa g cp bk' v4, X x w1 → (∃ r, w1.grownBy wa r ∧ ∀ j, r = some j → j ∈ bk) → w.grownBy wa rr ∨ (∃ wx, w.grownBy wx rr ∧ wx.grownBy wa rv.ownBlock) → Lies (wa.setCell ⟨H, fo, none⟩ (.slice (some ⟨g, 0, none⟩) (n + 1) cp)) B (.row E S (n + 1) (items ++ ds x)) (.slice (some ⟨g, 0, none⟩) (n + 1) cp) bk' → bk'.Nodup → (∀ b ∈ bk', b ∈ bk ∨ w.heap.size ≤ b) → w.heap.size ≤ wa.heap.size → H ∉ bk' →
      Q .normal ((((((((a.put o0.dst (.pointer (some ⟨H, fo, none⟩))).put o1.dst rv).put o2.dst v2).put o3.dst (val x)).put o4.dst v4).put o5.dst (.slice (some ⟨g, 0, none⟩) (n + 1) cp)).put o6.dst (.pointer (some ⟨H, fo, none⟩))).put o7.dst undef) (wa.setCell ⟨H, fo, none⟩ (.slice (some ⟨g, 0, none⟩) (n + 1) cp))) :
    (Code.region id #[o0, o1, o2, o3, o4, o5, o6, o7] true).wp P Q a w := by
  unfold app8B at hB
  simp only [Bool.and_eq_true, List.all_cons, List.all_nil, Bool.and_true] at hB
  obtain ⟨⟨⟨⟨⟨hB1, hB2⟩, hB3⟩, hB4⟩, hB5⟩, g0, g1, g2, g3, g4, g5, g6, g7⟩ := hB
  have hlt := Lies.lt hL
  refine wp_region_mix (l1 := [o0, o1, o2, o3, o4]) (l2 := [o5, o6, o7]) [true, true, true, false, false] (fun u => u.cell? ⟨H, fo, none⟩ = some rv ∧ S2 u) hm ?_ hQ ⟨by exact hcell, hS2⟩ ?_
  · simp only [Bool.and_eq_true]
    exact ⟨⟨⟨⟨⟨hB1, hB2⟩, hB3⟩, hB4⟩, rfl⟩, hB5⟩
  refine mix_take _ (want_none g0) (fun u _ => y0 u) ?_
  refine mix_take _ (want_none g1) (fun u hu => y1 u hu.1) ?_
  refine mix_take _ (want_none g2) (fun u hu => y2 u hu.2) ?_
  refine mix_go (want_none g3) fun K hK => wp_go (y3 _) (hc.mono ?_)
  rintro e w1 (⟨c, rfl, hc⟩ | ⟨x, b2, rfl, hX, hS2', hcame⟩)
  · exact hc
  obtain ⟨hlies, hnd2, hgr, hfar⟩ := hcame
  have hH1 : w1.heap[H]? = w.heap[H]? := hgr.block H (by omega) (fun e => (hfar H e.symm).2 rfl)
  have c1 : w1.cell? ⟨H, fo, none⟩ = some rv := (World.cell?_of_block hH1).trans hcell
  have f1 : w1.frozen? ⟨H, fo, none⟩ = false := (World.frozen?_of_block hH1).trans hfro
  refine hK.out _ _ ⟨c1, hS2'⟩ ?_
  refine mix_go (want_none g4) fun K4 hK4 => wp_val (y4 x w1) ?_
  have hsz1 := hgr.size
  have c2 : (w1.alloc (.cells (us x).toArray E)).cell? ⟨H, fo, none⟩ = some rv := (World.cell?_alloc_past _ _ _ (by show H < w1.heap.size; omega)).trans c1
  refine hK4.out _ _ ⟨c2, hS2n _ _ hS2'⟩ ?_
  -- the rest
  show upTo Q _ .normal _ _
  refine list_step g5 ?_
  have hL1 : Lies w1 B (.row E S n items) rv bk := Lies.kept hgr hL fun b hb e => by have := (hfar b e.symm).1; have := (hlt b hb).1; omega
  have hL2 := hL1.below (B' := w1.heap.size) ((Below.refl _ _).alloc (Nat.le_refl _) (.cells (us x).toArray E)) (fun b hb => (Lies.lt hL1 b hb).2)
  have hd1 : LiesL w1 B (ds x) (us x) b2 := LiesL.base hBw hlies
  have hd2 := LiesL.below (B' := w1.heap.size) ((Below.refl _ w1).alloc (Nat.le_refl _) (.cells (us x).toArray E)) hd1 (fun b hb => (LiesL.lt hd1 b hb).2)
  have hl2 : ∀ b ∈ b2, w.heap.size ≤ b ∧ b < w1.heap.size := fun b hb => LiesL.lt hlies b hb
  obtain ⟨xs, bs', ho, hlx, hob, hil⟩ := hL2.own
  refine wp_append_lies _ sx xx R y5 B E ti z S bytes hE hi hz hsz hby hzs hS0 rv n xs (y5a _ _) ho ⟨w1.heap.size, 0, none⟩ 1 1 (us x) (y5b _ _) (by simpa using (hus x).1) (World.news_of_block (heap_alloc_new w1 _)) (hus x).2.2 (by omega) (by unfold maxLen; omega) ?_ (by simp; omega) (w1.heap.size + 1) (by simp) ?_
  · calc (n + 1) * bytes ≤ (n + 1) * 1000 := Nat.mul_le_mul_left _ hb1
      _ ≤ 140737488355328 := by omega
  intro g cp wa hown hga hat hga_lt
  have hnd' : (bk ++ b2).Nodup := List.nodup_append.2 ⟨hnd, hnd2, fun p hp q hq e => by have := (hlt p hp).2; have := (hl2 q hq).1; omega⟩
  obtain ⟨hrow, hrnd, hrm⟩ := Lies.snoc (us := us x) (ds := ds x) hlx hil hd2 (hus x).2.1 hob hnd' hown hga (by simpa using hat)
  have hHrow : some H ≠ rv.ownBlock := fun e => by
    rcases hob with ⟨h0, _, _⟩ | ⟨q, hq, hbk⟩
    · rw [h0] at e; cases e
    · rw [hq] at e
      have : H = q := Option.some.inj e
      have := (hlt q (by rw [hbk]; simp)).1
      omega
  have hHa : wa.heap[H]? = w1.heap[H]? := (hga.block H (by simp; omega) hHrow).trans (Below.heap_alloc w1 _ H (by omega))
  refine list_step g6 (wp_val (y6 _ _ _ _) ?_)
  refine list_step g7 (wp_do (y7 _ _ _ _ _ ((World.cell?_of_block hHa).trans c1) ((World.frozen?_of_block hHa).trans f1)) ?_)
  have hHn : H ∉ g :: (bs' ++ b2) := fun hm => by
    rcases hrm H hm with h | h
    · rcases List.mem_append.1 h with h | h
      · have := (hlt H h).1; omega
      · have := (hl2 H h).1; omega
    · simp at h; omega
  have hga1 : w1.grownBy wa rv.ownBlock := ⟨hga.os, hga.tape, hga.output, by have := hga.size; simp at this; omega, fun i hi hr => (hga.block i (by simp; omega) hr).trans (Below.heap_alloc w1 _ i hi)⟩
  refine hfin x w1 wa g cp _ _ hX ⟨_, hga1, fun j hj => ?_⟩ (.inr ⟨w1, hgr, hga1⟩) (Lies.kept (Heap.grown_set wa ⟨H, fo, none⟩ _) hrow fun b hb e => hHn (by have : b = H := Option.some.inj e; rw [← this]; exact hb)) hrnd (fun b hb => ?_) (by have := hga1.size; omega) hHn
  · rcases hob with ⟨h0, _, _⟩ | ⟨q, hq, hbk⟩
    · rw [h0] at hj; cases hj
    · rw [hq] at hj; rw [hbk, ← Option.some.inj hj]; simp
  · rcases hrm b hb with h | h
    · rcases List.mem_append.1 h with h | h
      · exact .inl h
      · exact .inr (hl2 b h).1
    · simp at h; right; omega
end Go.Proofs.Ytelpkldlkpoioaa.Cut
/- Regions that draw their order, walked in two parts; what comes ahead in an order that is told by its numbers. No function of a program. -/
namespace Go.Proofs.Ytelpkldlkpoioaa.Cut
open Go
section
variable {P : Program} {Q : Exit → Act → World → Prop} {J : Act → World → Prop} {S : World → Prop}
/-- what comes ahead, in the order of these numbers: true: it yields its value in every world that meets S; false: it alone may come up -/
def wpMixI (P : Program) (ops : Array Oper) (Q : Exit → Act → World → Prop) (S : World → Prop) : List (Nat × Bool) → Act → World → Prop
  | [], a, w => Q .normal a w
  | (i, true) :: l, a, w => ∃ o, ops[i]? = some o ∧ Region.wanted o (yielded ops a.tmps) = true ∧ ∃ v, (∀ u, S u → (execOp a.eval o).run P u = .ok (.value v) u) ∧ wpMixI P ops Q S l (a.put o.dst v) w
  | (i, false) :: l, a, w => ∃ o, ops[i]? = some o ∧ Region.wanted o (yielded ops a.tmps) = true ∧ o.wp P a w (fun a' w' => S w' ∧ wpMixI P ops Q S l a' w') Q
def mixBI (ops : Array Oper) : List (Nat × Bool) → Array Bool → Bool
  | [], L => (Region.ready .any ops L).isEmpty
  | (k, true) :: l, L => (Region.ready .any ops L).contains k && Region.free .any ops L k && mixBI ops l (L.setIfInBounds k true)
  | (k, false) :: l, L => (Region.ready .any ops L == [k]) && mixBI ops l (L.setIfInBounds k true)
theorem any_mixI {ops : Array Oper} {D : Option Tmp → Prop} (hs : Region.noSelect ops = true) (hQ : Loose D Q) (hD : ∀ o ∈ ops.toList, D o.dst) : ∀ (l : List (Nat × Bool)) (L : Array Bool) (a : Act) (w : World), mixBI ops l L = true → S w →
    wpMixI P ops Q S l a w → wpAnyH P .any ops Q S l.length L a w
  | [], L, a, w, hB, _, h => ⟨by simpa [mixBI] using hB, h⟩
  | (k, true) :: l, L, a, w, hB, hS, h => by
    simp only [mixBI, Bool.and_eq_true] at hB
    obtain ⟨o, h0, hw, v, hv, h⟩ := h
    exact wpAnyH_take h0 hs hB.1.2 hB.1.1 (fun c a w h => hQ _ _ _ _ _ (hD o (by have := Array.mem_of_getElem? h0; simpa using this)) h) (.inl ⟨hw, hv⟩) hS (any_mixI hs hQ hD l _ _ _ hB.2 hS h)
  | (k, false) :: l, L, a, w, hB, hS, h => by
    simp only [mixBI, Bool.and_eq_true, beq_iff_eq] at hB
    obtain ⟨o, h0, hw, h⟩ := h
    refine ⟨fun h0 => by rw [h0] at hB; simp at hB, fun i hi => ?_⟩
    rw [hB.1] at hi
    obtain rfl : i = k := by simpa using hi
    have hn : ∀ a w, (S w ∧ wpMixI P ops Q S l a w) → (S w ∧ wpAnyH P .any ops Q S l.length (L.setIfInBounds i true) a w) := fun a w h => ⟨h.1, any_mixI hs hQ hD l _ a w hB.2 h.1 h.2⟩
    unfold wpOp
    rw [h0]
    simp only
    rw [if_pos hw]
    exact .inl (Oper.wp_mono hn h)
theorem mixI_take {ops : Array Oper} {i : Nat} {o : Oper} {l : List (Nat × Bool)} {a : Act} {w : World} (v : Value) (h0 : ops[i]? = some o) (hw : Region.wanted o (yielded ops a.tmps) = true) (hv : ∀ u, S u → (execOp a.eval o).run P u = .ok (.value v) u)
    (h : wpMixI P ops Q S l (a.put o.dst v) w) : wpMixI P ops Q S ((i, true) :: l) a w := ⟨o, h0, hw, v, hv, h⟩
theorem mixI_go {ops : Array Oper} {i : Nat} {o : Oper} {l : List (Nat × Bool)} {a : Act} {w : World} (h0 : ops[i]? = some o) (hw : Region.wanted o (yielded ops a.tmps) = true)
    (h : ∀ K : Act → World → Prop, Shut (∀ a w, S w → wpMixI P ops Q S l a w → K a w) → o.wp P a w K Q) : wpMixI P ops Q S ((i, false) :: l) a w :=
  ⟨o, h0, hw, h _ (fun _ _ h1 h2 => ⟨h1, h2⟩)⟩
end
/-- a guard that is met -/
theorem wanted_at {o : Oper} {ops : Array Oper} {a : Act} {g : Nat} {b : Bool} {t : Tmp} (hg : o.guard = some (g, b)) (hd : (ops[g]?).bind (·.dst) = some t) (hv : a.tmps[t]? = some (.bool b)) : Region.wanted o (yielded ops a.tmps) = true := by
  unfold Region.wanted
  rw [hg]
  simp [yielded, hd, hv]
theorem put_far {a : Act} {d : Option Tmp} {v x : Value} {t : Tmp} (hd : d ≠ some t) (h : a.tmps[t]? = some x) : (a.put d v).tmps[t]? = some x := by
  cases d with
  | none => exact h
  | some i =>
    have hi : i ≠ t := fun e => hd (by rw [e])
    show (a.tmps.setIfInBounds i v)[t]? = some x
    rw [Array.getElem?_setIfInBounds_ne hi]; exact h
/-- THE REGION: what comes ahead (l1) in the order of these numbers, what is behind (l2) a plain list -/
theorem wp_region_mixI {P : Program} {Q : Exit → Act → World → Prop} {l1 l2 : List Oper} {id : Nat} {a : Act} {w : World} (is : List (Nat × Bool)) (S : World → Prop) (hm : P.follows .mixedOrders = true)
    (hB : (ordB l1.length 0 l1 && phB l1 l2 && Region.noSelect l1.toArray && mixBI l1.toArray is (Array.replicate l1.length false) && (is.length == l1.length) && chainB (l1 ++ l2).toArray l2.length l1.length (List.replicate l1.length true ++ List.replicate l2.length false).toArray) = true)
    (hQ : Loose (fun d => d ∈ l1.map (·.dst)) Q) (hS : S { w with drawn := w.drawn + 1 })
    (h : wpMixI P l1.toArray (upTo Q (wpList P (l1 ++ l2).toArray Q l2)) S is a { w with drawn := w.drawn + 1 }) : (Code.region id (l1 ++ l2).toArray true).wp P Q a w := by
  simp only [Bool.and_eq_true, beq_iff_eq] at hB
  obtain ⟨⟨⟨⟨⟨h1, h2⟩, h3⟩, h4⟩, h5⟩, h6⟩ := hB
  refine wp_region_cut S (wpList P (l1 ++ l2).toArray Q l2) hm (by rw [h1, h2]; rfl) ?_ fun a w hJ => ?_
  · have := any_mixI (P := P) (S := S) (Q := upTo Q (wpList P (l1 ++ l2).toArray Q l2)) h3 (fun c a d v w hd h => hQ c a d v w hd h) (fun o ho => List.mem_map_of_mem (by simpa using ho)) is _ a _ h4 hS h
    rw [h5] at this
    exact this
  · exact any_list l2 l1.length _ a w (fun j => by simp [List.getElem?_append_right]) h6 hJ
end Go.Proofs.Ytelpkldlkpoioaa.Cut
/- Regions that draw their order, in two parts, where one new block may be made at any time. No function of a program. -/
namespace Go.Proofs.Ytelpkldlkpoioaa.Cut
open Go
section
variable {P : Program} {Q : Exit → Act → World → Prop} {S : World → Prop}
/-- the frame, with the new block's address in its slot if it is made -/
def withB (d : Tmp) (ex : Option Nat) (a : Act) : Act := match ex with
  | none => a
  | some H => a.put (some d) (.pointer (some ⟨H, 0, none⟩))
theorem put_swap {a : Act} {d e : Tmp} {v x : Value} (h : d ≠ e) : (a.put (some d) v).put (some e) x = (a.put (some e) x).put (some d) v := by
  simp only [Act.put, Act.mk.injEq, and_true]
  exact Array.setIfInBounds_comm _ _ h
theorem withB_put {d : Tmp} {ex : Option Nat} {a : Act} {e : Option Tmp} {v : Value} (h : e ≠ some d) : (withB d ex a).put e v = withB d ex (a.put e v) := by
  cases ex with
  | none => rfl
  | some H =>
    cases e with
    | none => rfl
    | some i => exact put_swap (fun e => h (by rw [e]))
/-- what comes ahead, in the order of these numbers, the new block made at any time -/
def wpMixF (P : Program) (ops : Array Oper) (Q : Exit → Act → World → Prop) (S : World → Prop) (d : Tmp) (o : Obj) : List (Nat × Bool) → Option Nat → Act → World → Prop
  | [], ex, a, w => match ex with
    | none => S (w.alloc o) ∧ Q .normal (withB d (some w.heap.size) a) (w.alloc o)
    | some H => Q .normal (withB d (some H) a) w
  | (i, true) :: l, ex, a, w => ∃ p, ops[i]? = some p ∧ p.dst ≠ some d ∧ Region.wanted p (yielded ops (withB d ex a).tmps) = true ∧ ∃ v, (∀ u, S u → (execOp (withB d ex a).eval p).run P u = .ok (.value v) u) ∧ wpMixF P ops Q S d o l ex (a.put p.dst v) w
  | (i, false) :: l, ex, a, w => ∃ p, ops[i]? = some p ∧ Region.wanted p (yielded ops (withB d ex a).tmps) = true ∧ p.wp P (withB d ex a) w (fun a' w' => ∃ a'', a' = withB d ex a'' ∧ S w' ∧ wpMixF P ops Q S d o l ex a'' w') Q
/-- .. of which every suffix that begins with one that may not be taken first holds before and behind the block's making -/
def wpMixA (P : Program) (ops : Array Oper) (Q : Exit → Act → World → Prop) (S : World → Prop) (d : Tmp) (o : Obj) : List (Nat × Bool) → Option Nat → Act → World → Prop
  | [], ex, a, w => match ex with
    | none => S (w.alloc o) ∧ Q .normal (withB d (some w.heap.size) a) (w.alloc o)
    | some H => Q .normal (withB d (some H) a) w
  | (i, true) :: l, ex, a, w => ∃ p, ops[i]? = some p ∧ p.dst ≠ some d ∧ Region.wanted p (yielded ops (withB d ex a).tmps) = true ∧ ∃ v, (∀ u, S u → (execOp (withB d ex a).eval p).run P u = .ok (.value v) u) ∧ wpMixA P ops Q S d o l ex (a.put p.dst v) w
  | (i, false) :: l, ex, a, w => (∃ p, ops[i]? = some p ∧ Region.wanted p (yielded ops (withB d ex a).tmps) = true ∧ p.wp P (withB d ex a) w (fun a' w' => ∃ a'', a' = withB d ex a'' ∧ S w' ∧ wpMixA P ops Q S d o l ex a'' w') Q) ∧
      (ex = none → S (w.alloc o) ∧ wpMixF P ops Q S d o ((i, false) :: l) (some w.heap.size) a (w.alloc o))
def mixBF (ops : Array Oper) (f : Nat) : List (Nat × Bool) → Bool → Array Bool → Bool
  | [], true, L => (Region.ready .any ops L).isEmpty
  | [], false, L => (Region.ready .any ops L == [f]) && (Region.ready .any ops (L.setIfInBounds f true)).isEmpty
  | (k, true) :: l, b, L => (Region.ready .any ops L).contains k && Region.free .any ops L k && mixBF ops f l b (L.setIfInBounds k true)
  | (k, false) :: l, true, L => (Region.ready .any ops L == [k]) && mixBF ops f l true (L.setIfInBounds k true)
  | (k, false) :: l, false, L => (Region.ready .any ops L == [k, f]) && mixBF ops f l false (L.setIfInBounds k true) && mixBF ops f ((k, false) :: l) true (L.setIfInBounds f true)
termination_by l b => (l.length, if b then 0 else 1)
theorem any_mixF {ops : Array Oper} {D : Option Tmp → Prop} {d : Tmp} {o : Obj} {f : Nat} (hs : Region.noSelect ops = true) (hQ : Loose D Q) (hD : ∀ o ∈ ops.toList, D o.dst) (H : Nat) : ∀ (l : List (Nat × Bool)) (L : Array Bool) (a : Act) (w : World), mixBF ops f l true L = true → S w →
    wpMixF P ops Q S d o l (some H) a w → wpAnyH P .any ops Q S l.length L (withB d (some H) a) w
  | [], L, a, w, hB, _, h => ⟨by simpa [mixBF] using hB, h⟩
  | (k, true) :: l, L, a, w, hB, hS, h => by
    simp only [mixBF, Bool.and_eq_true] at hB
    obtain ⟨p, h0, hd, hw, v, hv, h⟩ := h
    refine wpAnyH_take h0 hs hB.1.2 hB.1.1 (fun c a w h => hQ _ _ _ _ _ (hD p (by have := Array.mem_of_getElem? h0; simpa using this)) h) (.inl ⟨hw, hv⟩) hS ?_
    rw [withB_put hd]
    exact any_mixF hs hQ hD H l _ _ _ hB.2 hS h
  | (k, false) :: l, L, a, w, hB, hS, h => by
    simp only [mixBF, Bool.and_eq_true, beq_iff_eq] at hB
    obtain ⟨p, h0, hw, h⟩ := h
    refine ⟨fun h0 => by rw [h0] at hB; simp at hB, fun i hi => ?_⟩
    rw [hB.1] at hi
    obtain rfl : i = k := by simpa using hi
    have hn : ∀ a' w', (∃ a'', a' = withB d (some H) a'' ∧ S w' ∧ wpMixF P ops Q S d o l (some H) a'' w') → (S w' ∧ wpAnyH P .any ops Q S l.length (L.setIfInBounds i true) a' w') := by
      rintro a' w' ⟨a'', rfl, hS', h'⟩
      exact ⟨hS', any_mixF hs hQ hD H l _ _ _ hB.2 hS' h'⟩
    unfold wpOp
    rw [h0]
    simp only
    rw [if_pos hw]
    exact .inl (Oper.wp_mono hn h)
theorem any_mixA {ops : Array Oper} {D : Option Tmp → Prop} {d : Tmp} {o : Obj} {f : Nat} {fo : Oper} (hs : Region.noSelect ops = true) (hQ : Loose D Q) (hD : ∀ o ∈ ops.toList, D o.dst) (hf : ops[f]? = some fo) (hfg : fo.guard.isNone = true) (hfd : fo.dst = some d)
    (hy : ∀ (a' : Act) u, (execOp a'.eval fo).run P u = .ok (.value (.pointer (some ⟨u.heap.size, 0, none⟩))) (u.alloc o)) : ∀ (l : List (Nat × Bool)) (L : Array Bool) (a : Act) (w : World), mixBF ops f l false L = true → S w →
    wpMixA P ops Q S d o l none a w → wpAnyH P .any ops Q S (l.length + 1) L a w := by
  have made : ∀ (l : List (Nat × Bool)) (L : Array Bool) (a : Act) (w : World), mixBF ops f l true (L.setIfInBounds f true) = true → S (w.alloc o) → wpMixF P ops Q S d o l (some w.heap.size) a (w.alloc o) →
      wpOp P ops Q f (fun a' w' => S w' ∧ wpAnyH P .any ops Q S l.length (L.setIfInBounds f true) a' w') a w := by
    intro l L a w hB hS h
    unfold wpOp
    rw [hf]
    simp only
    rw [if_pos (want_none hfg)]
    refine .inl (wp_val (hy a w) ⟨hS, ?_⟩)
    rw [hfd]
    exact any_mixF hs hQ hD _ l _ a _ hB hS h
  intro l
  induction l with
  | nil =>
    intro L a w hB _ h
    simp only [mixBF, Bool.and_eq_true, beq_iff_eq] at hB
    refine ⟨fun h0 => by rw [h0] at hB; simp at hB, fun i hi => ?_⟩
    rw [hB.1] at hi
    obtain rfl : i = f := by simpa using hi
    exact made [] L a w (by simpa [mixBF] using hB.2) h.1 h.2
  | cons x l ih =>
    obtain ⟨k, b⟩ := x
    cases b with
    | true =>
      intro L a w hB hS h
      simp only [mixBF, Bool.and_eq_true] at hB
      obtain ⟨p, h0, hd, hw, v, hv, h⟩ := h
      exact wpAnyH_take h0 hs hB.1.2 hB.1.1 (fun c a w h => hQ _ _ _ _ _ (hD p (by have := Array.mem_of_getElem? h0; simpa using this)) h) (.inl ⟨hw, hv⟩) hS (ih _ _ _ hB.2 hS h)
    | false =>
      intro L a w hB hS h
      rw [mixBF] at hB
      simp only [Bool.and_eq_true, beq_iff_eq] at hB
      obtain ⟨⟨hB1, hB2⟩, hB3⟩ := hB
      obtain ⟨⟨p, h0, hw, hp⟩, hal⟩ := h
      refine ⟨fun h0 => by rw [h0] at hB1; simp at hB1, fun i hi => ?_⟩
      rw [hB1] at hi
      rcases List.mem_cons.1 hi with rfl | hi
      · have hn : ∀ a' w', (∃ a'', a' = withB d none a'' ∧ S w' ∧ wpMixA P ops Q S d o l none a'' w') → (S w' ∧ wpAnyH P .any ops Q S (l.length + 1) (L.setIfInBounds i true) a' w') := by
          rintro a' w' ⟨a'', rfl, hS', h'⟩
          exact ⟨hS', ih _ _ _ hB2 hS' h'⟩
        unfold wpOp
        rw [h0]
        simp only
        have hw' : Region.wanted p (yielded ops a.tmps) = true := hw
        rw [if_pos hw']
        exact .inl (Oper.wp_mono hn hp)
      · obtain rfl : i = f := by simpa using hi
        obtain ⟨hS', h'⟩ := hal rfl
        exact made ((k, false) :: l) L a w hB3 hS' h'
/-- THE REGION -/
theorem wp_region_mixF {l1 l2 : List Oper} {id : Nat} {a : Act} {w : World} (is : List (Nat × Bool)) (f : Nat) {fo : Oper} {d : Tmp} {o : Obj} (S : World → Prop) (hm : P.follows .mixedOrders = true)
    (hB : (ordB l1.length 0 l1 && phB l1 l2 && Region.noSelect l1.toArray && mixBF l1.toArray f is false (Array.replicate l1.length false) && (is.length + 1 == l1.length) && chainB (l1 ++ l2).toArray l2.length l1.length (List.replicate l1.length true ++ List.replicate l2.length false).toArray) = true)
    (hQ : Loose (fun d => d ∈ l1.map (·.dst)) Q) (hf : l1.toArray[f]? = some fo) (hfg : fo.guard.isNone = true) (hfd : fo.dst = some d)
    (hy : ∀ (a' : Act) u, (execOp a'.eval fo).run P u = .ok (.value (.pointer (some ⟨u.heap.size, 0, none⟩))) (u.alloc o)) (hS : S { w with drawn := w.drawn + 1 })
    (h : wpMixA P l1.toArray (upTo Q (wpList P (l1 ++ l2).toArray Q l2)) S d o is none a { w with drawn := w.drawn + 1 }) : (Code.region id (l1 ++ l2).toArray true).wp P Q a w := by
  simp only [Bool.and_eq_true, beq_iff_eq] at hB
  obtain ⟨⟨⟨⟨⟨h1, h2⟩, h3⟩, h4⟩, h5⟩, h6⟩ := hB
  refine wp_region_cut S (wpList P (l1 ++ l2).toArray Q l2) hm (by rw [h1, h2]; rfl) ?_ fun a w hJ => ?_
  · have := any_mixA (P := P) (S := S) (Q := upTo Q (wpList P (l1 ++ l2).toArray Q l2)) h3 (fun c a d v w hd h => hQ c a d v w hd h) (fun o ho => List.mem_map_of_mem (by simpa using ho)) hf hfg hfd hy is _ a _ h4 hS h
    rw [h5] at this
    exact this
  · exact any_list l2 l1.length _ a w (fun j => by simp [List.getElem?_append_right]) h6 hJ
end
end Go.Proofs.Ytelpkldlkpoioaa.Cut
/- A region that draws its order: x.f = append(x.f, g(..)) where the element is stored behind the append (elements of three cells): the law of the whole region, of any program. -/
namespace Go.Proofs.Ytelpkldlkpoioaa.Cut
open Go Go.RowKit Go.Proofs.Ytelpkldlkpoioaa.Heap Go.Proofs.Ytelpkldlkpoioaa.Dat

def set3 (w : World) (g q : Nat) (u0 u1 u2 : Value) : World := ((w.setCell ⟨g, q, none⟩ u0).setCell ⟨g, q + 1, none⟩ u1).setCell ⟨g, q + 2, none⟩ u2
theorem set1_comm (w : World) {g H : Nat} (h : g ≠ H) (i j : Nat) (a b : Value) : (w.setCell ⟨g, i, none⟩ a).setCell ⟨H, j, none⟩ b = (w.setCell ⟨H, j, none⟩ b).setCell ⟨g, i, none⟩ a := by
  unfold World.setCell
  simp only
  congr 1
  apply Array.ext_getElem?
  intro k
  simp only [Array.getElem?_modify]
  by_cases h1 : H = k
  · subst h1
    rw [if_pos rfl, if_neg h, if_neg h, if_pos rfl]
  · rw [if_neg h1]
    by_cases h2 : g = k
    · subst h2; rw [if_pos rfl, if_pos rfl, if_neg h1]
    · rw [if_neg h2, if_neg h2, if_neg h1]
theorem set3_comm (w : World) {g H : Nat} (h : g ≠ H) (q j : Nat) (u0 u1 u2 b : Value) : set3 (w.setCell ⟨H, j, none⟩ b) g q u0 u1 u2 = (set3 w g q u0 u1 u2).setCell ⟨H, j, none⟩ b := by
  unfold set3
  rw [← set1_comm w h, ← set1_comm _ h, ← set1_comm _ h]
theorem set3_block (w : World) {g H : Nat} (h : g ≠ H) (q : Nat) (u0 u1 u2 : Value) : (set3 w g q u0 u1 u2).heap[H]? = w.heap[H]? := by
  unfold set3
  exact (Below.heap_setCell _ _ _ _ (Ne.symm h)).trans ((Below.heap_setCell _ _ _ _ (Ne.symm h)).trans (Below.heap_setCell _ _ _ _ (Ne.symm h)))
theorem set_snoc3 (xs : List Value) (z0 z1 z2 u0 u1 u2 : Value) (q : Nat) (h : xs.length = q) : (((xs ++ [z0, z1, z2]).set q u0).set (q + 1) u1).set (q + 2) u2 = xs ++ [u0, u1, u2] := by
  subst h
  rw [List.set_append_right _ _ (Nat.le_refl _), List.set_append_right _ _ (by omega), List.set_append_right _ _ (by omega)]
  simp

def app13B (o0 o1 o2 o3 o4 o5 o6 o7 o8 o9 o10 o11 o12 : Oper) : Bool :=
  let l1 := #[o0, o1, o2, o3, o4, o5, o6, o7]
  let l := #[o0, o1, o2, o3, o4, o5, o6, o7, o8, o9, o10, o11, o12]
  let f := false
  let t := true
  let tk := fun (ops : Array Oper) (L : Array Bool) (i : Nat) => Region.free .any ops L i && (Region.ready .any ops L).contains i
  ordB 8 0 [o0, o1, o2, o3, o4, o5, o6, o7] && phB [o0, o1, o2, o3, o4, o5, o6, o7] [o8, o9, o10, o11, o12] && Region.noSelect l1 && Region.noSelect l &&
    (tk l1 #[f, f, f, f, f, f, f, f] 0 && tk l1 #[t, f, f, f, f, f, f, f] 1 && tk l1 #[t, t, f, f, f, f, f, f] 2 && tk l1 #[t, t, t, f, f, f, f, f] 3 && tk l1 #[t, t, t, t, f, f, f, f] 4 && tk l1 #[t, t, t, t, t, f, f, f] 6) &&
    (Region.ready .any l1 #[t, t, t, t, t, f, t, f] == [5, 7] && Region.ready .any l1 #[t, t, t, t, t, t, t, f] == [7] && Region.ready .any l1 #[t, t, t, t, t, f, t, t] == [5] && Region.ready .any l1 #[t, t, t, t, t, t, t, t] == []) &&
    (Region.ready .any l #[t, t, t, t, t, t, t, t, f, f, f, f, f] == [8] && tk l #[t, t, t, t, t, t, t, t, t, f, f, f, f] 9 && tk l #[t, t, t, t, t, t, t, t, t, t, f, f, f] 11) &&
    (Region.ready .any l #[t, t, t, t, t, t, t, t, t, t, f, t, f] == [10, 12] && Region.ready .any l #[t, t, t, t, t, t, t, t, t, t, t, t, f] == [12] && Region.ready .any l #[t, t, t, t, t, t, t, t, t, t, f, t, t] == [10] && Region.ready .any l #[t, t, t, t, t, t, t, t, t, t, t, t, t] == []) &&
    ([o0, o1, o2, o3, o4, o5, o6, o7, o8, o9, o10, o11, o12].all fun o => o.guard.isNone) && o10.dst.isNone && o12.dst.isNone && (o5.dst.isSome && o7.dst.isSome && o5.dst != o7.dst)
theorem held_step {P : Program} {ops : Array Oper} {Q : Exit → Act → World → Prop} {i : Nat} {o : Oper} {K : Act → World → Prop} {a : Act} {w : World} (hi : ops[i]? = some o) (hg : o.guard.isNone = true) (h : o.wp P a w K Q) : wpOp P ops Q i K a w := by
  unfold wpOp; rw [hi]; simp only; rw [if_pos (want_none hg)]; exact .inl h

theorem append13 {P : Program} {Q : Exit → Act → World → Prop} {id : Nat} {a : Act} {w : World} {o0 o1 o2 o3 o4 o5 o6 o7 o8 o9 o10 o11 o12 : Oper} {α : Type} {val : α → Value} {us : α → Value × Value × Value} {ds : α → List Dat} {X : α → World → Prop} {B H fo E n bytes R : Nat} {ti : TypeInfo} {z z0 z1 z2 : Value} {items : List Dat} {bk : List Nat} {rv v2 v3 v4 v6 : Value} {f : FuncId} {args : Array Value} {rr : Option Nat} {S2 : World → Prop} {sx xx : Operand}
    (hm : P.follows .mixedOrders = true) (hB : app13B o0 o1 o2 o3 o4 o5 o6 o7 o8 o9 o10 o11 o12 = true) (hQ : Loose (fun _ => True) Q)
    (hcell : w.cell? ⟨H, fo, none⟩ = some rv) (hfro : w.frozen? ⟨H, fo, none⟩ = false) (hL : Lies w B (.row E 3 n items) rv bk) (hnd : bk.Nodup) (hHB : H < B) (hBw : B ≤ w.heap.size)
    (hE : P.underlying R = some (.slice E)) (hi' : P.info? E = some ti) (hz : ti.zero = some z) (hsz : ti.size = 3) (hby : ti.bytes = bytes) (hzs : z.cells.size = 3) (hn : n ≤ 1000000) (hb1 : bytes ≤ 1000) (hz1 : ∀ u ∈ [z0, z1, z2], u.oneCell' = true)
    (hus : ∀ x, (ds x).length = 3)
    (A0 : Act) (hA0 : A0 = a.put o0.dst (.pointer (some ⟨H, fo, none⟩))) (A1 : Act) (hA1 : A1 = A0.put o1.dst rv) (A2 : Act) (hA2 : A2 = A1.put o2.dst v2) (A3 : Act) (hA3 : A3 = A2.put o3.dst v3) (A4 : Act) (hA4 : A4 = A3.put o4.dst v4) (A6 : Act) (hA6 : A6 = A4.put o6.dst v6)
    (y0 : ∀ u, (execOp a.eval o0).run P u = .ok (.value (.pointer (some ⟨H, fo, none⟩))) u)
    (y1 : ∀ u, u.cell? ⟨H, fo, none⟩ = some rv → (execOp A0.eval o1).run P u = .ok (.value rv) u)
    (hS2 : S2 w.drew) (hS2n : ∀ u o, S2 u → S2 (u.alloc o)) (hXn : ∀ x u o, X x u → X x (u.alloc o))
    (y2 : ∀ u, S2 u → (execOp A1.eval o2).run P u = .ok (.value v2) u)
    (y3 : ∀ u, S2 u → (execOp A2.eval o3).run P u = .ok (.value v3) u)
    (y4 : ∀ u, (execOp A3.eval o4).run P u = .ok (.value v4) u)
    (y6 : ∀ u, (execOp A4.eval o6).run P u = .ok (.value v6) u)
    (y5 : ∀ v7 u, (execOp (A6.put o7.dst v7).eval o5).run P u = .ok (.enter f args) u) (y5' : ∀ u, (execOp A6.eval o5).run P u = .ok (.enter f args) u)
    (hc : ∀ w0, w0 = w.drew ∨ w0 = w.drew.alloc (.cells #[z0, z1, z2] E) → Calls P f args w0 fun e w1 => (∃ c, e = .panicked c ∧ Q (.panic c) A6 w1 ∧ ∀ v7, Q (.panic c) (A6.put o7.dst v7) w1) ∨ ∃ x b2, e = .returned (val x) ∧ X x w1 ∧ S2 w1 ∧ Came w0 w1 B H rr [(us x).1, (us x).2.1, (us x).2.2] (ds x) b2)
    (y7 : ∀ (a' : Act) u, (execOp a'.eval o7).run P u = .ok (.value (.slice (some ⟨u.heap.size, 0, none⟩) 1 1)) (u.alloc (.cells #[z0, z1, z2] E)))
    (y8 : o8.op = .call { callee := .builtin .append, args := #[sx, xx], argTypes := #[R, R] })
    (y8a : ∀ x v7, ((A6.put o5.dst (val x)).put o7.dst v7).eval sx = rv)
    (y8b : ∀ x v7, ((A6.put o5.dst (val x)).put o7.dst v7).eval xx = v7)
    (y9 : ∀ x v7 g cp u, (execOp ((((A6.put o5.dst (val x)).put o7.dst v7).put o8.dst (.slice (some ⟨g, 0, none⟩) (n + 1) cp)).eval) o9).run P u = .ok (.value (.pointer (some ⟨g, n * 3, none⟩))) u)
    (y11 : ∀ x v7 g cp u, (execOp (((((A6.put o5.dst (val x)).put o7.dst v7).put o8.dst (.slice (some ⟨g, 0, none⟩) (n + 1) cp)).put o9.dst (.pointer (some ⟨g, n * 3, none⟩))).eval) o11).run P u = .ok (.value (.pointer (some ⟨H, fo, none⟩))) u)
    (y10 : ∀ x v7 g cp u, (∃ c0 c1 c2, u.cell? ⟨g, n * 3, none⟩ = some c0 ∧ u.cell? ⟨g, n * 3 + 1, none⟩ = some c1 ∧ u.cell? ⟨g, n * 3 + 2, none⟩ = some c2) → (u.frozen? ⟨g, n * 3, none⟩ = false ∧ u.frozen? ⟨g, n * 3 + 1, none⟩ = false ∧ u.frozen? ⟨g, n * 3 + 2, none⟩ = false) → (execOp ((((((A6.put o5.dst (val x)).put o7.dst v7).put o8.dst (.slice (some ⟨g, 0, none⟩) (n + 1) cp)).put o9.dst (.pointer (some ⟨g, n * 3, none⟩))).put o11.dst (.pointer (some ⟨H, fo, none⟩))).eval) o10).run P u = .ok .skip (set3 u g (n * 3) (us x).1 (us x).2.1 (us x).2.2))
    (y12 : ∀ x v7 g cp u, u.cell? ⟨H, fo, none⟩ = some rv → u.frozen? ⟨H, fo, none⟩ = false → (execOp ((((((A6.put o5.dst (val x)).put o7.dst v7).put o8.dst (.slice (some ⟨g, 0, none⟩) (n + 1) cp)).put o9.dst (.pointer (some ⟨g, n * 3, none⟩))).put o11.dst (.pointer (some ⟨H, fo, none⟩))).eval) o12).run P u = .ok .skip (u.setCell ⟨H, fo, none⟩ (.slice (some ⟨g, 0, none⟩) (n + 1) cp)))
    (hfin : ∀ x w0 w1 wa g cp bk' v7, X x w1 → (∃ r, w1.grownBy wa r ∧ ∀ j, r = some j → j ∈ bk) → (w.grownBy w0 none ∧ w0.grownBy w1 rr) → Lies (wa.setCell ⟨H, fo, none⟩ (.slice (some ⟨g, 0, none⟩) (n + 1) cp)) B (.row E 3 (n + 1) (items ++ ds x)) (.slice (some ⟨g, 0, none⟩) (n + 1) cp) bk' → bk'.Nodup → (∀ b ∈ bk', b ∈ bk ∨ w.heap.size ≤ b) → w.heap.size ≤ wa.heap.size → H ∉ bk' →
      Q .normal (((((A6.put o5.dst (val x)).put o7.dst v7).put o8.dst (.slice (some ⟨g, 0, none⟩) (n + 1) cp)).put o9.dst (.pointer (some ⟨g, n * 3, none⟩))).put o11.dst (.pointer (some ⟨H, fo, none⟩))) (wa.setCell ⟨H, fo, none⟩ (.slice (some ⟨g, 0, none⟩) (n + 1) cp))) :
    (Code.region id #[o0, o1, o2, o3, o4, o5, o6, o7, o8, o9, o10, o11, o12] true).wp P Q a w := by
  unfold app13B at hB
  simp only [Bool.and_eq_true, List.all_cons, List.all_nil, Bool.and_true, beq_iff_eq, bne_iff_ne, ne_eq] at hB
  obtain ⟨⟨⟨⟨⟨⟨⟨⟨⟨⟨⟨hB1, hB2⟩, hB3⟩, hB3'⟩, ⟨⟨⟨⟨⟨t0, t1⟩, t2⟩, t3⟩, t4⟩, t6⟩⟩, ⟨⟨⟨r57, r7⟩, r5⟩, r0⟩⟩, ⟨⟨r8, t9⟩, t11⟩⟩, ⟨⟨⟨ra, rb⟩, rc⟩, rd⟩⟩, g0, g1, g2, g3, g4, g5, g6, g7, g8, g9, g10, g11, g12⟩, d10⟩, d12⟩, ⟨⟨d5, d7⟩, d57⟩⟩ := hB
  have hlt := Lies.lt hL
  have dis : ∀ d, o5.dst = some d → o7.dst ≠ some d := fun d e e' => d57 (e.trans e'.symm)
  have n10 : o10.dst = none := by simpa using d10
  have n12 : o12.dst = none := by simpa using d12
  refine wp_region_cut (l1 := [o0, o1, o2, o3, o4, o5, o6, o7]) (l2 := [o8, o9, o10, o11, o12]) (fun u => u.cell? ⟨H, fo, none⟩ = some rv ∧ S2 u)
    (fun a' w' => ∃ x w0 za b2, a' = (A6.put o5.dst (val x)).put o7.dst (.slice (some ⟨za, 0, none⟩) 1 1) ∧ X x w' ∧ w.grownBy w0 none ∧ w0.grownBy w' rr ∧ (∀ j, rr = some j → j < B ∧ j ≠ H) ∧ w'.heap[za]? = some (.cells #[z0, z1, z2] E (0, 0)) ∧ LiesL w' w.heap.size (ds x) [(us x).1, (us x).2.1, (us x).2.2] b2 ∧ b2.Nodup ∧ za < w'.heap.size) hm (by simp only [Bool.and_eq_true]; exact ⟨hB1, hB2⟩) ?_ ?_
  · -- what comes ahead
    have hS0 : (w.drew.cell? ⟨H, fo, none⟩ = some rv ∧ S2 w.drew) := ⟨by exact hcell, hS2⟩
    have hQu : ∀ (J : Act → World → Prop) (d : Option Tmp) (v : Value) c (a : Act) w, upTo Q J (.panic c) (a.put d v) w → upTo Q J (.panic c) a w := fun J d v c a w h => hQ c a d v w trivial h
    show wpAnyH P .any _ _ _ 8 #[false, false, false, false, false, false, false, false] a w.drew
    refine wpAnyH_take (i := 0) (oi := o0) rfl hB3 t0.1 t0.2 (hQu _ _ _) (.inl ⟨want_none g0, fun u _ => y0 u⟩) hS0 ?_
    rw [← hA0]
    refine wpAnyH_take (i := 1) (oi := o1) rfl hB3 t1.1 t1.2 (hQu _ _ _) (.inl ⟨want_none g1, fun u hu => y1 u hu.1⟩) hS0 ?_
    rw [← hA1]
    refine wpAnyH_take (i := 2) (oi := o2) rfl hB3 t2.1 t2.2 (hQu _ _ _) (.inl ⟨want_none g2, fun u hu => y2 u hu.2⟩) hS0 ?_
    rw [← hA2]
    refine wpAnyH_take (i := 3) (oi := o3) rfl hB3 t3.1 t3.2 (hQu _ _ _) (.inl ⟨want_none g3, fun u hu => y3 u hu.2⟩) hS0 ?_
    rw [← hA3]
    refine wpAnyH_take (i := 4) (oi := o4) rfl hB3 t4.1 t4.2 (hQu _ _ _) (.inl ⟨want_none g4, fun u hu => y4 u⟩) hS0 ?_
    rw [← hA4]
    refine wpAnyH_take (i := 6) (oi := o6) rfl hB3 t6.1 t6.2 (hQu _ _ _) (.inl ⟨want_none g6, fun u hu => y6 u⟩) hS0 ?_
    rw [← hA6]
    refine wpAnyH_all (rs := [5, 7]) r57 (by simp) ?_
    intro i hi
    rcases List.mem_cons.1 hi with rfl | hi
    · -- the call, then the element
      refine held_step (o := o5) rfl g5 (wp_go (y5' _) ((hc _ (.inl rfl)).mono ?_))
      rintro e w1 (⟨c, rfl, hc, _⟩ | ⟨x, b2, rfl, hX, hS2', hcame⟩)
      · exact hc
      obtain ⟨hlies, hnd2, hgr, hfar⟩ := hcame
      have hH1 : w1.heap[H]? = w.heap[H]? := hgr.block H (by show H < w.heap.size; omega) (fun e => (hfar H e.symm).2 rfl)
      have c1 : w1.cell? ⟨H, fo, none⟩ = some rv := (World.cell?_of_block hH1).trans hcell
      have hsz1 : w.heap.size ≤ w1.heap.size := hgr.size
      refine ⟨⟨c1, hS2'⟩, wpAnyH_all (rs := [7]) r7 (by simp) fun i hi => ?_⟩
      obtain rfl : i = 7 := by simpa using hi
      refine held_step (o := o7) rfl g7 (wp_val (y7 _ w1) ?_)
      refine ⟨⟨(World.cell?_alloc_past _ _ _ (by show H < w1.heap.size; omega)).trans c1, hS2n _ _ hS2'⟩, wpAnyH_done r0 ?_ _⟩
      exact ⟨x, w.drew, w1.heap.size, b2, rfl, hXn _ _ _ hX, grown_below ((Below.refl _ w).drew) none, ⟨hgr.os, hgr.tape, hgr.output, by have := hgr.size; simp at this ⊢; omega, fun i hi hr => (Below.heap_alloc w1 _ i (by have := hgr.size; omega)).trans (hgr.block i hi hr)⟩, hfar, heap_alloc_new w1 _, LiesL.below (B' := w1.heap.size) ((Below.refl _ w1).alloc (Nat.le_refl _) _) hlies (fun b hb => (LiesL.lt hlies b hb).2), hnd2, by simp⟩
    · -- the element, then the call
      obtain rfl : i = 7 := by simpa using hi
      refine held_step (o := o7) rfl g7 (wp_val (y7 _ _) ?_)
      refine ⟨⟨(World.cell?_alloc_past _ _ _ (by show H < w.heap.size; omega)).trans hcell, hS2n _ _ hS2⟩, wpAnyH_all (rs := [5]) r5 (by simp) fun i hi => ?_⟩
      obtain rfl : i = 5 := by simpa using hi
      refine held_step (o := o5) rfl g5 (wp_go (y5 _ _) ((hc _ (.inr rfl)).mono ?_))
      rintro e w1 (⟨c, rfl, _, hc⟩ | ⟨x, b2, rfl, hX, hS2', hcame⟩)
      · exact hc _
      obtain ⟨hlies, hnd2, hgr, hfar⟩ := hcame
      have hsz1 : w.heap.size + 1 ≤ w1.heap.size := by have := hgr.size; simpa using this
      have hH1 : w1.heap[H]? = w.heap[H]? := (hgr.block H (by simp; omega) (fun e => (hfar H e.symm).2 rfl)).trans (Below.heap_alloc w.drew _ H (by show H < w.heap.size; omega))
      have c1 : w1.cell? ⟨H, fo, none⟩ = some rv := (World.cell?_of_block hH1).trans hcell
      refine ⟨⟨c1, hS2'⟩, wpAnyH_done r0 ?_ _⟩
      refine ⟨x, w.drew.alloc (.cells #[z0, z1, z2] E), w.heap.size, b2, ?_, hX, grown_below (((Below.refl _ w).drew).alloc (Nat.le_refl _) _) none, hgr, hfar, ?_, LiesL.base (by simp) hlies, hnd2, by omega⟩
      · exact (Act.put_comm A6 (val x) _ dis).symm
      · exact (hgr.block w.heap.size (by simp) (fun e => by have := (hfar _ e.symm).1; omega)).trans (heap_alloc_new w.drew _)
  · -- what is behind
    rintro a' w1 ⟨x, w0, za, b2, rfl, hX, hg0, hg1, hfar, hza, hlies, hnd2, hzl⟩
    have s0 := hg0.size; have s1 := hg1.size
    have hHr : some H ≠ rr := fun e => (hfar H e.symm).2 rfl
    have hH1 : w1.heap[H]? = w.heap[H]? := (hg1.block H (by omega) hHr).trans (hg0.block H (by omega) (by simp))
    have c1 : w1.cell? ⟨H, fo, none⟩ = some rv := (World.cell?_of_block hH1).trans hcell
    have f1 : w1.frozen? ⟨H, fo, none⟩ = false := (World.frozen?_of_block hH1).trans hfro
    have hL0 : Lies w0 B (.row E 3 n items) rv bk := Lies.kept hg0 hL fun b hb e => by cases e
    have hL1 : Lies w1 B (.row E 3 n items) rv bk := Lies.kept hg1 hL0 fun b hb e => by have := (hfar b e.symm).1; have := (hlt b hb).1; omega
    have hd1 : LiesL w1 B (ds x) [(us x).1, (us x).2.1, (us x).2.2] b2 := LiesL.base hBw hlies
    have hl2 : ∀ b ∈ b2, w.heap.size ≤ b ∧ b < w1.heap.size := fun b hb => LiesL.lt hlies b hb
    obtain ⟨xs, bs', ho, hlx, hob, hil⟩ := hL1.own
    have hHrow : some H ≠ rv.ownBlock := fun e => by
      rcases hob with ⟨h0, _, _⟩ | ⟨q, hq, hbk⟩
      · rw [h0] at e; cases e
      · rw [hq] at e
        have : H = q := Option.some.inj e
        have := (hlt q (by rw [hbk]; simp)).1
        omega
    have lx : xs.length = n * 3 := ho.1
    show wpAny P .any _ _ 5 #[true, true, true, true, true, true, true, true, false, false, false, false, false] _ _
    refine wpAny_all (rs := [8]) r8 (by simp) fun i hi => ?_
    obtain rfl : i = 8 := by simpa using hi
    refine held_step (o := o8) rfl g8 ?_
    refine wp_append_lies w1 sx xx R y8 B E ti z 3 bytes hE hi' hz hsz hby hzs (by omega) rv n xs (y8a _ _) ho ⟨za, 0, none⟩ 1 1 [z0, z1, z2] (y8b _ _) (by rfl) (World.news_of_block hza) hz1 (by omega) (by unfold maxLen; omega) ?_ (by omega) w1.heap.size rfl ?_
    · calc (n + 1) * bytes ≤ (n + 1) * 1000 := Nat.mul_le_mul_left _ hb1
        _ ≤ 140737488355328 := by omega
    intro g cp wa hown hga hat hga_lt
    have hHa : wa.heap[H]? = w1.heap[H]? := hga.block H (by omega) hHrow
    have hBg : B ≤ g := (own_lt hown).1
    have hgH : g ≠ H := by omega
    have ca : wa.cell? ⟨H, fo, none⟩ = some rv := (World.cell?_of_block hHa).trans c1
    have fa : wa.frozen? ⟨H, fo, none⟩ = false := (World.frozen?_of_block hHa).trans f1
    have k0 : wa.cell? ⟨g, n * 3, none⟩ = some z0 := by rw [hown.cellAt (n * 3) (by omega), List.getElem?_append_right (by omega), lx]; simp
    have k1 : wa.cell? ⟨g, n * 3 + 1, none⟩ = some z1 := by rw [hown.cellAt (n * 3 + 1) (by omega), List.getElem?_append_right (by omega), lx]; simp
    have k2 : wa.cell? ⟨g, n * 3 + 2, none⟩ = some z2 := by rw [hown.cellAt (n * 3 + 2) (by omega), List.getElem?_append_right (by omega), lx]; simp
    have q0 := hown.frozenAt (n * 3); have q1 := hown.frozenAt (n * 3 + 1); have q2 := hown.frozenAt (n * 3 + 2)
    have hset : wa.grownBy (set3 wa g (n * 3) (us x).1 (us x).2.1 (us x).2.2) (some g) := grown_trans (grown_trans (grown_set wa ⟨g, n * 3, none⟩ _) (grown_set _ ⟨g, n * 3 + 1, none⟩ _)) (grown_set _ ⟨g, n * 3 + 2, none⟩ _)
    have hg5 : w1.grownBy (set3 wa g (n * 3) (us x).1 (us x).2.1 (us x).2.2) rv.ownBlock := by
      rcases hat with h | h
      · rw [h] at hga ⊢; exact grown_trans hga hset
      · exact grown_new hga hset (by omega)
    have ho5 := (((hown.stored (n * 3) (us x).1).1).stored (n * 3 + 1) (us x).2.1).1.stored (n * 3 + 2) (us x).2.2 |>.1
    rw [set_snoc3 xs z0 z1 z2 _ _ _ _ lx] at ho5
    have hnd' : (bk ++ b2).Nodup := List.nodup_append.2 ⟨hnd, hnd2, fun p hp q hq e => by have := (hlt p hp).2; have := (hl2 q hq).1; omega⟩
    obtain ⟨hrow, hrnd, hrm⟩ := Lies.snoc (us := [(us x).1, (us x).2.1, (us x).2.2]) (ds := ds x) hlx hil hd1 (hus x) hob hnd' ho5 hg5 hat
    have hHn : H ∉ g :: (bs' ++ b2) := fun hm => by
      rcases hrm H hm with h | h
      · rcases List.mem_append.1 h with h | h
        · have := (hlt H h).1; omega
        · have := (hl2 H h).1; omega
      · omega
    have hend : Q .normal (((((A6.put o5.dst (val x)).put o7.dst (.slice (some ⟨za, 0, none⟩) 1 1)).put o8.dst (.slice (some ⟨g, 0, none⟩) (n + 1) cp)).put o9.dst (.pointer (some ⟨g, n * 3, none⟩))).put o11.dst (.pointer (some ⟨H, fo, none⟩))) ((set3 wa g (n * 3) (us x).1 (us x).2.1 (us x).2.2).setCell ⟨H, fo, none⟩ (.slice (some ⟨g, 0, none⟩) (n + 1) cp)) := by
      refine hfin x w0 w1 _ g cp _ _ hX ⟨_, hg5, fun j hj => ?_⟩ ⟨hg0, hg1⟩ (Lies.kept (Heap.grown_set _ ⟨H, fo, none⟩ _) hrow fun b hb e => hHn (by have : b = H := Option.some.inj e; rw [← this]; exact hb)) hrnd (fun b hb => ?_) (by have := hg5.size; omega) hHn
      · rcases hob with ⟨h0, _, _⟩ | ⟨q, hq, hbk⟩
        · rw [h0] at hj; cases hj
        · rw [hq] at hj; rw [hbk, ← Option.some.inj hj]; simp
      · rcases hrm b hb with h | h
        · rcases List.mem_append.1 h with h | h
          · exact .inl h
          · exact .inr (hl2 b h).1
        · right; omega
    refine wpAny_take (i := 9) (oi := o9) rfl hB3' t9.1 t9.2 (fun c a w h => hQ c a _ _ w trivial h) (.inl ⟨want_none g9, fun u => y9 _ _ _ _ u⟩) ?_
    refine wpAny_take (i := 11) (oi := o11) rfl hB3' t11.1 t11.2 (fun c a w h => hQ c a _ _ w trivial h) (.inl ⟨want_none g11, fun u => y11 _ _ _ _ u⟩) ?_
    refine wpAny_all (rs := [10, 12]) ra (by simp) ?_
    intro i hi
    rcases List.mem_cons.1 hi with rfl | hi
    · refine held_step (o := o10) rfl g10 (wp_do (y10 _ _ _ _ _ ⟨_, _, _, k0, k1, k2⟩ ⟨q0, q1, q2⟩) ?_)
      rw [n10]
      refine wpAny_all (rs := [12]) rb (by simp) fun i hi => ?_
      obtain rfl : i = 12 := by simpa using hi
      have hb' := set3_block wa hgH (n * 3) (us x).1 (us x).2.1 (us x).2.2
      refine held_step (o := o12) rfl g12 (wp_do (y12 _ _ _ _ _ ((World.cell?_of_block hb').trans ca) ((World.frozen?_of_block hb').trans fa)) ?_)
      rw [n12]
      exact wpAny_done rd hend _
    · obtain rfl : i = 12 := by simpa using hi
      refine held_step (o := o12) rfl g12 (wp_do (y12 _ _ _ _ _ ca fa) ?_)
      rw [n12]
      refine wpAny_all (rs := [10]) rc (by simp) fun i hi => ?_
      obtain rfl : i = 10 := by simpa using hi
      have hb' : ∀ v, (wa.setCell ⟨H, fo, none⟩ v).heap[g]? = wa.heap[g]? := fun v => Below.heap_setCell _ _ _ _ hgH
      refine held_step (o := o10) rfl g10 (wp_do (y10 _ _ _ _ _ ⟨_, _, _, (World.cell?_of_block (hb' _)).trans k0, (World.cell?_of_block (hb' _)).trans k1, (World.cell?_of_block (hb' _)).trans k2⟩ ⟨(World.frozen?_of_block (hb' _)).trans q0, (World.frozen?_of_block (hb' _)).trans q1, (World.frozen?_of_block (hb' _)).trans q2⟩) ?_)
      rw [n10, set3_comm _ hgH]
      exact wpAny_done rd hend _
end Go.Proofs.Ytelpkldlkpoioaa.Cut
