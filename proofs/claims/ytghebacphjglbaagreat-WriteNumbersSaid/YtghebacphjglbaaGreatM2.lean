/- Regions that draw their order, walked in two parts: what comes ahead, held by a condition on the world; what waits for all of that, one behind the other. No function of a program. -/
import Derived.OrdersHeld
import Derived.Still
import Derived.Deep.RegionHeld3
import Derived.Test.YtghebacphjglbaaGreatM1
import Derived.Deep.AppendLies
import Derived.Maps.AppendAt
namespace Go.Proofs.YtghebacphjglbaaGreat.Cut
open Go

section
variable {P : Program} {Q : Exit → Act → World → Prop} {J : Act → World → Prop} {S : World → Prop}

/-- Q, but J where all has come up -/
def upTo (Q : Exit → Act → World → Prop) (J : Act → World → Prop) : Exit → Act → World → Prop
  | .normal, a, w => J a w
  | .exit i, a, w => Q (.exit i) a w
  | .goto i, a, w => Q (.goto i) a w
  | .panic c, a, w => Q (.panic c) a w
  | .outgrown, a, w => Q .outgrown a w
  | e, a, w => Q e a w

theorem wp_upTo {o : Oper} {a : Act} {w : World} {K K' : Act → World → Prop} (h : ∀ a w, K a w → K' a w) (hh : o.wp P a w K (upTo Q J)) : o.wp P a w K' Q := by
  unfold Oper.wp at *
  generalize (execOp a.eval o).run P w = r at *
  cases r with
  | ok n w' =>
    cases n <;> simp only [Oper.upon] at hh ⊢ <;>
      first
        | exact h _ _ hh
        | exact Calls.mono hh (fun e w'' he => by cases e <;> first | exact h _ _ he | exact he)
        | exact Rows.mono hh (fun _ _ he => h _ _ he)
  | halt x w' => cases x <;> simp only [Oper.upon] at hh ⊢ <;> exact hh

/-- what comes ahead hangs on what is ahead of it -/
def ordB : Nat → Nat → List Oper → Bool
  | _, _, [] => true
  | k, i, o :: l => (o.after.all fun e => !Region.binds .any e || decide (e.on < i)) && (match o.guard with | none => true | some g => decide (g.1 < k)) && ordB k (i + 1) l
/-- an operation waits for that one, through others of these -/
def reachB (l1 : List Oper) : Nat → Oper → Nat → Bool
  | 0, _, _ => false
  | n + 1, o, j => o.after.any fun e => Region.binds .any e && (e.on == j || (match l1[e.on]? with | some x => reachB l1 n x j | none => false))
/-- what is behind waits for all that comes ahead -/
def phB (l1 l : List Oper) : Bool := l.all fun o => (List.range l1.length).all fun j => reachB l1 (l1.length + 1) o j

theorem ordB_spec {k : Nat} : ∀ {l : List Oper} {i j : Nat} {o : Oper}, ordB k i l = true → l[j]? = some o → (∀ e ∈ o.after, Region.binds .any e = true → e.on < i + j) ∧ (∀ g b, o.guard = some (g, b) → g < k)
  | [], i, j, o, _, h => by simp at h
  | x :: l, i, 0, o, hb, h => by
    obtain rfl : x = o := by simpa using h
    simp only [ordB, Bool.and_eq_true] at hb
    refine ⟨fun e he hbd => ?_, fun g b hg => ?_⟩
    · have := Array.all_eq_true_iff_forall_mem.1 hb.1.1 e he
      simpa [hbd] using this
    · have := hb.1.2
      rw [hg] at this
      simpa using this
  | x :: l, i, j + 1, o, hb, h => by
    simp only [ordB, Bool.and_eq_true] at hb
    have := ordB_spec (j := j) hb.2 (by simpa using h)
    refine ⟨fun e he hbd => ?_, this.2⟩
    have := this.1 e he hbd
    omega
/-- what is listed has all listed that it waits for -/
def Closed (l1 : List Oper) (L : List Bool) : Prop := ∀ (i : Nat) (o : Oper), l1[i]? = some o → L[i]? = some true → ∀ e ∈ o.after, Region.binds .any e = true → L[e.on]? = some true
theorem reachB_spec {l1 : List Oper} {L : List Bool} (hc : Closed l1 L) {j : Nat} : ∀ (n : Nat) (o : Oper), reachB l1 n o j = true → (∀ e ∈ o.after, Region.binds .any e = true → e.on < l1.length → L[e.on]? = some true) → j < l1.length → L[j]? = some true
  | 0, _, h, _, _ => by simp [reachB] at h
  | n + 1, o, h, ha, hj => by
    rw [reachB] at h
    obtain ⟨i, hi, he⟩ := Array.any_eq_true.1 h
    simp only [Bool.and_eq_true, Bool.or_eq_true, beq_iff_eq] at he
    obtain ⟨hb, he⟩ := he
    rcases he with he | he
    · rw [← he]; exact ha _ (Array.getElem_mem hi) hb (by omega)
    · split at he
      · rename_i x hx
        have hlt : (o.after[i]).on < l1.length := (List.getElem?_eq_some_iff.1 hx).1
        exact reachB_spec hc n x he (fun e he' hb' _ => hc _ x hx (ha _ (Array.getElem_mem hi) hb hlt) e he' hb') hj
      · cases he
theorem phB_spec {l1 l : List Oper} {o : Oper} (h : phB l1 l = true) (ho : o ∈ l) {j : Nat} (hj : j < l1.length) : reachB l1 (l1.length + 1) o j = true :=
  List.all_eq_true.1 (List.all_eq_true.1 h o ho) j (List.mem_range.2 hj)

theorem yielded_cut {l1 l2 : List Oper} {t : Array Value} {g : Nat} (h : g < l1.length) : yielded l1.toArray t g = yielded (l1 ++ l2).toArray t g := by
  unfold yielded
  have : (l1.toArray)[g]? = ((l1 ++ l2).toArray)[g]? := by simp [List.getElem?_append_left h]
  rw [this]
theorem wanted_cut {l1 l2 : List Oper} {t : Array Value} {o : Oper} (h : ∀ g b, o.guard = some (g, b) → g < l1.length) : Region.wanted o (yielded l1.toArray t) = Region.wanted o (yielded (l1 ++ l2).toArray t) := by
  unfold Region.wanted
  cases hg : o.guard with
  | none => rfl
  | some gw => obtain ⟨g, b⟩ := gw; simp only [yielded_cut (l2 := l2) (h g b hg)]

theorem wpOp_cut {l1 l2 : List Oper} {i : Nat} {K K' : Act → World → Prop} {a : Act} {w : World} (h1 : ordB l1.length 0 l1 = true) (hi : i < l1.length) (hK : ∀ a w, K a w → K' a w)
    (h : wpOp P l1.toArray (upTo Q J) i K a w) : wpOp P (l1 ++ l2).toArray Q i K' a w := by
  unfold wpOp at *
  obtain ⟨o, ho⟩ : ∃ o, l1[i]? = some o := ⟨l1[i], List.getElem?_eq_getElem hi⟩
  have e1 : (l1.toArray)[i]? = some o := by simpa using ho
  have e2 : ((l1 ++ l2).toArray)[i]? = some o := by simp [List.getElem?_append_left hi, ho]
  rw [e1] at h
  rw [e2]
  simp only at h ⊢
  rw [← wanted_cut (l2 := l2) (ordB_spec h1 ho).2]
  split
  · rename_i hw
    rw [if_pos hw] at h
    rcases h with h | ⟨h, a', w', h'⟩
    · exact .inl (wp_upTo hK h)
    · exact .inr ⟨h, a', w', h'⟩
  · rename_i hw
    rw [if_neg hw] at h
    exact hK _ _ h

theorem first_false : ∀ (L : List Bool) (n : Nat), L.count false = n + 1 → ∃ i, i < L.length ∧ L[i]? = some false ∧ ∀ j, j < i → L[j]? = some true
  | [], n, h => by simp at h
  | false :: L, n, _ => ⟨0, by simp, by simp, fun j hj => by omega⟩
  | true :: L, n, h => by
    obtain ⟨i, h1, h2, h3⟩ := first_false L n (by simpa using h)
    refine ⟨i + 1, by simpa using h1, by simpa using h2, fun j hj => ?_⟩
    cases j with
    | zero => simp
    | succ j => simpa using h3 j (by omega)
theorem count_zero : ∀ (L : List Bool), L.count false = 0 → L = List.replicate L.length true
  | [], _ => rfl
  | true :: L, h => by rw [List.length_cons, List.replicate_succ, ← count_zero L (by simpa using h)]
  | false :: L, h => by simp at h

theorem any_cut {l1 l2 : List Oper} (h1 : ordB l1.length 0 l1 = true) (h2 : phB l1 l2 = true)
    (hJ : ∀ a w, J a w → wpAny P .any (l1 ++ l2).toArray Q l2.length (List.replicate l1.length true ++ List.replicate l2.length false).toArray a w) :
    ∀ (fuel : Nat) (L : List Bool) (a : Act) (w : World), L.length = l1.length → L.count false = fuel → Closed l1 L → wpAnyH P .any l1.toArray (upTo Q J) S fuel L.toArray a w →
      wpAny P .any (l1 ++ l2).toArray Q (fuel + l2.length) (L ++ List.replicate l2.length false).toArray a w := by
  intro fuel
  induction fuel with
  | zero =>
    intro L a w hL hc _ h
    rw [count_zero L hc, hL, Nat.zero_add]
    exact hJ a w h.2
  | succ fuel ih =>
    intro L a w hL hc hcl h
    obtain ⟨i0, hi0, hf0, hlt0⟩ := first_false L fuel hc
    have get1 : ∀ j, j < l1.length → (L ++ List.replicate l2.length false)[j]? = L[j]? := fun j hj => List.getElem?_append_left (by omega)
    have hgd : ∀ j d, j < l1.length → (L ++ List.replicate l2.length false).toArray.getD j d = L.toArray.getD j d := fun j d hj => by
      simp only [Array.getD_eq_getD_getElem?, List.getElem?_toArray, get1 j hj]
    have key : ∀ i, i ∈ Region.ready .any (l1 ++ l2).toArray (L ++ List.replicate l2.length false).toArray → i < l1.length ∧ i ∈ Region.ready .any l1.toArray L.toArray := by
      intro i hi
      obtain ⟨hun, o, ho, hall⟩ := mem_ready.1 hi
      have hik : i < l1.length := by
        rcases Nat.lt_or_ge i l1.length with h | h
        · exact h
        · exfalso
          have ho' : (l1 ++ l2)[i]? = some o := by simpa using ho
          rw [List.getElem?_append_right h] at ho'
          have := reachB_spec hcl _ o (phB_spec h2 (List.mem_of_getElem? ho') (show i0 < l1.length by omega)) (fun e he hb hlt => by
            have := hall e he hb
            rw [hgd e.on false hlt] at this
            have hlt' : e.on < L.length := by omega
            simpa [Array.getD_eq_getD_getElem?, hlt'] using this) (by omega)
          rw [hf0] at this
          cases this
      have ho1 : l1[i]? = some o := by
        have ho' : (l1 ++ l2)[i]? = some o := by simpa using ho
        rwa [List.getElem?_append_left hik] at ho'
      refine ⟨hik, mem_ready.2 ⟨by rw [← hgd i true hik]; exact hun, o, by simpa using ho1, fun e he hb => ?_⟩⟩
      have hlt := (ordB_spec h1 ho1).1 e he hb
      rw [← hgd e.on false (by omega)]
      exact hall e he hb
    have hr0 : i0 ∈ Region.ready .any (l1 ++ l2).toArray (L ++ List.replicate l2.length false).toArray := by
      have hk0 : i0 < l1.length := by omega
      obtain ⟨o, ho⟩ : ∃ o, l1[i0]? = some o := ⟨l1[i0], List.getElem?_eq_getElem hk0⟩
      refine mem_ready.2 ⟨by rw [hgd i0 true hk0]; simp [hf0], o, by simp [List.getElem?_append_left hk0, ho], fun e he hb => ?_⟩
      have hlt := (ordB_spec h1 ho).1 e he hb
      rw [hgd e.on false (by omega)]
      simp [hlt0 e.on (by omega)]
    rw [show fuel + 1 + l2.length = (fuel + l2.length) + 1 by omega]
    refine ⟨fun h0 => absurd (h0 ▸ hr0) (by simp), fun i hi => ?_⟩
    obtain ⟨hik, hir⟩ := key i hi
    refine wpOp_cut h1 hik (fun a' w' hK => ?_) (h.2 i hir)
    have hset : (L ++ List.replicate l2.length false).toArray.setIfInBounds i true = (L.set i true ++ List.replicate l2.length false).toArray := by
      rw [List.setIfInBounds_toArray, List.set_append_left _ _ (by omega)]
    rw [hset]
    have hLi : L[i]? = some false := by
      have := (mem_ready.1 hir).1
      have hlt : i < L.length := by omega
      rw [List.getElem?_eq_getElem hlt]
      simpa [Array.getD_eq_getD_getElem?, hlt] using this
    have hlt : i < L.length := by omega
    refine ih (L.set i true) a' w' (by simpa using hL) ?_ ?_ (by rw [← List.setIfInBounds_toArray]; exact hK.2)
    · rw [List.count_set hlt]
      have : L[i] = false := by simpa [List.getElem?_eq_getElem hlt] using hLi
      simp [this]
      omega
    · intro m o ho hm e he hb
      have hup : ∀ n, L[n]? = some true → (L.set i true)[n]? = some true := fun n hn => by
        by_cases hin : i = n
        · subst hin; rw [hLi] at hn; cases hn
        · rw [List.getElem?_set_ne hin]; exact hn
      by_cases hmi : i = m
      · subst hmi
        obtain ⟨_, o', ho', hall⟩ := mem_ready.1 hir
        have : l1[i]? = some o' := by simpa using ho'
        rw [ho] at this
        obtain rfl : o = o' := Option.some.inj this
        have h' := hall e he hb
        have hlt' : e.on < L.length := by have := (ordB_spec h1 ho).1 e he hb; omega
        exact hup _ (by simpa [Array.getD_eq_getD_getElem?, hlt'] using h')
      · rw [List.getElem?_set_ne hmi] at hm
        exact hup _ (hcl m o ho hm e he hb)

/-- THE CUT -/
theorem wp_region_cut {l1 l2 : List Oper} {id : Nat} {a : Act} {w : World} (S : World → Prop) (J : Act → World → Prop) (hm : P.follows .mixedOrders = true) (h1 : (ordB l1.length 0 l1 && phB l1 l2) = true)
    (h : wpAnyH P .any l1.toArray (upTo Q J) S l1.length (Array.replicate l1.length false) a { w with drawn := w.drawn + 1 })
    (hJ : ∀ a w, J a w → wpAny P .any (l1 ++ l2).toArray Q l2.length (List.replicate l1.length true ++ List.replicate l2.length false).toArray a w) : (Code.region id (l1 ++ l2).toArray true).wp P Q a w := by
  simp only [Bool.and_eq_true] at h1
  refine wp_region_any hm ?_
  have := any_cut h1.1 h1.2 hJ l1.length (List.replicate l1.length false) a _ (by simp) (by simp) (fun i o _ hi => by rw [List.getElem?_replicate] at hi; split at hi <;> simp at hi) (by simpa using h)
  simpa [List.replicate_append_replicate, Nat.add_comm] using this

/-! one behind the other -/
def chainB (ops : Array Oper) : Nat → Nat → Array Bool → Bool
  | 0, _, L => (Region.ready .any ops L).isEmpty
  | n + 1, k, L => (Region.ready .any ops L == [k]) && chainB ops n (k + 1) (L.setIfInBounds k true)
theorem any_list {ops : Array Oper} : ∀ (l : List Oper) (k : Nat) (L : Array Bool) (a : Act) (w : World), (∀ j, l[j]? = ops[k + j]?) → chainB ops l.length k L = true → wpList P ops Q l a w → wpAny P .any ops Q l.length L a w
  | [], k, L, a, w, _, hB, h => ⟨by simpa [chainB] using hB, h⟩
  | o :: l, k, L, a, w, hl, hB, h => by
    simp only [List.length_cons, chainB, Bool.and_eq_true, beq_iff_eq] at hB
    have h0 : ops[k]? = some o := by simpa using (hl 0).symm
    refine ⟨fun h0 => by rw [h0] at hB; simp at hB, fun i hi => ?_⟩
    rw [hB.1] at hi
    obtain rfl : i = k := by simpa using hi
    have hn : ∀ a w, wpList P ops Q l a w → wpAny P .any ops Q l.length (L.setIfInBounds i true) a w := fun a w h => any_list l (i + 1) _ a w (fun j => by have := hl (j + 1); simpa [Nat.add_assoc, Nat.add_comm 1 j] using this) hB.2 h
    unfold wpOp
    rw [h0]
    simp only
    rw [wpList] at h
    split
    · rename_i hw
      rw [if_pos hw] at h
      exact h.imp (Oper.wp_mono hn) id
    · rename_i hw
      rw [if_neg hw] at h
      exact hn _ _ h

/-! what comes ahead, in the order of the text: true: it yields its value in every world that meets S; false: it alone may come up -/
def wpMix (P : Program) (ops : Array Oper) (Q : Exit → Act → World → Prop) (S : World → Prop) : List Bool → List Oper → Act → World → Prop
  | _, [], a, w => Q .normal a w
  | [], _ :: _, _, _ => False
  | true :: fs, o :: l, a, w => if Region.wanted o (yielded ops a.tmps) then ∃ v, (∀ u, S u → (execOp a.eval o).run P u = .ok (.value v) u) ∧ wpMix P ops Q S fs l (a.put o.dst v) w else wpMix P ops Q S fs l (a.put o.dst undef) w
  | false :: fs, o :: l, a, w => if Region.wanted o (yielded ops a.tmps) then o.wp P a w (fun a' w' => S w' ∧ wpMix P ops Q S fs l a' w') Q else wpMix P ops Q S fs l (a.put o.dst undef) w
def mixB (ops : Array Oper) : List Bool → Nat → Array Bool → Bool
  | [], _, L => (Region.ready .any ops L).isEmpty
  | true :: fs, k, L => (Region.ready .any ops L).contains k && Region.free .any ops L k && mixB ops fs (k + 1) (L.setIfInBounds k true)
  | false :: fs, k, L => (Region.ready .any ops L == [k]) && mixB ops fs (k + 1) (L.setIfInBounds k true)
/-- at a panic nothing hangs on these slots of the frame -/
def Loose (D : Option Tmp → Prop) (Q : Exit → Act → World → Prop) : Prop := ∀ c (a : Act) d v w, D d → Q (.panic c) (a.put d v) w → Q (.panic c) a w
theorem loose_body {P : Program} {fn : Func} {R : Ending → World → Prop} {D : Option Tmp → Prop} : Loose D (bodyPost P fn R) := fun c a d v w _ h => by cases d <;> exact h
end

end Go.Proofs.YtghebacphjglbaaGreat.Cut
/- A region that draws its order: x.f = append(x.f, g(..)): the law of the whole region, of any program. -/
namespace Go.Proofs.YtghebacphjglbaaGreat.Cut
open Go Go.RowKit Go.Proofs.YtghebacphjglbaaGreat.Heap Go.Proofs.YtghebacphjglbaaGreat.Dat

/-- the region's Bool -/
def app8B (o0 o1 o2 o3 o4 o5 o6 o7 : Oper) : Bool :=
  ordB 5 0 [o0, o1, o2, o3, o4] && phB [o0, o1, o2, o3, o4] [o5, o6, o7] && Region.noSelect #[o0, o1, o2, o3, o4] && mixB #[o0, o1, o2, o3, o4] [true, true, true, false, false] 0 #[false, false, false, false, false] &&
    chainB #[o0, o1, o2, o3, o4, o5, o6, o7] 3 5 #[true, true, true, true, true, false, false, false] && [o0, o1, o2, o3, o4, o5, o6, o7].all fun o => o.guard.isNone
theorem wp_go {P : Program} {o : Oper} {a : Act} {w : World} {f : FuncId} {args : Array Value} {K : Act → World → Prop} {Q : Exit → Act → World → Prop} (hr : (execOp a.eval o).run P w = .ok (.enter f args) w)
    (h : Calls P f args w fun | .returned v, w' => K (a.put o.dst v) w' | .panicked c, w' => Q (.panic c) a w' | .outgrown, _ => LetsOut Q) : o.wp P a w K Q := by
  unfold Oper.wp; rw [hr]; exact h
theorem wp_val {P : Program} {o : Oper} {a : Act} {w w' : World} {v : Value} {K : Act → World → Prop} {Q : Exit → Act → World → Prop} (hr : (execOp a.eval o).run P w = .ok (.value v) w') (h : K (a.put o.dst v) w') : o.wp P a w K Q := by
  unfold Oper.wp; rw [hr]; exact h
/-- what is known behind the call: of its answer's cells, and of the world -/
structure Came (w w1 : World) (B H : Nat) (rr : Option Nat) (us : List Value) (ds : List Dat) (b2 : List Nat) : Prop where
  lies : LiesL w1 w.heap.size ds us b2
  nodup : b2.Nodup
  grown : w.grownBy w1 rr
  far : ∀ j, rr = some j → j < B ∧ j ≠ H

end Go.Proofs.YtghebacphjglbaaGreat.Cut
/- Regions that draw their order, walked in two parts; what comes ahead in an order that is told by its numbers. No function of a program. -/
namespace Go.Proofs.YtghebacphjglbaaGreat.Cut
open Go
section
variable {P : Program} {Q : Exit → Act → World → Prop} {J : Act → World → Prop} {S : World → Prop}
/-- what comes ahead, in the order of these numbers: true: it yields its value in every world that meets S; false: it alone may come up -/
def wpMixI (P : Program) (ops : Array Oper) (Q : Exit → Act → World → Prop) (S : World → Prop) : List (Nat × Bool) → Act → World → Prop
  | [], a, w => Q .normal a w
  | (i, true) :: l, a, w => ∃ o, ops[i]? = some o ∧ Region.wanted o (yielded ops a.tmps) = true ∧ ∃ v, (∀ u, S u → (execOp a.eval o).run P u = .ok (.value v) u) ∧ wpMixI P ops Q S l (a.put o.dst v) w
  | (i, false) :: l, a, w => ∃ o, ops[i]? = some o ∧ Region.wanted o (yielded ops a.tmps) = true ∧ o.wp P a w (fun a' w' => S w' ∧ wpMixI P ops Q S l a' w') Q
def mixBI (ops : Array Oper) : List (Nat × Bool) → Array Bool → Bool
  | [], L => (Region.ready .any ops L).isEmpty
  | (k, true) :: l, L => (Region.ready .any ops L).contains k && Region.free .any ops L k && mixBI ops l (L.setIfInBounds k true)
  | (k, false) :: l, L => (Region.ready .any ops L == [k]) && mixBI ops l (L.setIfInBounds k true)
theorem any_mixI {ops : Array Oper} {D : Option Tmp → Prop} (hs : Region.noSelect ops = true) (hQ : Loose D Q) (hD : ∀ o ∈ ops.toList, D o.dst) : ∀ (l : List (Nat × Bool)) (L : Array Bool) (a : Act) (w : World), mixBI ops l L = true → S w →
    wpMixI P ops Q S l a w → wpAnyH P .any ops Q S l.length L a w
  | [], L, a, w, hB, _, h => ⟨by simpa [mixBI] using hB, h⟩
  | (k, true) :: l, L, a, w, hB, hS, h => by
    simp only [mixBI, Bool.and_eq_true] at hB
    obtain ⟨o, h0, hw, v, hv, h⟩ := h
    exact wpAnyH_take h0 hs hB.1.2 hB.1.1 (fun c a w h => hQ _ _ _ _ _ (hD o (by have := Array.mem_of_getElem? h0; simpa using this)) h) (.inl ⟨hw, hv⟩) hS (any_mixI hs hQ hD l _ _ _ hB.2 hS h)
  | (k, false) :: l, L, a, w, hB, hS, h => by
    simp only [mixBI, Bool.and_eq_true, beq_iff_eq] at hB
    obtain ⟨o, h0, hw, h⟩ := h
    refine ⟨fun h0 => by rw [h0] at hB; simp at hB, fun i hi => ?_⟩
    rw [hB.1] at hi
    obtain rfl : i = k := by simpa using hi
    have hn : ∀ a w, (S w ∧ wpMixI P ops Q S l a w) → (S w ∧ wpAnyH P .any ops Q S l.length (L.setIfInBounds i true) a w) := fun a w h => ⟨h.1, any_mixI hs hQ hD l _ a w hB.2 h.1 h.2⟩
    unfold wpOp
    rw [h0]
    simp only
    rw [if_pos hw]
    exact .inl (Oper.wp_mono hn h)
theorem mixI_take {ops : Array Oper} {i : Nat} {o : Oper} {l : List (Nat × Bool)} {a : Act} {w : World} (v : Value) (h0 : ops[i]? = some o) (hw : Region.wanted o (yielded ops a.tmps) = true) (hv : ∀ u, S u → (execOp a.eval o).run P u = .ok (.value v) u)
    (h : wpMixI P ops Q S l (a.put o.dst v) w) : wpMixI P ops Q S ((i, true) :: l) a w := ⟨o, h0, hw, v, hv, h⟩
theorem mixI_go {ops : Array Oper} {i : Nat} {o : Oper} {l : List (Nat × Bool)} {a : Act} {w : World} (h0 : ops[i]? = some o) (hw : Region.wanted o (yielded ops a.tmps) = true)
    (h : ∀ K : Act → World → Prop, Shut (∀ a w, S w → wpMixI P ops Q S l a w → K a w) → o.wp P a w K Q) : wpMixI P ops Q S ((i, false) :: l) a w :=
  ⟨o, h0, hw, h _ (fun _ _ h1 h2 => ⟨h1, h2⟩)⟩
end
/-- a guard that is met -/
theorem wanted_at {o : Oper} {ops : Array Oper} {a : Act} {g : Nat} {b : Bool} {t : Tmp} (hg : o.guard = some (g, b)) (hd : (ops[g]?).bind (·.dst) = some t) (hv : a.tmps[t]? = some (.bool b)) : Region.wanted o (yielded ops a.tmps) = true := by
  unfold Region.wanted
  rw [hg]
  simp [yielded, hd, hv]
theorem put_far {a : Act} {d : Option Tmp} {v x : Value} {t : Tmp} (hd : d ≠ some t) (h : a.tmps[t]? = some x) : (a.put d v).tmps[t]? = some x := by
  cases d with
  | none => exact h
  | some i =>
    have hi : i ≠ t := fun e => hd (by rw [e])
    show (a.tmps.setIfInBounds i v)[t]? = some x
    rw [Array.getElem?_setIfInBounds_ne hi]; exact h
/-- THE REGION: what comes ahead (l1) in the order of these numbers, what is behind (l2) a plain list -/
theorem wp_region_mixI {P : Program} {Q : Exit → Act → World → Prop} {l1 l2 : List Oper} {id : Nat} {a : Act} {w : World} (is : List (Nat × Bool)) (S : World → Prop) (hm : P.follows .mixedOrders = true)
    (hB : (ordB l1.length 0 l1 && phB l1 l2 && Region.noSelect l1.toArray && mixBI l1.toArray is (Array.replicate l1.length false) && (is.length == l1.length) && chainB (l1 ++ l2).toArray l2.length l1.length (List.replicate l1.length true ++ List.replicate l2.length false).toArray) = true)
    (hQ : Loose (fun d => d ∈ l1.map (·.dst)) Q) (hS : S { w with drawn := w.drawn + 1 })
    (h : wpMixI P l1.toArray (upTo Q (wpList P (l1 ++ l2).toArray Q l2)) S is a { w with drawn := w.drawn + 1 }) : (Code.region id (l1 ++ l2).toArray true).wp P Q a w := by
  simp only [Bool.and_eq_true, beq_iff_eq] at hB
  obtain ⟨⟨⟨⟨⟨h1, h2⟩, h3⟩, h4⟩, h5⟩, h6⟩ := hB
  refine wp_region_cut S (wpList P (l1 ++ l2).toArray Q l2) hm (by rw [h1, h2]; rfl) ?_ fun a w hJ => ?_
  · have := any_mixI (P := P) (S := S) (Q := upTo Q (wpList P (l1 ++ l2).toArray Q l2)) h3 (fun c a d v w hd h => hQ c a d v w hd h) (fun o ho => List.mem_map_of_mem (by simpa using ho)) is _ a _ h4 hS h
    rw [h5] at this
    exact this
  · exact any_list l2 l1.length _ a w (fun j => by simp [List.getElem?_append_right]) h6 hJ
end Go.Proofs.YtghebacphjglbaaGreat.Cut
/- Regions that draw their order, in two parts, where one new block may be made at any time. No function of a program. -/
namespace Go.Proofs.YtghebacphjglbaaGreat.Cut
open Go
section
variable {P : Program} {Q : Exit → Act → World → Prop} {S : World → Prop}
/-- the frame, with the new block's address in its slot if it is made -/
def withB (d : Tmp) (ex : Option Nat) (a : Act) : Act := match ex with
  | none => a
  | some H => a.put (some d) (.pointer (some ⟨H, 0, none⟩))
/-- what comes ahead, in the order of these numbers, the new block made at any time -/
def wpMixF (P : Program) (ops : Array Oper) (Q : Exit → Act → World → Prop) (S : World → Prop) (d : Tmp) (o : Obj) : List (Nat × Bool) → Option Nat → Act → World → Prop
  | [], ex, a, w => match ex with
    | none => S (w.alloc o) ∧ Q .normal (withB d (some w.heap.size) a) (w.alloc o)
    | some H => Q .normal (withB d (some H) a) w
  | (i, true) :: l, ex, a, w => ∃ p, ops[i]? = some p ∧ p.dst ≠ some d ∧ Region.wanted p (yielded ops (withB d ex a).tmps) = true ∧ ∃ v, (∀ u, S u → (execOp (withB d ex a).eval p).run P u = .ok (.value v) u) ∧ wpMixF P ops Q S d o l ex (a.put p.dst v) w
  | (i, false) :: l, ex, a, w => ∃ p, ops[i]? = some p ∧ Region.wanted p (yielded ops (withB d ex a).tmps) = true ∧ p.wp P (withB d ex a) w (fun a' w' => ∃ a'', a' = withB d ex a'' ∧ S w' ∧ wpMixF P ops Q S d o l ex a'' w') Q
/-- .. of which every suffix that begins with one that may not be taken first holds before and behind the block's making -/
def wpMixA (P : Program) (ops : Array Oper) (Q : Exit → Act → World → Prop) (S : World → Prop) (d : Tmp) (o : Obj) : List (Nat × Bool) → Option Nat → Act → World → Prop
  | [], ex, a, w => match ex with
    | none => S (w.alloc o) ∧ Q .normal (withB d (some w.heap.size) a) (w.alloc o)
    | some H => Q .normal (withB d (some H) a) w
  | (i, true) :: l, ex, a, w => ∃ p, ops[i]? = some p ∧ p.dst ≠ some d ∧ Region.wanted p (yielded ops (withB d ex a).tmps) = true ∧ ∃ v, (∀ u, S u → (execOp (withB d ex a).eval p).run P u = .ok (.value v) u) ∧ wpMixA P ops Q S d o l ex (a.put p.dst v) w
  | (i, false) :: l, ex, a, w => (∃ p, ops[i]? = some p ∧ Region.wanted p (yielded ops (withB d ex a).tmps) = true ∧ p.wp P (withB d ex a) w (fun a' w' => ∃ a'', a' = withB d ex a'' ∧ S w' ∧ wpMixA P ops Q S d o l ex a'' w') Q) ∧
      (ex = none → S (w.alloc o) ∧ wpMixF P ops Q S d o ((i, false) :: l) (some w.heap.size) a (w.alloc o))
def mixBF (ops : Array Oper) (f : Nat) : List (Nat × Bool) → Bool → Array Bool → Bool
  | [], true, L => (Region.ready .any ops L).isEmpty
  | [], false, L => (Region.ready .any ops L == [f]) && (Region.ready .any ops (L.setIfInBounds f true)).isEmpty
  | (k, true) :: l, b, L => (Region.ready .any ops L).contains k && Region.free .any ops L k && mixBF ops f l b (L.setIfInBounds k true)
  | (k, false) :: l, true, L => (Region.ready .any ops L == [k]) && mixBF ops f l true (L.setIfInBounds k true)
  | (k, false) :: l, false, L => (Region.ready .any ops L == [k, f]) && mixBF ops f l false (L.setIfInBounds k true) && mixBF ops f ((k, false) :: l) true (L.setIfInBounds f true)
termination_by l b => (l.length, if b then 0 else 1)
end
end Go.Proofs.YtghebacphjglbaaGreat.Cut
/- A region that draws its order: x.f = append(x.f, g(..)) where the element is stored behind the append (elements of three cells): the law of the whole region, of any program. -/
namespace Go.Proofs.YtghebacphjglbaaGreat.Cut
open Go Go.RowKit Go.Proofs.YtghebacphjglbaaGreat.Heap Go.Proofs.YtghebacphjglbaaGreat.Dat

def set3 (w : World) (g q : Nat) (u0 u1 u2 : Value) : World := ((w.setCell ⟨g, q, none⟩ u0).setCell ⟨g, q + 1, none⟩ u1).setCell ⟨g, q + 2, none⟩ u2
def app13B (o0 o1 o2 o3 o4 o5 o6 o7 o8 o9 o10 o11 o12 : Oper) : Bool :=
  let l1 := #[o0, o1, o2, o3, o4, o5, o6, o7]
  let l := #[o0, o1, o2, o3, o4, o5, o6, o7, o8, o9, o10, o11, o12]
  let f := false
  let t := true
  let tk := fun (ops : Array Oper) (L : Array Bool) (i : Nat) => Region.free .any ops L i && (Region.ready .any ops L).contains i
  ordB 8 0 [o0, o1, o2, o3, o4, o5, o6, o7] && phB [o0, o1, o2, o3, o4, o5, o6, o7] [o8, o9, o10, o11, o12] && Region.noSelect l1 && Region.noSelect l &&
    (tk l1 #[f, f, f, f, f, f, f, f] 0 && tk l1 #[t, f, f, f, f, f, f, f] 1 && tk l1 #[t, t, f, f, f, f, f, f] 2 && tk l1 #[t, t, t, f, f, f, f, f] 3 && tk l1 #[t, t, t, t, f, f, f, f] 4 && tk l1 #[t, t, t, t, t, f, f, f] 6) &&
    (Region.ready .any l1 #[t, t, t, t, t, f, t, f] == [5, 7] && Region.ready .any l1 #[t, t, t, t, t, t, t, f] == [7] && Region.ready .any l1 #[t, t, t, t, t, f, t, t] == [5] && Region.ready .any l1 #[t, t, t, t, t, t, t, t] == []) &&
    (Region.ready .any l #[t, t, t, t, t, t, t, t, f, f, f, f, f] == [8] && tk l #[t, t, t, t, t, t, t, t, t, f, f, f, f] 9 && tk l #[t, t, t, t, t, t, t, t, t, t, f, f, f] 11) &&
    (Region.ready .any l #[t, t, t, t, t, t, t, t, t, t, f, t, f] == [10, 12] && Region.ready .any l #[t, t, t, t, t, t, t, t, t, t, t, t, f] == [12] && Region.ready .any l #[t, t, t, t, t, t, t, t, t, t, f, t, t] == [10] && Region.ready .any l #[t, t, t, t, t, t, t, t, t, t, t, t, t] == []) &&
    ([o0, o1, o2, o3, o4, o5, o6, o7, o8, o9, o10, o11, o12].all fun o => o.guard.isNone) && o10.dst.isNone && o12.dst.isNone && (o5.dst.isSome && o7.dst.isSome && o5.dst != o7.dst)
end Go.Proofs.YtghebacphjglbaaGreat.Cut
/- Regions that draw their order, where one new block may be made at any time, each step walked once for both; and appends of rows that are only read. No function of a program. -/
namespace Go.Proofs.YtghebacphjglbaaGreat.Cut
open Go Go.RowKit Go.Proofs.YtghebacphjglbaaGreat.Heap Go.Proofs.YtghebacphjglbaaGreat.Dat
section
variable {P : Program} {Q : Exit → Act → World → Prop} {S : World → Prop}
/-- what comes ahead, each step at whatever has been made of the block -/
def wpMixU (P : Program) (ops : Array Oper) (Q : Exit → Act → World → Prop) (S : World → Prop) (d : Tmp) (o : Obj) : List (Nat × Bool) → (Option Nat → World → Prop) → Act → Prop
  | [], I, a => ∀ H w, S w → I (some H) w → Q .normal (withB d (some H) a) w
  | (i, true) :: l, I, a => ∃ p, ops[i]? = some p ∧ p.dst ≠ some d ∧ (∀ ex, Region.wanted p (yielded ops (withB d ex a).tmps) = true) ∧ ∃ v, (∀ ex u, S u → (execOp (withB d ex a).eval p).run P u = .ok (.value v) u) ∧ wpMixU P ops Q S d o l I (a.put p.dst v)
  | (i, false) :: l, I, a => ∃ p, ops[i]? = some p ∧ (∀ ex, Region.wanted p (yielded ops (withB d ex a).tmps) = true) ∧ ∀ ex w, S w → I ex w → p.wp P (withB d ex a) w (fun a' w' => ∃ a'' I', a' = withB d ex a'' ∧ S w' ∧ I' ex w' ∧ (∀ w, S w → I' none w → I' (some w.heap.size) (w.alloc o)) ∧ wpMixU P ops Q S d o l I' a'') Q
/-- the order, the block not yet made -/
def mixBN (ops : Array Oper) (f : Nat) : List (Nat × Bool) → Array Bool → Bool
  | [], L => (Region.ready .any ops L == [f]) && (Region.ready .any ops (L.setIfInBounds f true)).isEmpty
  | (k, true) :: l, L => (Region.ready .any ops L).contains k && Region.free .any ops L k && mixBN ops f l (L.setIfInBounds k true)
  | (k, false) :: l, L => (Region.ready .any ops L == [k, f]) && mixBN ops f l (L.setIfInBounds k true) && mixBI ops ((k, false) :: l) (L.setIfInBounds f true)
end

/-- values are read as data -/
def ReadsV (w : World) : List Dat → List Value → Prop
  | [], us => us = []
  | d :: ds, us => ∃ u us', us = u :: us' ∧ Reads w d u ∧ ReadsV w ds us'
/-- a literal is one cell -/
def oneD : Dat → Bool
  | .lit u => u.oneCell'
  | .row .. => true
theorem ReadsV.len {w : World} : ∀ {ds : List Dat} {us : List Value}, ReadsV w ds us → us.length = ds.length
  | [], us, h => by have h : us = [] := h
                    simp [h]
  | d :: ds, us, h => by obtain ⟨u, us', rfl, _, h2⟩ := h; simp [ReadsV.len h2]
theorem ReadsV.append {w : World} : ∀ {ds es : List Dat} {us vs : List Value}, ReadsV w ds us → ReadsV w es vs → ReadsV w (ds ++ es) (us ++ vs)
  | [], es, us, vs, h, k => by have h : us = [] := h
                               rw [h]; exact k
  | d :: ds, es, us, vs, h, k => by obtain ⟨u, us', rfl, h1, h2⟩ := h; exact ⟨u, us' ++ vs, rfl, h1, ReadsV.append h2 k⟩
theorem ReadsV.one {w : World} : ∀ {ds : List Dat} {us : List Value}, ReadsV w ds us → (∀ d ∈ ds, oneD d = true) → ∀ u ∈ us, u.oneCell' = true
  | [], us, h, _, u, hu => by have h : us = [] := h
                              rw [h] at hu; cases hu
  | d :: ds, us, h, ho, u, hu => by
    obtain ⟨x, us', rfl, h1, h2⟩ := h
    rcases List.mem_cons.1 hu with rfl | hu
    · have hd := ho d (List.mem_cons_self ..)
      cases d with
      | lit x => rw [Reads.lit_iff] at h1; rw [h1]; exact hd
      | row E S n items => rw [Reads.row_iff] at h1; obtain ⟨_, _, a, c, rfl, _⟩ := h1; rfl
    · exact ReadsV.one h2 (fun d hd => ho d (List.mem_cons_of_mem _ hd)) u hu
theorem ReadsL.vals {w : World} {b : Nat} : ∀ {ds : List Dat} {o : Nat}, ReadsL w b o ds → ∃ us, ReadsV w ds us ∧ ∀ k u, us[k]? = some u → w.cell? ⟨b, o + k, none⟩ = some u
  | [], o, _ => ⟨[], rfl, fun k u h => by simp at h⟩
  | d :: ds, o, h => by
    rw [ReadsL.cons] at h
    obtain ⟨⟨u, h1, h2⟩, h3⟩ := h
    obtain ⟨us, h4, h5⟩ := ReadsL.vals h3
    refine ⟨u :: us, ⟨u, us, rfl, h2, h4⟩, fun k x hk => ?_⟩
    cases k with
    | zero => have : u = x := by simpa using hk
              rw [← this]; exact h1
    | succ k => have := h5 k x (by simpa using hk)
                rwa [show o + 1 + k = o + (k + 1) by omega] at this
theorem ReadsV.cells {w w' : World} (hb : Below w.heap.size w w') {b : Nat} : ∀ {ds : List Dat} {us : List Value} {o : Nat}, ReadsV w ds us → (∀ k u, us[k]? = some u → w'.cell? ⟨b, o + k, none⟩ = some u) → ReadsL w' b o ds
  | [], us, o, _, _ => by rw [ReadsL.nil]; trivial
  | d :: ds, us, o, h, hc => by
    obtain ⟨u, us', rfl, h1, h2⟩ := h
    rw [ReadsL.cons]
    refine ⟨⟨u, by simpa using hc 0 u rfl, Reads.below hb h1⟩, ReadsV.cells hb h2 fun k x hk => ?_⟩
    have := hc (k + 1) x (by simpa using hk)
    rwa [show o + (k + 1) = o + 1 + k by omega] at this
/-- a row that is owned above a world, whose elements are read there -/
def OwnR (W w : World) (E : TypeId) (S n : Nat) (items : List Dat) (v : Value) : Prop := ∃ xs, w.ownsRow W.heap.size E S v n xs ∧ ReadsV W items xs
theorem OwnR.reads {W w : World} {E : TypeId} {S n : Nat} {items : List Dat} {v : Value} (h : OwnR W w E S n items v) (hb : Below W.heap.size W w) : Reads w (.row E S n items) v := by
  obtain ⟨xs, ho, hr⟩ := h
  rw [Reads.row_iff]
  refine ⟨by rw [← hr.len]; exact ho.1, own_len ho, ?_⟩
  rcases ho.2 with ⟨rfl, rfl⟩ | ⟨g, cap, cur, rfl, _⟩
  · exact ⟨none, 0, rfl, .inl ⟨rfl, rfl, rfl⟩⟩
  · refine ⟨some ⟨g, 0, none⟩, cap, rfl, .inr (.inl ⟨g, 0, rfl, hr.cells hb fun k u hk => ?_⟩)⟩
    rw [Nat.zero_add, ho.cellAt k (by rw [← ho.1]; exact (List.getElem?_eq_some_iff.1 hk).1)]; exact hk
theorem OwnR.ne {W w : World} {E : TypeId} {S n : Nat} {items : List Dat} {v : Value} (h : OwnR W w E S n items v) {H : Nat} (hH : w.heap.size ≤ H) : v.ownBlock ≠ some H := fun e => by
  obtain ⟨xs, ho, _⟩ := h
  have := (ho.lt H e).2
  omega
theorem OwnR.kept {W w w' : World} {E : TypeId} {S n : Nat} {items : List Dat} {v : Value} (h : OwnR W w E S n items v) {r : Option Nat} (hg : w.grownBy w' r) (hr : v.ownBlock = none ∨ v.ownBlock ≠ r) : OwnR W w' E S n items v := by
  obtain ⟨xs, ho, h2⟩ := h
  exact ⟨xs, ho.kept hg hr, h2⟩
/-- the new block, if it is made -/
def Made1 (V : World) (o : Obj) (ex : Option Nat) (u : World) : Prop := ∀ H, ex = some H → V.heap.size ≤ H ∧ u.heap[H]? = some o
theorem Made1.none {V : World} {o : Obj} {u : World} : Made1 V o none u := fun H h => by cases h
theorem Made1.made {V w : World} {o : Obj} (hb : Below V.heap.size V w) : Made1 V o (some w.heap.size) (w.alloc o) := fun H h => by
  obtain rfl : w.heap.size = H := Option.some.inj h
  exact ⟨hb.size, heap_alloc_new w o⟩
/-- .. and a row that is owned, beside it -/
def Up (V : World) (o : Obj) (E : TypeId) (S n : Nat) (items : List Dat) (v : Value) (ex : Option Nat) (u : World) : Prop := OwnR V u E S n items v ∧ Made1 V o ex u ∧ ∀ H, ex = some H → v.ownBlock ≠ some H
theorem Up.made {V w : World} {o : Obj} {E : TypeId} {S n : Nat} {items : List Dat} {v : Value} (hb : Below V.heap.size V w) (h : Up V o E S n items v none w) : Up V o E S n items v (some w.heap.size) (w.alloc o) := by
  refine ⟨h.1.kept (World.grownBy_alloc w o none) ?_, Made1.made hb, fun H e => ?_⟩
  · cases hv : v.ownBlock with
    | none => exact .inl rfl
    | some g => exact .inr (by simp)
  · obtain rfl : w.heap.size = H := Option.some.inj e
    exact h.1.ne (Nat.le_refl _)
theorem at_lt {w : World} {H : Nat} {o : Obj} (h : w.heap[H]? = some o) : H < w.heap.size := (Array.getElem?_eq_some_iff.1 h).1
theorem Made1.kept {V w w' : World} {o : Obj} {ex : Option Nat} (h : Made1 V o ex w) {r : Option Nat} (hg : w.grownBy w' r) (hr : ∀ H, ex = some H → r ≠ some H) : Made1 V o ex w' := fun H e =>
  ⟨(h H e).1, (hg.block H (at_lt (h H e).2) (fun e' => hr H e e'.symm)).trans (h H e).2⟩
theorem Made1.below {V w w' : World} {o : Obj} {ex : Option Nat} (h : Made1 V o ex w) (hb : Below w.heap.size w w') : Made1 V o ex w' := fun H e =>
  ⟨(h H e).1, (hb.block H (at_lt (h H e).2)).trans (h H e).2⟩
theorem Up.first {V w w' : World} {o : Obj} {E : TypeId} {S : Nat} {v : Value} {ex : Option Nat} (h : Made1 V o ex w) (ho : OwnR V w' E S 0 [] v) (hg : w.grownBy w' none) (hv : v.ownBlock = some w.heap.size) : Up V o E S 0 [] v ex w' :=
  ⟨ho, h.kept hg (fun _ _ e => by cases e), fun H e e' => by have := at_lt (h H e).2; rw [hv] at e'; have : w.heap.size = H := Option.some.inj e'; omega⟩
theorem Up.next {V w w' : World} {o : Obj} {E : TypeId} {S n n' : Nat} {items items' : List Dat} {v v' : Value} {ex : Option Nat} (h : Up V o E S n items v ex w) (ho : OwnR V w' E S n' items' v') (hg : w.grownBy w' v.ownBlock) (hv : v'.ownBlock = v.ownBlock ∨ v'.ownBlock = some w.heap.size) : Up V o E S n' items' v' ex w' :=
  ⟨ho, h.2.1.kept hg h.2.2, fun H e e' => by
    rcases hv with hv | hv
    · exact h.2.2 H e (hv ▸ e')
    · have := at_lt (h.2.1 H e).2; rw [hv] at e'; have : w.heap.size = H := Option.some.inj e'; omega⟩
/-- what was made beside the new block -/
def Beside (V : World) (o : Obj) (B : Nat) (d : Dat) (v : Value) (k : List Nat) (ex : Option Nat) (u : World) : Prop := Lies u B d v k ∧ Made1 V o ex u ∧ ∀ H, ex = some H → H ∉ k
theorem Beside.made {V w : World} {o : Obj} {B : Nat} {d : Dat} {v : Value} {k : List Nat} (hb : Below V.heap.size V w) (h : Beside V o B d v k none w) : Beside V o B d v k (some w.heap.size) (w.alloc o) :=
  ⟨h.1.new ((Below.refl _ w).alloc (Nat.le_refl _) o), Made1.made hb, fun H e hm => by
    obtain rfl : w.heap.size = H := Option.some.inj e
    have := (Lies.lt h.1 _ hm).2
    omega⟩
theorem Beside.first {V w w' : World} {o : Obj} {d : Dat} {v : Value} {k : List Nat} {ex : Option Nat} (h : Made1 V o ex w) (hl : Lies w' w.heap.size d v k) (hb : Below w.heap.size w w') : Beside V o w.heap.size d v k ex w' :=
  ⟨hl, h.below hb, fun H e hm => by have := at_lt (h H e).2; have := (Lies.lt hl _ hm).1; omega⟩
/-- two cells of it are written -/
theorem Beside.set2 {V w : World} {o : Obj} {B : Nat} {d : Dat} {v : Value} {k : List Nat} {H : Nat} (h : Beside V o B d v k (some H) w) (i j : Nat) (x y : Value) : Lies ((w.setCell ⟨H, i, none⟩ x).setCell ⟨H, j, none⟩ y) B d v k :=
  have hk : ∀ b ∈ k, some b ≠ some H := fun b hb e => by obtain rfl : b = H := Option.some.inj e; exact h.2.2 b rfl hb
  Lies.kept (Heap.grown_set _ ⟨H, j, none⟩ y) (Lies.kept (Heap.grown_set w ⟨H, i, none⟩ x) h.1 hk) hk
theorem put_size {a : Act} {d : Option Tmp} {v : Value} {n : Nat} (h : n < a.tmps.size) : n < (a.put d v).tmps.size := by
  cases d with
  | none => exact h
  | some i => show n < (a.tmps.setIfInBounds i v).size; simpa using h
theorem put_here {a : Act} {d : Option Tmp} {v : Value} {t : Tmp} (hd : d = some t) (h : t < a.tmps.size) : (a.put d v).tmps[t]? = some v := by
  subst hd
  show (a.tmps.setIfInBounds t v)[t]? = some v
  simp [h]
end Go.Proofs.YtghebacphjglbaaGreat.Cut
/- A region that draws its order, what comes ahead in the order of these numbers; operations that are not wanted are passed over. No function of a program. -/
namespace Go.Proofs.YtghebacphjglbaaGreat.Cut
open Go Go.RowKit
section
variable {P : Program} {Q : Exit → Act → World → Prop} {J : Act → World → Prop} {S : World → Prop}
/-- true: it yields its value in every world that meets S; false: it alone may come up; either: not wanted -/
def wpMixS (P : Program) (ops : Array Oper) (Q : Exit → Act → World → Prop) (S : World → Prop) : List (Nat × Bool) → Act → World → Prop
  | [], a, w => Q .normal a w
  | (i, true) :: l, a, w => ∃ o v, ops[i]? = some o ∧ YieldsIf P ops S o v a ∧ wpMixS P ops Q S l (a.put o.dst v) w
  | (i, false) :: l, a, w => ∃ o, ops[i]? = some o ∧ Region.wanted o (yielded ops a.tmps) = true ∧ o.wp P a w (fun a' w' => S w' ∧ wpMixS P ops Q S l a' w') Q
theorem any_mixS {ops : Array Oper} {D : Option Tmp → Prop} (hs : Region.noSelect ops = true) (hQ : Loose D Q) (hD : ∀ o ∈ ops.toList, D o.dst) : ∀ (l : List (Nat × Bool)) (L : Array Bool) (a : Act) (w : World), mixBI ops l L = true → S w →
    wpMixS P ops Q S l a w → wpAnyH P .any ops Q S l.length L a w
  | [], L, a, w, hB, _, h => ⟨by simpa [mixBI] using hB, h⟩
  | (k, true) :: l, L, a, w, hB, hS, h => by
    simp only [mixBI, Bool.and_eq_true] at hB
    obtain ⟨o, v, h0, hv, h⟩ := h
    exact wpAnyH_take h0 hs hB.1.2 hB.1.1 (fun c a w h => hQ _ _ _ _ _ (hD o (by have := Array.mem_of_getElem? h0; simpa using this)) h) hv hS (any_mixS hs hQ hD l _ _ _ hB.2 hS h)
  | (k, false) :: l, L, a, w, hB, hS, h => by
    simp only [mixBI, Bool.and_eq_true, beq_iff_eq] at hB
    obtain ⟨o, h0, hw, h⟩ := h
    refine ⟨fun h0 => by rw [h0] at hB; simp at hB, fun i hi => ?_⟩
    rw [hB.1] at hi
    obtain rfl : i = k := by simpa using hi
    have hn : ∀ a w, (S w ∧ wpMixS P ops Q S l a w) → (S w ∧ wpAnyH P .any ops Q S l.length (L.setIfInBounds i true) a w) := fun a w h => ⟨h.1, any_mixS hs hQ hD l _ a w hB.2 h.1 h.2⟩
    unfold wpOp
    rw [h0]
    simp only
    rw [if_pos hw]
    exact .inl (Oper.wp_mono hn h)
theorem mixS_take {ops : Array Oper} {i : Nat} {o : Oper} {l : List (Nat × Bool)} {a : Act} {w : World} (v : Value) (h0 : ops[i]? = some o) (hw : Region.wanted o (yielded ops a.tmps) = true) (hv : ∀ u, S u → (execOp a.eval o).run P u = .ok (.value v) u)
    (h : wpMixS P ops Q S l (a.put o.dst v) w) : wpMixS P ops Q S ((i, true) :: l) a w := ⟨o, v, h0, .inl ⟨hw, hv⟩, h⟩
theorem mixS_skip {ops : Array Oper} {i : Nat} {o : Oper} {l : List (Nat × Bool)} {a : Act} {w : World} (h0 : ops[i]? = some o) (hw : Region.wanted o (yielded ops a.tmps) = false)
    (h : wpMixS P ops Q S l (a.put o.dst undef) w) : wpMixS P ops Q S ((i, true) :: l) a w := ⟨o, undef, h0, .inr ⟨hw, rfl⟩, h⟩
theorem mixS_go {ops : Array Oper} {i : Nat} {o : Oper} {l : List (Nat × Bool)} {a : Act} {w : World} (h0 : ops[i]? = some o) (hw : Region.wanted o (yielded ops a.tmps) = true)
    (h : ∀ K : Act → World → Prop, Shut (∀ a w, S w → wpMixS P ops Q S l a w → K a w) → o.wp P a w K Q) : wpMixS P ops Q S ((i, false) :: l) a w :=
  ⟨o, h0, hw, h _ (fun _ _ h1 h2 => ⟨h1, h2⟩)⟩
end
/-- THE REGION: what comes ahead (l1) in the order of these numbers, what is behind (l2) a plain list -/
theorem wp_region_mixS {P : Program} {Q : Exit → Act → World → Prop} {l1 l2 : List Oper} {id : Nat} {a : Act} {w : World} (is : List (Nat × Bool)) (S : World → Prop) (hm : P.follows .mixedOrders = true)
    (hB : (ordB l1.length 0 l1 && phB l1 l2 && Region.noSelect l1.toArray && mixBI l1.toArray is (Array.replicate l1.length false) && (is.length == l1.length) && chainB (l1 ++ l2).toArray l2.length l1.length (List.replicate l1.length true ++ List.replicate l2.length false).toArray) = true)
    (hQ : Loose (fun d => d ∈ l1.map (·.dst)) Q) (hS : S { w with drawn := w.drawn + 1 })
    (h : wpMixS P l1.toArray (upTo Q (wpList P (l1 ++ l2).toArray Q l2)) S is a { w with drawn := w.drawn + 1 }) : (Code.region id (l1 ++ l2).toArray true).wp P Q a w := by
  simp only [Bool.and_eq_true, beq_iff_eq] at hB
  obtain ⟨⟨⟨⟨⟨h1, h2⟩, h3⟩, h4⟩, h5⟩, h6⟩ := hB
  refine wp_region_cut S (wpList P (l1 ++ l2).toArray Q l2) hm (by rw [h1, h2]; rfl) ?_ fun a w hJ => ?_
  · have := any_mixS (P := P) (S := S) (Q := upTo Q (wpList P (l1 ++ l2).toArray Q l2)) h3 (fun c a d v w hd h => hQ c a d v w hd h) (fun o ho => List.mem_map_of_mem (by simpa using ho)) is _ a _ h4 hS h
    rw [h5] at this
    exact this
  · exact any_list l2 l1.length _ a w (fun j => by simp [List.getElem?_append_right]) h6 hJ
theorem unwanted_at {o : Oper} {ops : Array Oper} {a : Act} {g : Nat} {b c : Bool} {t : Tmp} (hg : o.guard = some (g, b)) (hd : (ops[g]?).bind (·.dst) = some t) (hv : a.tmps[t]? = some (.bool c)) (hbc : b ≠ c) : Region.wanted o (yielded ops a.tmps) = false := by
  unfold Region.wanted
  rw [hg]
  simp only [yielded, hd]
  cases b <;> cases c <;> simp_all
end Go.Proofs.YtghebacphjglbaaGreat.Cut
/- Data whose rows have marks behind them, in their spare room. No function of a program. -/
namespace Go.Proofs.YtghebacphjglbaaGreat.LentK
open Go Go.RowKit Go.Proofs.YtghebacphjglbaaGreat.Heap Go.Proofs.YtghebacphjglbaaGreat.Dat Go.Proofs.YtghebacphjglbaaGreat.Cut

mutual
/-- a value is data each row of which has marks behind it -/
def LentD (mk : TypeId → List Value) (w : World) (B : Nat) : Dat → Value → Prop
  | .lit u, v => v = u
  | .row E S n items, v => items.length = n * S ∧ n ≤ 1000000 ∧ ∃ g, v = .slice (some ⟨g, 0, none⟩) n (n + 12) ∧ B ≤ g ∧ LentL mk w B g 0 items ∧ ∀ j u, (mk E)[j]? = some u → w.cell? ⟨g, n * S + j, none⟩ = some u
def LentL (mk : TypeId → List Value) (w : World) (B : Nat) : Nat → Nat → List Dat → Prop
  | _, _, [] => True
  | g, o, d :: ds => (∃ u, w.cell? ⟨g, o, none⟩ = some u ∧ LentD mk w B d u) ∧ LentL mk w B g (o + 1) ds
end
/-- values, one by one -/
def LentVs (mk : TypeId → List Value) (w : World) (B : Nat) : List Dat → List Value → Prop
  | [], us => us = []
  | d :: ds, us => ∃ u us', us = u :: us' ∧ LentD mk w B d u ∧ LentVs mk w B ds us'
section
variable {mk : TypeId → List Value}
theorem LentL.nil {w : World} {B g o : Nat} : LentL mk w B g o [] ↔ True := by unfold LentL; exact Iff.rfl
theorem LentL.cons {w : World} {B g o : Nat} {d : Dat} {ds : List Dat} : LentL mk w B g o (d :: ds) ↔ (∃ u, w.cell? ⟨g, o, none⟩ = some u ∧ LentD mk w B d u) ∧ LentL mk w B g (o + 1) ds := by conv => lhs; unfold LentL
theorem LentD.lit_iff {w : World} {B : Nat} {u v : Value} : LentD mk w B (.lit u) v ↔ v = u := by unfold LentD; exact Iff.rfl
theorem LentD.row_iff {w : World} {B : Nat} {E : TypeId} {S n : Nat} {items : List Dat} {v : Value} : LentD mk w B (.row E S n items) v ↔ items.length = n * S ∧ n ≤ 1000000 ∧ ∃ g, v = .slice (some ⟨g, 0, none⟩) n (n + 12) ∧ B ≤ g ∧ LentL mk w B g 0 items ∧ ∀ j u, (mk E)[j]? = some u → w.cell? ⟨g, n * S + j, none⟩ = some u := by conv => lhs; unfold LentD
mutual
theorem LentD.keep {w w' : World} {B : Nat} (hw : ∀ (q : Addr) v, B ≤ q.block → w.cell? q = some v → w'.cell? q = some v) : ∀ {d : Dat} {v : Value}, LentD mk w B d v → LentD mk w' B d v
  | .lit u, v, h => by rw [LentD.lit_iff] at h ⊢; exact h
  | .row E S n items, v, h => by
    rw [LentD.row_iff] at h ⊢
    obtain ⟨h1, h2, g, rfl, h3, h4, h5⟩ := h
    exact ⟨h1, h2, g, rfl, h3, LentL.keep hw h3 h4, fun j u hu => hw _ _ h3 (h5 j u hu)⟩
theorem LentL.keep {w w' : World} {B : Nat} (hw : ∀ (q : Addr) v, B ≤ q.block → w.cell? q = some v → w'.cell? q = some v) : ∀ {ds : List Dat} {g o : Nat}, B ≤ g → LentL mk w B g o ds → LentL mk w' B g o ds
  | [], g, o, _, _ => by rw [LentL.nil]; trivial
  | d :: ds, g, o, hg, h => by
    rw [LentL.cons] at h ⊢
    obtain ⟨⟨u, hu, hd⟩, h2⟩ := h
    exact ⟨⟨u, hw _ _ hg hu, LentD.keep hw hd⟩, LentL.keep hw hg h2⟩
end
mutual
theorem LentD.base {w : World} {B B' : Nat} (hB : B' ≤ B) : ∀ {d : Dat} {v : Value}, LentD mk w B d v → LentD mk w B' d v
  | .lit u, v, h => by rw [LentD.lit_iff] at h ⊢; exact h
  | .row E S n items, v, h => by
    rw [LentD.row_iff] at h ⊢
    obtain ⟨h1, h2, g, rfl, h3, h4, h5⟩ := h
    exact ⟨h1, h2, g, rfl, by omega, LentL.base hB h4, h5⟩
theorem LentL.base {w : World} {B B' : Nat} (hB : B' ≤ B) : ∀ {ds : List Dat} {g o : Nat}, LentL mk w B g o ds → LentL mk w B' g o ds
  | [], g, o, _ => by rw [LentL.nil]; trivial
  | d :: ds, g, o, h => by
    rw [LentL.cons] at h ⊢
    obtain ⟨⟨u, hu, hd⟩, h2⟩ := h
    exact ⟨⟨u, hu, LentD.base hB hd⟩, LentL.base hB h2⟩
end
mutual
theorem LentD.reads {w : World} {B : Nat} : ∀ {d : Dat} {v : Value}, LentD mk w B d v → Reads w d v
  | .lit u, v, h => by rw [LentD.lit_iff] at h; rw [Reads.lit_iff]; exact h
  | .row E S n items, v, h => by
    rw [LentD.row_iff] at h
    rw [Reads.row_iff]
    obtain ⟨h1, h2, g, rfl, h3, h4, h5⟩ := h
    exact ⟨h1, by unfold maxLen; omega, _, _, rfl, .inr (.inl ⟨g, 0, rfl, LentL.reads h4⟩)⟩
theorem LentL.reads {w : World} {B : Nat} : ∀ {ds : List Dat} {g o : Nat}, LentL mk w B g o ds → ReadsL w g o ds
  | [], g, o, _ => by rw [ReadsL.nil]; trivial
  | d :: ds, g, o, h => by
    rw [LentL.cons] at h
    rw [ReadsL.cons]
    obtain ⟨⟨u, hu, hd⟩, h2⟩ := h
    exact ⟨⟨u, hu, LentD.reads hd⟩, LentL.reads h2⟩
end
theorem LentD.below {w w' : World} {B : Nat} {d : Dat} {v : Value} (h : LentD mk w B d v) (hb : Below w.heap.size w w') : LentD mk w' B d v := h.keep fun _ _ _ hc => (hb.cell (World.block_lt_of_cell? _ _ hc)).trans hc
theorem LentD.set {w : World} {B b i : Nat} {d : Dat} {v u : Value} (h : LentD mk w B d v) (hb : b < B) : LentD mk (w.setCell ⟨b, i, none⟩ u) B d v :=
  h.keep fun q _ hq hc => (World.cell?_of_block (w := w) (Below.heap_setCell _ _ _ _ (by show q.block ≠ b; omega))).trans hc
theorem LentVs.keep {w w' : World} {B : Nat} (hw : ∀ (q : Addr) v, B ≤ q.block → w.cell? q = some v → w'.cell? q = some v) : ∀ {ds : List Dat} {us : List Value}, LentVs mk w B ds us → LentVs mk w' B ds us
  | [], _, h => h
  | _ :: _, _, h => by obtain ⟨u, us', rfl, h1, h2⟩ := h; exact ⟨u, us', rfl, h1.keep hw, LentVs.keep hw h2⟩
theorem LentVs.base {w : World} {B B' : Nat} (hB : B' ≤ B) : ∀ {ds : List Dat} {us : List Value}, LentVs mk w B ds us → LentVs mk w B' ds us
  | [], _, h => h
  | _ :: _, _, h => by obtain ⟨u, us', rfl, h1, h2⟩ := h; exact ⟨u, us', rfl, h1.base hB, LentVs.base hB h2⟩
theorem LentVs.below {w w' : World} {B : Nat} {ds : List Dat} {us : List Value} (h : LentVs mk w B ds us) (hb : Below w.heap.size w w') : LentVs mk w' B ds us := h.keep fun _ _ _ hc => (hb.cell (World.block_lt_of_cell? _ _ hc)).trans hc
theorem LentVs.len {w : World} {B : Nat} : ∀ {ds : List Dat} {us : List Value}, LentVs mk w B ds us → us.length = ds.length
  | [], us, h => by have h : us = [] := h
                    simp [h]
  | d :: ds, us, h => by obtain ⟨u, us', rfl, _, h2⟩ := h; simp [LentVs.len h2]
theorem LentVs.append {w : World} {B : Nat} : ∀ {ds es : List Dat} {us vs : List Value}, LentVs mk w B ds us → LentVs mk w B es vs → LentVs mk w B (ds ++ es) (us ++ vs)
  | [], es, us, vs, h, k => by have h : us = [] := h
                               rw [h]; exact k
  | d :: ds, es, us, vs, h, k => by obtain ⟨u, us', rfl, h1, h2⟩ := h; exact ⟨u, us' ++ vs, rfl, h1, LentVs.append h2 k⟩
theorem LentVs.reads {w : World} {B : Nat} : ∀ {ds : List Dat} {us : List Value}, LentVs mk w B ds us → ReadsV w ds us
  | [], us, h => h
  | d :: ds, us, h => by obtain ⟨u, us', rfl, h1, h2⟩ := h; exact ⟨u, us', rfl, h1.reads, LentVs.reads h2⟩
theorem LentVs.one {w : World} {B : Nat} {ds : List Dat} {us : List Value} (h : LentVs mk w B ds us) (ho : ∀ d ∈ ds, oneD d = true) : ∀ u ∈ us, u.oneCell' = true := h.reads.one ho
theorem LentVs.cells {w : World} {B g : Nat} : ∀ {ds : List Dat} {us : List Value} {o : Nat}, LentVs mk w B ds us → (∀ k u, us[k]? = some u → w.cell? ⟨g, o + k, none⟩ = some u) → LentL mk w B g o ds
  | [], us, o, _, _ => by rw [LentL.nil]; trivial
  | d :: ds, us, o, h, hc => by
    obtain ⟨u, us', rfl, h1, h2⟩ := h
    rw [LentL.cons]
    refine ⟨⟨u, by simpa using hc 0 u rfl, h1⟩, LentVs.cells h2 fun k x hk => ?_⟩
    have := hc (k + 1) x (by simpa using hk)
    rwa [show o + (k + 1) = o + 1 + k by omega] at this
theorem LentL.vals {w : World} {B g : Nat} : ∀ {ds : List Dat} {o : Nat}, LentL mk w B g o ds → ∃ us, LentVs mk w B ds us ∧ ∀ k u, us[k]? = some u → w.cell? ⟨g, o + k, none⟩ = some u
  | [], o, _ => ⟨[], rfl, fun k u h => by simp at h⟩
  | d :: ds, o, h => by
    rw [LentL.cons] at h
    obtain ⟨⟨u, h1, h2⟩, h3⟩ := h
    obtain ⟨us, h4, h5⟩ := LentL.vals h3
    refine ⟨u :: us, ⟨u, us, rfl, h2, h4⟩, fun k x hk => ?_⟩
    cases k with
    | zero => have : u = x := by simpa using hk
              rw [← this]; exact h1
    | succ k => have := h5 k x (by simpa using hk)
                rwa [show o + 1 + k = o + (k + 1) by omega] at this
theorem LentL.drop {w : World} {B g : Nat} : ∀ {ds : List Dat} {o : Nat} (k : Nat), LentL mk w B g o ds → LentL mk w B g (o + k) (ds.drop k)
  | ds, o, 0, h => by simpa using h
  | [], o, k + 1, h => by simp [LentL.nil]
  | e :: ds, o, k + 1, h => by
    rw [LentL.cons] at h
    have := LentL.drop (o := o + 1) k h.2
    rw [show o + 1 + k = o + (k + 1) by omega] at this
    simpa using this
theorem LentL.take {w : World} {B g : Nat} : ∀ {ds : List Dat} {o : Nat} (k : Nat), LentL mk w B g o ds → LentL mk w B g o (ds.take k)
  | ds, o, 0, h => by simp [LentL.nil]
  | [], o, k + 1, h => by simp [LentL.nil]
  | e :: ds, o, k + 1, h => by
    rw [LentL.cons] at h
    rw [List.take_succ_cons, LentL.cons]
    exact ⟨h.1, LentL.take k h.2⟩
end
theorem ReadsL.take {w : World} {g : Nat} : ∀ {ds : List Dat} {o : Nat} (k : Nat), ReadsL w g o ds → ReadsL w g o (ds.take k)
  | ds, o, 0, h => by simp [ReadsL.nil]
  | [], o, k + 1, h => by simp [ReadsL.nil]
  | e :: ds, o, k + 1, h => by
    rw [ReadsL.cons] at h
    rw [List.take_succ_cons, ReadsL.cons]
    exact ⟨h.1, ReadsL.take k h.2⟩
theorem flat_part {α : Type} (dat : α → List Dat) (S : Nat) (hS : ∀ x, (dat x).length = S) : ∀ (l : List α) (k : Nat) (hk : k < l.length), ((l.flatMap dat).drop (k * S)).take S = dat (l[k]'hk)
  | x :: l, 0, _ => by simp [hS]
  | x :: l, k + 1, hk => by
    have := flat_part dat S hS l k (by simpa using hk)
    rw [List.flatMap_cons, Nat.add_one_mul, Nat.add_comm (k * S) S, List.drop_append, List.drop_eq_nil_of_le (by rw [hS]; omega), hS, Nat.add_sub_cancel_left, List.nil_append, this]
    rfl
theorem elem_lent {mk : TypeId → List Value} {α : Type} {dat : α → List Dat} {S : Nat} (hS : ∀ x, (dat x).length = S) {l : List α} {w : World} {B g o : Nat} (h : LentL mk w B g o (l.flatMap dat)) {k : Nat} (hk : k < l.length) :
    ∃ us, LentVs mk w B (dat (l[k]'hk)) us ∧ ∀ j u, us[j]? = some u → w.cell? ⟨g, o + k * S + j, none⟩ = some u := by
  have h1 := LentL.take S (LentL.drop (k * S) h)
  rw [flat_part dat S hS l k hk] at h1
  exact LentL.vals h1
theorem ReadsV.below {w w' : World} (hb : Below w.heap.size w w') : ∀ {ds : List Dat} {us : List Value}, ReadsV w ds us → ReadsV w' ds us
  | [], _, h => h
  | _ :: _, _, h => by obtain ⟨u, us', rfl, h1, h2⟩ := h; exact ⟨u, us', rfl, Reads.below hb h1, ReadsV.below hb h2⟩
theorem flat_snoc {α β : Type} (f : α → List β) (l : List α) (k : Nat) (hk : k < l.length) : (l.take (k + 1)).flatMap f = (l.take k).flatMap f ++ f (l[k]'hk) := by
  rw [List.take_succ_eq_append_getElem hk, List.flatMap_append]; simp
theorem flat_len {α β : Type} (f : α → List β) (S : Nat) (hS : ∀ x, (f x).length = S) : ∀ l : List α, (l.flatMap f).length = l.length * S
  | [] => by simp
  | x :: l => by rw [List.flatMap_cons, List.length_append, hS, flat_len f S hS l, List.length_cons]; rw [Nat.add_one_mul]; omega
theorem alloc2 (w : World) (o1 o2 : Obj) : ((w.alloc o1).alloc o2).heap[w.heap.size + 1]? = some o2 := by
  have := heap_alloc_new (w.alloc o1) o2
  have hs : (w.alloc o1).heap.size = w.heap.size + 1 := by simp
  rwa [hs] at this
theorem blk_set {w : World} {b : Nat} {cs : Array Value} {T : TypeId} (h : w.heap[b]? = some (.cells cs T (0, 0))) (i : Nat) (v : Value) : (w.setCell ⟨b, i, none⟩ v).heap[b]? = some (.cells (cs.setIfInBounds i v) T (0, 0)) := heap_setCell_same w b i cs T v h
end Go.Proofs.YtghebacphjglbaaGreat.LentK
