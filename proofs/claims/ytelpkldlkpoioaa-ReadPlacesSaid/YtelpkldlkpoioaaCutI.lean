/- Regions that draw their order, walked in two parts; what comes ahead in an order that is told by its numbers. No function of a program. -/
import Derived.Test.YtelpkldlkpoioaaCut
import Derived.Test.YtelpkldlkpoioaaAppend
namespace Go.Proofs.Ytelpkldlkpoioaa.Cut
open Go
section
variable {P : Program} {Q : Exit → Act → World → Prop} {J : Act → World → Prop} {S : World → Prop}
/-- what comes ahead, in the order of these numbers: true: it yields its value in every world that meets S; false: it alone may come up -/
def wpMixI (P : Program) (ops : Array Oper) (Q : Exit → Act → World → Prop) (S : World → Prop) : List (Nat × Bool) → Act → World → Prop
  | [], a, w => Q .normal a w
  | (i, true) :: l, a, w => ∃ o, ops[i]? = some o ∧ Region.wanted o (yielded ops a.tmps) = true ∧ ∃ v, (∀ u, S u → (execOp a.eval o).run P u = .ok (.value v) u) ∧ wpMixI P ops Q S l (a.put o.dst v) w
  | (i, false) :: l, a, w => ∃ o, ops[i]? = some o ∧ Region.wanted o (yielded ops a.tmps) = true ∧ o.wp P a w (fun a' w' => S w' ∧ wpMixI P ops Q S l a' w') Q
def mixBI (ops : Array Oper) : List (Nat × Bool) → Array Bool → Bool
  | [], L => (Region.ready .any ops L).isEmpty
  | (k, true) :: l, L => (Region.ready .any ops L).contains k && Region.free .any ops L k && mixBI ops l (L.setIfInBounds k true)
  | (k, false) :: l, L => (Region.ready .any ops L == [k]) && mixBI ops l (L.setIfInBounds k true)
theorem any_mixI {ops : Array Oper} {D : Option Tmp → Prop} (hs : Region.noSelect ops = true) (hQ : Loose D Q) (hD : ∀ o ∈ ops.toList, D o.dst) : ∀ (l : List (Nat × Bool)) (L : Array Bool) (a : Act) (w : World), mixBI ops l L = true → S w →
    wpMixI P ops Q S l a w → wpAnyH P .any ops Q S l.length L a w
  | [], L, a, w, hB, _, h => ⟨by simpa [mixBI] using hB, h⟩
  | (k, true) :: l, L, a, w, hB, hS, h => by
    simp only [mixBI, Bool.and_eq_true] at hB
    obtain ⟨o, h0, hw, v, hv, h⟩ := h
    exact wpAnyH_take h0 hs hB.1.2 hB.1.1 (fun c a w h => hQ _ _ _ _ _ (hD o (by have := Array.mem_of_getElem? h0; simpa using this)) h) (.inl ⟨hw, hv⟩) hS (any_mixI hs hQ hD l _ _ _ hB.2 hS h)
  | (k, false) :: l, L, a, w, hB, hS, h => by
    simp only [mixBI, Bool.and_eq_true, beq_iff_eq] at hB
    obtain ⟨o, h0, hw, h⟩ := h
    refine ⟨fun h0 => by rw [h0] at hB; simp at hB, fun i hi => ?_⟩
    rw [hB.1] at hi
    obtain rfl : i = k := by simpa using hi
    have hn : ∀ a w, (S w ∧ wpMixI P ops Q S l a w) → (S w ∧ wpAnyH P .any ops Q S l.length (L.setIfInBounds i true) a w) := fun a w h => ⟨h.1, any_mixI hs hQ hD l _ a w hB.2 h.1 h.2⟩
    unfold wpOp
    rw [h0]
    simp only
    rw [if_pos hw]
    exact .inl (Oper.wp_mono hn h)
theorem mixI_take {ops : Array Oper} {i : Nat} {o : Oper} {l : List (Nat × Bool)} {a : Act} {w : World} (v : Value) (h0 : ops[i]? = some o) (hw : Region.wanted o (yielded ops a.tmps) = true) (hv : ∀ u, S u → (execOp a.eval o).run P u = .ok (.value v) u)
    (h : wpMixI P ops Q S l (a.put o.dst v) w) : wpMixI P ops Q S ((i, true) :: l) a w := ⟨o, h0, hw, v, hv, h⟩
theorem mixI_go {ops : Array Oper} {i : Nat} {o : Oper} {l : List (Nat × Bool)} {a : Act} {w : World} (h0 : ops[i]? = some o) (hw : Region.wanted o (yielded ops a.tmps) = true)
    (h : ∀ K : Act → World → Prop, Shut (∀ a w, S w → wpMixI P ops Q S l a w → K a w) → o.wp P a w K Q) : wpMixI P ops Q S ((i, false) :: l) a w :=
  ⟨o, h0, hw, h _ (fun _ _ h1 h2 => ⟨h1, h2⟩)⟩
end
/-- a guard that is met -/
theorem wanted_at {o : Oper} {ops : Array Oper} {a : Act} {g : Nat} {b : Bool} {t : Tmp} (hg : o.guard = some (g, b)) (hd : (ops[g]?).bind (·.dst) = some t) (hv : a.tmps[t]? = some (.bool b)) : Region.wanted o (yielded ops a.tmps) = true := by
  unfold Region.wanted
  rw [hg]
  simp [yielded, hd, hv]
theorem put_far {a : Act} {d : Option Tmp} {v x : Value} {t : Tmp} (hd : d ≠ some t) (h : a.tmps[t]? = some x) : (a.put d v).tmps[t]? = some x := by
  cases d with
  | none => exact h
  | some i =>
    have hi : i ≠ t := fun e => hd (by rw [e])
    show (a.tmps.setIfInBounds i v)[t]? = some x
    rw [Array.getElem?_setIfInBounds_ne hi]; exact h
/-- THE REGION: what comes ahead (l1) in the order of these numbers, what is behind (l2) a plain list -/
theorem wp_region_mixI {P : Program} {Q : Exit → Act → World → Prop} {l1 l2 : List Oper} {id : Nat} {a : Act} {w : World} (is : List (Nat × Bool)) (S : World → Prop) (hm : P.follows .mixedOrders = true)
    (hB : (ordB l1.length 0 l1 && phB l1 l2 && Region.noSelect l1.toArray && mixBI l1.toArray is (Array.replicate l1.length false) && (is.length == l1.length) && chainB (l1 ++ l2).toArray l2.length l1.length (List.replicate l1.length true ++ List.replicate l2.length false).toArray) = true)
    (hQ : Loose (fun d => d ∈ l1.map (·.dst)) Q) (hS : S { w with drawn := w.drawn + 1 })
    (h : wpMixI P l1.toArray (upTo Q (wpList P (l1 ++ l2).toArray Q l2)) S is a { w with drawn := w.drawn + 1 }) : (Code.region id (l1 ++ l2).toArray true).wp P Q a w := by
  simp only [Bool.and_eq_true, beq_iff_eq] at hB
  obtain ⟨⟨⟨⟨⟨h1, h2⟩, h3⟩, h4⟩, h5⟩, h6⟩ := hB
  refine wp_region_cut S (wpList P (l1 ++ l2).toArray Q l2) hm (by rw [h1, h2]; rfl) ?_ fun a w hJ => ?_
  · have := any_mixI (P := P) (S := S) (Q := upTo Q (wpList P (l1 ++ l2).toArray Q l2)) h3 (fun c a d v w hd h => hQ c a d v w hd h) (fun o ho => List.mem_map_of_mem (by simpa using ho)) is _ a _ h4 hS h
    rw [h5] at this
    exact this
  · exact any_list l2 l1.length _ a w (fun j => by simp [List.getElem?_append_right]) h6 hJ
end Go.Proofs.Ytelpkldlkpoioaa.Cut
