/- A region that draws its order, what comes ahead in the order of these numbers; operations that are not wanted are passed over. No function of a program. -/
import Derived.Test.YtkjpdhnibfhaaaaCut
namespace Go.Proofs.Ytkjpdhnibfhaaaa.Cut
open Go Go.RowKit
section
variable {P : Program} {Q : Exit → Act → World → Prop} {J : Act → World → Prop} {S : World → Prop}
/-- true: it yields its value in every world that meets S; false: it alone may come up; either: not wanted -/
def wpMixS (P : Program) (ops : Array Oper) (Q : Exit → Act → World → Prop) (S : World → Prop) : List (Nat × Bool) → Act → World → Prop
  | [], a, w => Q .normal a w
  | (i, true) :: l, a, w => ∃ o v, ops[i]? = some o ∧ YieldsIf P ops S o v a ∧ wpMixS P ops Q S l (a.put o.dst v) w
  | (i, false) :: l, a, w => ∃ o, ops[i]? = some o ∧ Region.wanted o (yielded ops a.tmps) = true ∧ o.wp P a w (fun a' w' => S w' ∧ wpMixS P ops Q S l a' w') Q
theorem any_mixS {ops : Array Oper} {D : Option Tmp → Prop} (hs : Region.noSelect ops = true) (hQ : Loose D Q) (hD : ∀ o ∈ ops.toList, D o.dst) : ∀ (l : List (Nat × Bool)) (L : Array Bool) (a : Act) (w : World), mixBI ops l L = true → S w →
    wpMixS P ops Q S l a w → wpAnyH P .any ops Q S l.length L a w
  | [], L, a, w, hB, _, h => ⟨by simpa [mixBI] using hB, h⟩
  | (k, true) :: l, L, a, w, hB, hS, h => by
    simp only [mixBI, Bool.and_eq_true] at hB
    obtain ⟨o, v, h0, hv, h⟩ := h
    exact wpAnyH_take h0 hs hB.1.2 hB.1.1 (fun c a w h => hQ _ _ _ _ _ (hD o (by have := Array.mem_of_getElem? h0; simpa using this)) h) hv hS (any_mixS hs hQ hD l _ _ _ hB.2 hS h)
  | (k, false) :: l, L, a, w, hB, hS, h => by
    simp only [mixBI, Bool.and_eq_true, beq_iff_eq] at hB
    obtain ⟨o, h0, hw, h⟩ := h
    refine ⟨fun h0 => by rw [h0] at hB; simp at hB, fun i hi => ?_⟩
    rw [hB.1] at hi
    obtain rfl : i = k := by simpa using hi
    have hn : ∀ a w, (S w ∧ wpMixS P ops Q S l a w) → (S w ∧ wpAnyH P .any ops Q S l.length (L.setIfInBounds i true) a w) := fun a w h => ⟨h.1, any_mixS hs hQ hD l _ a w hB.2 h.1 h.2⟩
    unfold wpOp
    rw [h0]
    simp only
    rw [if_pos hw]
    exact .inl (Oper.wp_mono hn h)
theorem mixS_take {ops : Array Oper} {i : Nat} {o : Oper} {l : List (Nat × Bool)} {a : Act} {w : World} (v : Value) (h0 : ops[i]? = some o) (hw : Region.wanted o (yielded ops a.tmps) = true) (hv : ∀ u, S u → (execOp a.eval o).run P u = .ok (.value v) u)
    (h : wpMixS P ops Q S l (a.put o.dst v) w) : wpMixS P ops Q S ((i, true) :: l) a w := ⟨o, v, h0, .inl ⟨hw, hv⟩, h⟩
theorem mixS_skip {ops : Array Oper} {i : Nat} {o : Oper} {l : List (Nat × Bool)} {a : Act} {w : World} (h0 : ops[i]? = some o) (hw : Region.wanted o (yielded ops a.tmps) = false)
    (h : wpMixS P ops Q S l (a.put o.dst undef) w) : wpMixS P ops Q S ((i, true) :: l) a w := ⟨o, undef, h0, .inr ⟨hw, rfl⟩, h⟩
theorem mixS_go {ops : Array Oper} {i : Nat} {o : Oper} {l : List (Nat × Bool)} {a : Act} {w : World} (h0 : ops[i]? = some o) (hw : Region.wanted o (yielded ops a.tmps) = true)
    (h : ∀ K : Act → World → Prop, Shut (∀ a w, S w → wpMixS P ops Q S l a w → K a w) → o.wp P a w K Q) : wpMixS P ops Q S ((i, false) :: l) a w :=
  ⟨o, h0, hw, h _ (fun _ _ h1 h2 => ⟨h1, h2⟩)⟩
end
/-- THE REGION: what comes ahead (l1) in the order of these numbers, what is behind (l2) a plain list -/
theorem wp_region_mixS {P : Program} {Q : Exit → Act → World → Prop} {l1 l2 : List Oper} {id : Nat} {a : Act} {w : World} (is : List (Nat × Bool)) (S : World → Prop) (hm : P.follows .mixedOrders = true)
    (hB : (ordB l1.length 0 l1 && phB l1 l2 && Region.noSelect l1.toArray && mixBI l1.toArray is (Array.replicate l1.length false) && (is.length == l1.length) && chainB (l1 ++ l2).toArray l2.length l1.length (List.replicate l1.length true ++ List.replicate l2.length false).toArray) = true)
    (hQ : Loose (fun d => d ∈ l1.map (·.dst)) Q) (hS : S { w with drawn := w.drawn + 1 })
    (h : wpMixS P l1.toArray (upTo Q (wpList P (l1 ++ l2).toArray Q l2)) S is a { w with drawn := w.drawn + 1 }) : (Code.region id (l1 ++ l2).toArray true).wp P Q a w := by
  simp only [Bool.and_eq_true, beq_iff_eq] at hB
  obtain ⟨⟨⟨⟨⟨h1, h2⟩, h3⟩, h4⟩, h5⟩, h6⟩ := hB
  refine wp_region_cut S (wpList P (l1 ++ l2).toArray Q l2) hm (by rw [h1, h2]; rfl) ?_ fun a w hJ => ?_
  · have := any_mixS (P := P) (S := S) (Q := upTo Q (wpList P (l1 ++ l2).toArray Q l2)) h3 (fun c a d v w hd h => hQ c a d v w hd h) (fun o ho => List.mem_map_of_mem (by simpa using ho)) is _ a _ h4 hS h
    rw [h5] at this
    exact this
  · exact any_list l2 l1.length _ a w (fun j => by simp [List.getElem?_append_right]) h6 hJ
theorem unwanted_at {o : Oper} {ops : Array Oper} {a : Act} {g : Nat} {b c : Bool} {t : Tmp} (hg : o.guard = some (g, b)) (hd : (ops[g]?).bind (·.dst) = some t) (hv : a.tmps[t]? = some (.bool c)) (hbc : b ≠ c) : Region.wanted o (yielded ops a.tmps) = false := by
  unfold Region.wanted
  rw [hg]
  simp only [yielded, hd]
  cases b <;> cases c <;> simp_all
end Go.Proofs.Ytkjpdhnibfhaaaa.Cut
