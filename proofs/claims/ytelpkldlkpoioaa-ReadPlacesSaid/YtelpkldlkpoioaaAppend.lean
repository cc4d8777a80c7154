/- A region that draws its order: x.f = append(x.f, g(..)): the law of the whole region, of any program. -/
import Derived.Test.YtelpkldlkpoioaaCut
import Derived.Test.YtelpkldlkpoioaaDat
import Derived.Deep.AppendLies
namespace Go.Proofs.Ytelpkldlkpoioaa.Cut
open Go Go.RowKit Go.Proofs.Ytelpkldlkpoioaa.Heap Go.Proofs.Ytelpkldlkpoioaa.Dat

/-- the region's Bool -/
def app8B (o0 o1 o2 o3 o4 o5 o6 o7 : Oper) : Bool :=
  ordB 5 0 [o0, o1, o2, o3, o4] && phB [o0, o1, o2, o3, o4] [o5, o6, o7] && Region.noSelect #[o0, o1, o2, o3, o4] && mixB #[o0, o1, o2, o3, o4] [true, true, true, false, false] 0 #[false, false, false, false, false] &&
    chainB #[o0, o1, o2, o3, o4, o5, o6, o7] 3 5 #[true, true, true, true, true, false, false, false] && [o0, o1, o2, o3, o4, o5, o6, o7].all fun o => o.guard.isNone
theorem want_none {o : Oper} {y : Nat → Option Bool} (h : o.guard.isNone = true) : Region.wanted o y = true := by
  unfold Region.wanted
  cases hg : o.guard with
  | none => rfl
  | some g => rw [hg] at h; cases h

theorem wp_go {P : Program} {o : Oper} {a : Act} {w : World} {f : FuncId} {args : Array Value} {K : Act → World → Prop} {Q : Exit → Act → World → Prop} (hr : (execOp a.eval o).run P w = .ok (.enter f args) w)
    (h : Calls P f args w fun | .returned v, w' => K (a.put o.dst v) w' | .panicked c, w' => Q (.panic c) a w' | .outgrown, _ => LetsOut Q) : o.wp P a w K Q := by
  unfold Oper.wp; rw [hr]; exact h
theorem wp_val {P : Program} {o : Oper} {a : Act} {w w' : World} {v : Value} {K : Act → World → Prop} {Q : Exit → Act → World → Prop} (hr : (execOp a.eval o).run P w = .ok (.value v) w') (h : K (a.put o.dst v) w') : o.wp P a w K Q := by
  unfold Oper.wp; rw [hr]; exact h
theorem wp_do {P : Program} {o : Oper} {a : Act} {w w' : World} {K : Act → World → Prop} {Q : Exit → Act → World → Prop} (hr : (execOp a.eval o).run P w = .ok .skip w') (h : K (a.put o.dst undef) w') : o.wp P a w K Q := by
  unfold Oper.wp; rw [hr]; exact h
theorem list_step {P : Program} {ops : Array Oper} {Q : Exit → Act → World → Prop} {o : Oper} {l : List Oper} {a : Act} {w : World} (hg : o.guard.isNone = true) (h : o.wp P a w (wpList P ops Q l) Q) : wpList P ops Q (o :: l) a w := by
  rw [wpList, if_pos (want_none hg)]; exact .inl h

/-- what is known behind the call: of its answer's cells, and of the world -/
structure Came (w w1 : World) (B H : Nat) (rr : Option Nat) (us : List Value) (ds : List Dat) (b2 : List Nat) : Prop where
  lies : LiesL w1 w.heap.size ds us b2
  nodup : b2.Nodup
  grown : w.grownBy w1 rr
  far : ∀ j, rr = some j → j < B ∧ j ≠ H

theorem append8 {P : Program} {Q : Exit → Act → World → Prop} {id : Nat} {a : Act} {w : World} {o0 o1 o2 o3 o4 o5 o6 o7 : Oper} {α : Type} {val : α → Value} {us : α → List Value} {ds : α → List Dat} {X : α → World → Prop} {B H fo E S n bytes R : Nat} {ti : TypeInfo} {z : Value} {items : List Dat} {bk : List Nat} {rv v2 : Value} {f : FuncId} {args : Array Value} {rr : Option Nat} {S2 : World → Prop} {sx xx : Operand}
    (hm : P.follows .mixedOrders = true) (hB : app8B o0 o1 o2 o3 o4 o5 o6 o7 = true) (hQ : Loose (fun d => d ∈ [o0, o1, o2, o3, o4].map (·.dst)) Q)
    (hcell : w.cell? ⟨H, fo, none⟩ = some rv) (hfro : w.frozen? ⟨H, fo, none⟩ = false) (hL : Lies w B (.row E S n items) rv bk) (hnd : bk.Nodup) (hHB : H < B) (hBw : B ≤ w.heap.size)
    (hE : P.underlying R = some (.slice E)) (hi : P.info? E = some ti) (hz : ti.zero = some z) (hsz : ti.size = S) (hby : ti.bytes = bytes) (hzs : z.cells.size = S) (hS0 : 0 < S) (hn : n ≤ 1000000) (hb1 : bytes ≤ 1000)
    (hus : ∀ x, (us x).length = S ∧ (ds x).length = S ∧ ∀ u ∈ us x, u.oneCell' = true)
    (y0 : ∀ u, (execOp a.eval o0).run P u = .ok (.value (.pointer (some ⟨H, fo, none⟩))) u)
    (y1 : ∀ u, u.cell? ⟨H, fo, none⟩ = some rv → (execOp (a.put o0.dst (.pointer (some ⟨H, fo, none⟩))).eval o1).run P u = .ok (.value rv) u)
    (hS2 : S2 w.drew) (hS2n : ∀ u o, S2 u → S2 (u.alloc o))
    (y2 : ∀ u, S2 u → (execOp ((a.put o0.dst (.pointer (some ⟨H, fo, none⟩))).put o1.dst rv).eval o2).run P u = .ok (.value v2) u)
    (y3 : ∀ u, (execOp (((a.put o0.dst (.pointer (some ⟨H, fo, none⟩))).put o1.dst rv).put o2.dst v2).eval o3).run P u = .ok (.enter f args) u)
    (hc : Calls P f args w.drew fun e w1 => (∃ c, e = .panicked c ∧ Q (.panic c) (((a.put o0.dst (.pointer (some ⟨H, fo, none⟩))).put o1.dst rv).put o2.dst v2) w1) ∨ ∃ x b2, e = .returned (val x) ∧ X x w1 ∧ S2 w1 ∧ Came w w1 B H rr (us x) (ds x) b2)
    (y4 : ∀ x u, (execOp ((((a.put o0.dst (.pointer (some ⟨H, fo, none⟩))).put o1.dst rv).put o2.dst v2).put o3.dst (val x)).eval o4).run P u = .ok (.value (.slice (some ⟨u.heap.size, 0, none⟩) 1 1)) (u.alloc (.cells (us x).toArray E)))
    (y5 : o5.op = .call { callee := .builtin .append, args := #[sx, xx], argTypes := #[R, R] })
    (y5a : ∀ x v4, (((((a.put o0.dst (.pointer (some ⟨H, fo, none⟩))).put o1.dst rv).put o2.dst v2).put o3.dst (val x)).put o4.dst v4).eval sx = rv)
    (y5b : ∀ x v4, (((((a.put o0.dst (.pointer (some ⟨H, fo, none⟩))).put o1.dst rv).put o2.dst v2).put o3.dst (val x)).put o4.dst v4).eval xx = v4)
    (y6 : ∀ x v4 v5 u, (execOp ((((((a.put o0.dst (.pointer (some ⟨H, fo, none⟩))).put o1.dst rv).put o2.dst v2).put o3.dst (val x)).put o4.dst v4).put o5.dst v5).eval o6).run P u = .ok (.value (.pointer (some ⟨H, fo, none⟩))) u)
    (y7 : ∀ x v4 g cp u, u.cell? ⟨H, fo, none⟩ = some rv → u.frozen? ⟨H, fo, none⟩ = false → (execOp (((((((a.put o0.dst (.pointer (some ⟨H, fo, none⟩))).put o1.dst rv).put o2.dst v2).put o3.dst (val x)).put o4.dst v4).put o5.dst (.slice (some ⟨g, 0, none⟩) (n + 1) cp)).put o6.dst (.pointer (some ⟨H, fo, none⟩))).eval o7).run P u = .ok .skip (u.setCell ⟨H, fo, none⟩ (.slice (some ⟨g, 0, none⟩) (n + 1) cp)))
    (hfin : ∀ x w1 wa g cp bk' v4, X x w1 → (∃ r, w1.grownBy wa r ∧ ∀ j, r = some j → j ∈ bk) → w.grownBy wa rr ∨ (∃ wx, w.grownBy wx rr ∧ wx.grownBy wa rv.ownBlock) → Lies (wa.setCell ⟨H, fo, none⟩ (.slice (some ⟨g, 0, none⟩) (n + 1) cp)) B (.row E S (n + 1) (items ++ ds x)) (.slice (some ⟨g, 0, none⟩) (n + 1) cp) bk' → bk'.Nodup → (∀ b ∈ bk', b ∈ bk ∨ w.heap.size ≤ b) → w.heap.size ≤ wa.heap.size → H ∉ bk' →
      Q .normal ((((((((a.put o0.dst (.pointer (some ⟨H, fo, none⟩))).put o1.dst rv).put o2.dst v2).put o3.dst (val x)).put o4.dst v4).put o5.dst (.slice (some ⟨g, 0, none⟩) (n + 1) cp)).put o6.dst (.pointer (some ⟨H, fo, none⟩))).put o7.dst undef) (wa.setCell ⟨H, fo, none⟩ (.slice (some ⟨g, 0, none⟩) (n + 1) cp))) :
    (Code.region id #[o0, o1, o2, o3, o4, o5, o6, o7] true).wp P Q a w := by
  unfold app8B at hB
  simp only [Bool.and_eq_true, List.all_cons, List.all_nil, Bool.and_true] at hB
  obtain ⟨⟨⟨⟨⟨hB1, hB2⟩, hB3⟩, hB4⟩, hB5⟩, g0, g1, g2, g3, g4, g5, g6, g7⟩ := hB
  have hlt := Lies.lt hL
  refine wp_region_mix (l1 := [o0, o1, o2, o3, o4]) (l2 := [o5, o6, o7]) [true, true, true, false, false] (fun u => u.cell? ⟨H, fo, none⟩ = some rv ∧ S2 u) hm ?_ hQ ⟨by exact hcell, hS2⟩ ?_
  · simp only [Bool.and_eq_true]
    exact ⟨⟨⟨⟨⟨hB1, hB2⟩, hB3⟩, hB4⟩, rfl⟩, hB5⟩
  refine mix_take _ (want_none g0) (fun u _ => y0 u) ?_
  refine mix_take _ (want_none g1) (fun u hu => y1 u hu.1) ?_
  refine mix_take _ (want_none g2) (fun u hu => y2 u hu.2) ?_
  refine mix_go (want_none g3) fun K hK => wp_go (y3 _) (hc.mono ?_)
  rintro e w1 (⟨c, rfl, hc⟩ | ⟨x, b2, rfl, hX, hS2', hcame⟩)
  · exact hc
  obtain ⟨hlies, hnd2, hgr, hfar⟩ := hcame
  have hH1 : w1.heap[H]? = w.heap[H]? := hgr.block H (by omega) (fun e => (hfar H e.symm).2 rfl)
  have c1 : w1.cell? ⟨H, fo, none⟩ = some rv := (World.cell?_of_block hH1).trans hcell
  have f1 : w1.frozen? ⟨H, fo, none⟩ = false := (World.frozen?_of_block hH1).trans hfro
  refine hK.out _ _ ⟨c1, hS2'⟩ ?_
  refine mix_go (want_none g4) fun K4 hK4 => wp_val (y4 x w1) ?_
  have hsz1 := hgr.size
  have c2 : (w1.alloc (.cells (us x).toArray E)).cell? ⟨H, fo, none⟩ = some rv := (World.cell?_alloc_past _ _ _ (by show H < w1.heap.size; omega)).trans c1
  refine hK4.out _ _ ⟨c2, hS2n _ _ hS2'⟩ ?_
  -- the rest
  show upTo Q _ .normal _ _
  refine list_step g5 ?_
  have hL1 : Lies w1 B (.row E S n items) rv bk := Lies.kept hgr hL fun b hb e => by have := (hfar b e.symm).1; have := (hlt b hb).1; omega
  have hL2 := hL1.below (B' := w1.heap.size) ((Below.refl _ _).alloc (Nat.le_refl _) (.cells (us x).toArray E)) (fun b hb => (Lies.lt hL1 b hb).2)
  have hd1 : LiesL w1 B (ds x) (us x) b2 := LiesL.base hBw hlies
  have hd2 := LiesL.below (B' := w1.heap.size) ((Below.refl _ w1).alloc (Nat.le_refl _) (.cells (us x).toArray E)) hd1 (fun b hb => (LiesL.lt hd1 b hb).2)
  have hl2 : ∀ b ∈ b2, w.heap.size ≤ b ∧ b < w1.heap.size := fun b hb => LiesL.lt hlies b hb
  obtain ⟨xs, bs', ho, hlx, hob, hil⟩ := hL2.own
  refine wp_append_lies _ sx xx R y5 B E ti z S bytes hE hi hz hsz hby hzs hS0 rv n xs (y5a _ _) ho ⟨w1.heap.size, 0, none⟩ 1 1 (us x) (y5b _ _) (by simpa using (hus x).1) (World.news_of_block (heap_alloc_new w1 _)) (hus x).2.2 (by omega) (by unfold maxLen; omega) ?_ (by simp; omega) (w1.heap.size + 1) (by simp) ?_
  · calc (n + 1) * bytes ≤ (n + 1) * 1000 := Nat.mul_le_mul_left _ hb1
      _ ≤ 140737488355328 := by omega
  intro g cp wa hown hga hat hga_lt
  have hnd' : (bk ++ b2).Nodup := List.nodup_append.2 ⟨hnd, hnd2, fun p hp q hq e => by have := (hlt p hp).2; have := (hl2 q hq).1; omega⟩
  obtain ⟨hrow, hrnd, hrm⟩ := Lies.snoc (us := us x) (ds := ds x) hlx hil hd2 (hus x).2.1 hob hnd' hown hga (by simpa using hat)
  have hHrow : some H ≠ rv.ownBlock := fun e => by
    rcases hob with ⟨h0, _, _⟩ | ⟨q, hq, hbk⟩
    · rw [h0] at e; cases e
    · rw [hq] at e
      have : H = q := Option.some.inj e
      have := (hlt q (by rw [hbk]; simp)).1
      omega
  have hHa : wa.heap[H]? = w1.heap[H]? := (hga.block H (by simp; omega) hHrow).trans (Below.heap_alloc w1 _ H (by omega))
  refine list_step g6 (wp_val (y6 _ _ _ _) ?_)
  refine list_step g7 (wp_do (y7 _ _ _ _ _ ((World.cell?_of_block hHa).trans c1) ((World.frozen?_of_block hHa).trans f1)) ?_)
  have hHn : H ∉ g :: (bs' ++ b2) := fun hm => by
    rcases hrm H hm with h | h
    · rcases List.mem_append.1 h with h | h
      · have := (hlt H h).1; omega
      · have := (hl2 H h).1; omega
    · simp at h; omega
  have hga1 : w1.grownBy wa rv.ownBlock := ⟨hga.os, hga.tape, hga.output, by have := hga.size; simp at this; omega, fun i hi hr => (hga.block i (by simp; omega) hr).trans (Below.heap_alloc w1 _ i hi)⟩
  refine hfin x w1 wa g cp _ _ hX ⟨_, hga1, fun j hj => ?_⟩ (.inr ⟨w1, hgr, hga1⟩) (Lies.kept (Heap.grown_set wa ⟨H, fo, none⟩ _) hrow fun b hb e => hHn (by have : b = H := Option.some.inj e; rw [← this]; exact hb)) hrnd (fun b hb => ?_) (by have := hga1.size; omega) hHn
  · rcases hob with ⟨h0, _, _⟩ | ⟨q, hq, hbk⟩
    · rw [h0] at hj; cases hj
    · rw [hq] at hj; rw [hbk, ← Option.some.inj hj]; simp
  · rcases hrm b hb with h | h
    · rcases List.mem_append.1 h with h | h
      · exact .inl h
      · exact .inr (hl2 b h).1
    · simp at h; right; omega
end Go.Proofs.Ytelpkldlkpoioaa.Cut
