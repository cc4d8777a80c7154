/- A region that draws its order: x := T{A: f(..).A, N: g(..)}: two calls, and the block of x, which may be made at any time: the law of the whole region, of any program. -/
import Derived.Test.YtelpkldlkpoioaaCut
namespace Go.Proofs.Ytelpkldlkpoioaa.Cut
open Go Go.RowKit Go.Proofs.Ytelpkldlkpoioaa.Heap Go.Proofs.Ytelpkldlkpoioaa.Dat

def twoB (o0 o1 o2 o3 o4 o5 o6 o7 o8 o9 : Oper) : Bool :=
  let l1 := #[o0, o1, o2, o3, o4, o5, o6, o7, o8]
  let l := #[o0, o1, o2, o3, o4, o5, o6, o7, o8, o9]
  let f := false
  let t := true
  let tk := fun (ops : Array Oper) (L : Array Bool) (i : Nat) => Region.free .any ops L i && (Region.ready .any ops L).contains i
  ordB 9 0 [o0, o1, o2, o3, o4, o5, o6, o7, o8] && phB [o0, o1, o2, o3, o4, o5, o6, o7, o8] [o9] && Region.noSelect l1 &&
    (tk l1 #[f, f, f, f, f, f, f, f, f] 0 && tk l1 #[t, f, f, f, f, f, f, f, f] 1 && tk l1 #[t, t, f, f, f, f, f, f, f] 2 && tk l1 #[t, t, t, f, f, f, f, f, f] 5) &&
    (Region.ready .any l1 #[t, t, t, f, f, t, f, f, f] == [3, 8]) &&
    -- the first call first
    (tk l1 #[t, t, t, t, f, t, f, f, f] 4 && Region.ready .any l1 #[t, t, t, t, t, t, f, f, f] == [6, 8] &&
      (tk l1 #[t, t, t, t, t, t, t, f, f] 7 && Region.ready .any l1 #[t, t, t, t, t, t, t, t, f] == [8]) && (Region.ready .any l1 #[t, t, t, t, t, t, f, f, t] == [6] && tk l1 #[t, t, t, t, t, t, t, f, t] 7)) &&
    -- the block first
    (Region.ready .any l1 #[t, t, t, f, f, t, f, f, t] == [3] && tk l1 #[t, t, t, t, f, t, f, f, t] 4) && Region.ready .any l1 #[t, t, t, t, t, t, t, t, t] == [] &&
    chainB l 1 9 #[t, t, t, t, t, t, t, t, t, f] &&
    ([o0, o1, o2, o3, o4, o5, o6, o7, o8, o9].all fun o => o.guard.isNone) && (o8.dst.isSome && o8.dst != o3.dst && o8.dst != o4.dst && o8.dst != o6.dst && o8.dst != o7.dst)

theorem two_calls {P : Program} {Q : Exit → Act → World → Prop} {id : Nat} {a : Act} {w : World} {o0 o1 o2 o3 o4 o5 o6 o7 o8 o9 : Oper} {E : TypeId} {zs : Array Value} {v0 v1 v2 v3 v4 v5 v6 v7 : Value} {f1 f2 : FuncId} {args1 args2 : Array Value} {rr : Option Nat} {S X : World → Prop}
    (hm : P.follows .mixedOrders = true) (hB : twoB o0 o1 o2 o3 o4 o5 o6 o7 o8 o9 = true) (hQ : Loose (fun _ => True) Q)
    (hS : S w.drew) (hSn : ∀ u o, S u → S (u.alloc o)) (hXS : ∀ u, X u → S u) (hXn : ∀ u o, X u → X (u.alloc o)) (hrr : ∀ j, rr = some j → j < w.heap.size)
    (A0 : Act) (hA0 : A0 = a.put o0.dst v0) (A1 : Act) (hA1 : A1 = A0.put o1.dst v1) (A2 : Act) (hA2 : A2 = A1.put o2.dst v2) (A5 : Act) (hA5 : A5 = A2.put o5.dst v5) (A3 : Act) (hA3 : A3 = A5.put o3.dst v3) (A4 : Act) (hA4 : A4 = A3.put o4.dst v4) (A6 : Act) (hA6 : A6 = A4.put o6.dst v6) (A7 : Act) (hA7 : A7 = A6.put o7.dst v7)
    (y0 : ∀ u, S u → (execOp a.eval o0).run P u = .ok (.value v0) u)
    (y1 : ∀ u, S u → (execOp A0.eval o1).run P u = .ok (.value v1) u)
    (y2 : ∀ u, S u → (execOp A1.eval o2).run P u = .ok (.value v2) u)
    (y5 : ∀ u, S u → (execOp A2.eval o5).run P u = .ok (.value v5) u)
    (y3 : ∀ u, (execOp A5.eval o3).run P u = .ok (.enter f1 args1) u) (y3' : ∀ p u, (execOp (A5.put o8.dst p).eval o3).run P u = .ok (.enter f1 args1) u)
    (hc1 : ∀ w0, S w0 → Below w.heap.size w w0 → Calls P f1 args1 w0 fun e w1 => e = .returned v3 ∧ S w1 ∧ Below w0.heap.size w0 w1)
    (y4 : ∀ u, S u → (execOp A3.eval o4).run P u = .ok (.value v4) u) (y4' : ∀ p u, S u → (execOp (A3.put o8.dst p).eval o4).run P u = .ok (.value v4) u)
    (y6 : ∀ u, (execOp A4.eval o6).run P u = .ok (.enter f2 args2) u) (y6' : ∀ p u, (execOp (A4.put o8.dst p).eval o6).run P u = .ok (.enter f2 args2) u)
    (hc2 : ∀ w1, S w1 → Below w.heap.size w w1 → Calls P f2 args2 w1 fun e w2 => (∃ c, e = .panicked c ∧ Q (.panic c) A4 w2 ∧ ∀ p, Q (.panic c) (A4.put o8.dst p) w2) ∨ (e = .returned v6 ∧ X w2 ∧ w1.grownBy w2 rr))
    (y7 : ∀ u, S u → (execOp A6.eval o7).run P u = .ok (.value v7) u) (y7' : ∀ p u, S u → (execOp (A6.put o8.dst p).eval o7).run P u = .ok (.value v7) u)
    (y8 : ∀ (a' : Act) u, (execOp a'.eval o8).run P u = .ok (.value (.pointer (some ⟨u.heap.size, 0, none⟩))) (u.alloc (.cells zs E)))
    {wf : World → Nat → World} (y9 : ∀ u H, u.heap[H]? = some (.cells zs E (0, 0)) → (execOp (A7.put o8.dst (.pointer (some ⟨H, 0, none⟩))).eval o9).run P u = .ok .skip (wf u H))
    (hfin : ∀ w' H, X w' → w.grownBy w' rr → w.heap.size ≤ H → w'.heap[H]? = some (.cells zs E (0, 0)) → Q .normal ((A7.put o8.dst (.pointer (some ⟨H, 0, none⟩))).put o9.dst undef) (wf w' H)) :
    (Code.region id #[o0, o1, o2, o3, o4, o5, o6, o7, o8, o9] true).wp P Q a w := by
  unfold twoB at hB
  simp only [Bool.and_eq_true, List.all_cons, List.all_nil, Bool.and_true, beq_iff_eq, bne_iff_ne, ne_eq] at hB
  obtain ⟨⟨⟨⟨⟨⟨⟨⟨⟨⟨hB1, hB2⟩, hB3⟩, ⟨⟨⟨t0, t1⟩, t2⟩, t5⟩⟩, r38⟩, ⟨⟨⟨t4, r68⟩, ⟨t7, r8⟩⟩, ⟨r6, t7'⟩⟩⟩, ⟨r3, t4'⟩⟩, rd⟩, hch⟩, g0, g1, g2, g3, g4, g5, g6, g7, g8, g9⟩, ⟨⟨⟨d8, d83⟩, d84⟩, d86⟩, d87⟩ := hB
  have cm : ∀ (A : Act) (d : Option Tmp) (v p : Value), ¬ o8.dst = d → (A.put o8.dst p).put d v = (A.put d v).put o8.dst p := fun A d v p h => Act.put_comm A p v (fun e h1 h2 => h (h1.trans h2.symm))
  have hQu : ∀ (J : Act → World → Prop) (d : Option Tmp) (v : Value) c (a : Act) w, upTo Q J (.panic c) (a.put d v) w → upTo Q J (.panic c) a w := fun J d v c a w h => hQ c a d v w trivial h
  have b0 : Below w.heap.size w w.drew := (Below.refl _ w).drew
  refine wp_region_cut (l1 := [o0, o1, o2, o3, o4, o5, o6, o7, o8]) (l2 := [o9]) S
    (fun a' w' => ∃ H, a' = A7.put o8.dst (.pointer (some ⟨H, 0, none⟩)) ∧ X w' ∧ w.grownBy w' rr ∧ w.heap.size ≤ H ∧ w'.heap[H]? = some (.cells zs E (0, 0))) hm (by simp only [Bool.and_eq_true]; exact ⟨hB1, hB2⟩) ?_ ?_
  · show wpAnyH P .any _ _ _ 9 #[false, false, false, false, false, false, false, false, false] a w.drew
    refine wpAnyH_take (i := 0) (oi := o0) rfl hB3 t0.1 t0.2 (hQu _ _ _) (.inl ⟨want_none g0, fun u hu => y0 u hu⟩) hS ?_
    rw [← hA0]
    refine wpAnyH_take (i := 1) (oi := o1) rfl hB3 t1.1 t1.2 (hQu _ _ _) (.inl ⟨want_none g1, fun u hu => y1 u hu⟩) hS ?_
    rw [← hA1]
    refine wpAnyH_take (i := 2) (oi := o2) rfl hB3 t2.1 t2.2 (hQu _ _ _) (.inl ⟨want_none g2, fun u hu => y2 u hu⟩) hS ?_
    rw [← hA2]
    refine wpAnyH_take (i := 5) (oi := o5) rfl hB3 t5.1 t5.2 (hQu _ _ _) (.inl ⟨want_none g5, fun u hu => y5 u hu⟩) hS ?_
    rw [← hA5]
    refine wpAnyH_all (rs := [3, 8]) r38 (by simp) fun i hi => ?_
    rcases List.mem_cons.1 hi with rfl | hi
    · -- the first call
      refine held_step (o := o3) rfl g3 (wp_go (y3 _) ((hc1 _ hS b0).mono ?_))
      rintro e w1 ⟨rfl, hS1, hb1⟩
      have b1 : Below w.heap.size w w1 := b0.trans hb1
      refine ⟨hS1, ?_⟩
      rw [← hA3]
      refine wpAnyH_take (i := 4) (oi := o4) rfl hB3 t4.1 t4.2 (hQu _ _ _) (.inl ⟨want_none g4, fun u hu => y4 u hu⟩) hS1 ?_
      rw [← hA4]
      refine wpAnyH_all (rs := [6, 8]) r68 (by simp) fun i hi => ?_
      rcases List.mem_cons.1 hi with rfl | hi
      · -- the second call, then the block
        refine held_step (o := o6) rfl g6 (wp_go (y6 _) ((hc2 _ hS1 b1).mono ?_))
        rintro e w2 (⟨c, rfl, hp, _⟩ | ⟨rfl, hX, hg⟩)
        · exact hp
        refine ⟨hXS _ hX, ?_⟩
        rw [← hA6]
        refine wpAnyH_take (i := 7) (oi := o7) rfl hB3 t7.1 t7.2 (hQu _ _ _) (.inl ⟨want_none g7, fun u hu => y7 u hu⟩) (hXS _ hX) ?_
        rw [← hA7]
        refine wpAnyH_all (rs := [8]) r8 (by simp) fun i hi => ?_
        obtain rfl : i = 8 := by simpa using hi
        refine held_step (o := o8) rfl g8 (wp_val (y8 _ w2) ?_)
        have hg' : w.grownBy w2 rr := grown_trans (grown_below b1 rr) hg
        refine ⟨hSn _ _ (hXS _ hX), wpAnyH_done rd ⟨w2.heap.size, rfl, hXn _ _ hX, ?_, hg'.size, heap_alloc_new w2 _⟩ _⟩
        exact grown_trans hg' (grown_below ((Below.refl _ w2).alloc (Nat.le_refl _) _) rr)
      · -- the block, then the second call
        obtain rfl : i = 8 := by simpa using hi
        refine held_step (o := o8) rfl g8 (wp_val (y8 _ w1) ?_)
        refine ⟨hSn _ _ hS1, ?_⟩
        refine wpAnyH_all (rs := [6]) r6 (by simp) fun i hi => ?_
        obtain rfl : i = 6 := by simpa using hi
        have b2 : Below w.heap.size w (w1.alloc (.cells zs E)) := b1.alloc b1.size _
        refine held_step (o := o6) rfl g6 (wp_go (y6' _ _) ((hc2 _ (hSn _ _ hS1) b2).mono ?_))
        rintro e w2 (⟨c, rfl, _, hp⟩ | ⟨rfl, hX, hg⟩)
        · exact hp _
        refine ⟨hXS _ hX, ?_⟩
        rw [cm _ _ _ _ d86, ← hA6]
        refine wpAnyH_take (i := 7) (oi := o7) rfl hB3 t7'.1 t7'.2 (hQu _ _ _) (.inl ⟨want_none g7, fun u hu => y7' _ u hu⟩) (hXS _ hX) ?_
        rw [cm _ _ _ _ d87, ← hA7]
        refine wpAnyH_done rd ⟨w1.heap.size, rfl, hX, grown_trans (grown_below b2 rr) hg, b1.size, ?_⟩ _
        exact (hg.block _ (by simp) (fun e => by have := hrr _ e.symm; have := b1.size; omega)).trans (heap_alloc_new w1 _)
    · -- the block first
      obtain rfl : i = 8 := by simpa using hi
      refine held_step (o := o8) rfl g8 (wp_val (y8 _ w.drew) ?_)
      have b1 : Below w.heap.size w (w.drew.alloc (.cells zs E)) := b0.alloc b0.size _
      have hS1 := hSn _ (.cells zs E) hS
      refine ⟨hS1, wpAnyH_all (rs := [3]) r3 (by simp) fun i hi => ?_⟩
      obtain rfl : i = 3 := by simpa using hi
      refine held_step (o := o3) rfl g3 (wp_go (y3' _ _) ((hc1 _ hS1 b1).mono ?_))
      rintro e w1 ⟨rfl, hS2, hb2⟩
      have b2 : Below w.heap.size w w1 := b1.trans (hb2.mono b1.size)
      have hH1 : w1.heap[w.heap.size]? = some (.cells zs E (0, 0)) := (hb2.block _ (by simp)).trans (heap_alloc_new w.drew _)
      refine ⟨hS2, ?_⟩
      rw [cm _ _ _ _ d83, ← hA3]
      refine wpAnyH_take (i := 4) (oi := o4) rfl hB3 t4'.1 t4'.2 (hQu _ _ _) (.inl ⟨want_none g4, fun u hu => y4' _ u hu⟩) hS2 ?_
      rw [cm _ _ _ _ d84, ← hA4]
      refine wpAnyH_all (rs := [6]) r6 (by simp) fun i hi => ?_
      obtain rfl : i = 6 := by simpa using hi
      refine held_step (o := o6) rfl g6 (wp_go (y6' _ _) ((hc2 _ hS2 b2).mono ?_))
      rintro e w2 (⟨c, rfl, _, hp⟩ | ⟨rfl, hX, hg⟩)
      · exact hp _
      refine ⟨hXS _ hX, ?_⟩
      rw [cm _ _ _ _ d86, ← hA6]
      refine wpAnyH_take (i := 7) (oi := o7) rfl hB3 t7'.1 t7'.2 (hQu _ _ _) (.inl ⟨want_none g7, fun u hu => y7' _ u hu⟩) (hXS _ hX) ?_
      rw [cm _ _ _ _ d87, ← hA7]
      refine wpAnyH_done rd ⟨w.heap.size, rfl, hX, grown_trans (grown_below b2 rr) hg, Nat.le_refl _, ?_⟩ _
      exact (hg.block _ (Array.getElem?_eq_some_iff.1 hH1).1 (fun e => by have := hrr _ e.symm; omega)).trans hH1
  · rintro a' w' ⟨H, rfl, hX, hg, hH, hc⟩
    refine any_list [o9] 9 _ _ _ (fun j => ?_) hch (list_step g9 ?_)
    · rcases j with _ | j
      · rfl
      · rw [List.getElem?_eq_none (by simp)]
        exact (Array.getElem?_eq_none (by simp; omega)).symm
    · exact wp_do (y9 w' H hc) (by rw [wpList]; exact hfin w' H hX hg hH hc)
end Go.Proofs.Ytelpkldlkpoioaa.Cut
