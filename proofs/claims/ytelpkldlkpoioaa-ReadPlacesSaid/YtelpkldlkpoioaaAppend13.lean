/- A region that draws its order: x.f = append(x.f, g(..)) where the element is stored behind the append (elements of three cells): the law of the whole region, of any program. -/
import Derived.Test.YtelpkldlkpoioaaAppend
namespace Go.Proofs.Ytelpkldlkpoioaa.Cut
open Go Go.RowKit Go.Proofs.Ytelpkldlkpoioaa.Heap Go.Proofs.Ytelpkldlkpoioaa.Dat

def set3 (w : World) (g q : Nat) (u0 u1 u2 : Value) : World := ((w.setCell ⟨g, q, none⟩ u0).setCell ⟨g, q + 1, none⟩ u1).setCell ⟨g, q + 2, none⟩ u2
theorem set1_comm (w : World) {g H : Nat} (h : g ≠ H) (i j : Nat) (a b : Value) : (w.setCell ⟨g, i, none⟩ a).setCell ⟨H, j, none⟩ b = (w.setCell ⟨H, j, none⟩ b).setCell ⟨g, i, none⟩ a := by
  unfold World.setCell
  simp only
  congr 1
  apply Array.ext_getElem?
  intro k
  simp only [Array.getElem?_modify]
  by_cases h1 : H = k
  · subst h1
    rw [if_pos rfl, if_neg h, if_neg h, if_pos rfl]
  · rw [if_neg h1]
    by_cases h2 : g = k
    · subst h2; rw [if_pos rfl, if_pos rfl, if_neg h1]
    · rw [if_neg h2, if_neg h2, if_neg h1]
theorem set3_comm (w : World) {g H : Nat} (h : g ≠ H) (q j : Nat) (u0 u1 u2 b : Value) : set3 (w.setCell ⟨H, j, none⟩ b) g q u0 u1 u2 = (set3 w g q u0 u1 u2).setCell ⟨H, j, none⟩ b := by
  unfold set3
  rw [← set1_comm w h, ← set1_comm _ h, ← set1_comm _ h]
theorem set3_block (w : World) {g H : Nat} (h : g ≠ H) (q : Nat) (u0 u1 u2 : Value) : (set3 w g q u0 u1 u2).heap[H]? = w.heap[H]? := by
  unfold set3
  exact (Below.heap_setCell _ _ _ _ (Ne.symm h)).trans ((Below.heap_setCell _ _ _ _ (Ne.symm h)).trans (Below.heap_setCell _ _ _ _ (Ne.symm h)))
theorem set_snoc3 (xs : List Value) (z0 z1 z2 u0 u1 u2 : Value) (q : Nat) (h : xs.length = q) : (((xs ++ [z0, z1, z2]).set q u0).set (q + 1) u1).set (q + 2) u2 = xs ++ [u0, u1, u2] := by
  subst h
  rw [List.set_append_right _ _ (Nat.le_refl _), List.set_append_right _ _ (by omega), List.set_append_right _ _ (by omega)]
  simp

def app13B (o0 o1 o2 o3 o4 o5 o6 o7 o8 o9 o10 o11 o12 : Oper) : Bool :=
  let l1 := #[o0, o1, o2, o3, o4, o5, o6, o7]
  let l := #[o0, o1, o2, o3, o4, o5, o6, o7, o8, o9, o10, o11, o12]
  let f := false
  let t := true
  let tk := fun (ops : Array Oper) (L : Array Bool) (i : Nat) => Region.free .any ops L i && (Region.ready .any ops L).contains i
  ordB 8 0 [o0, o1, o2, o3, o4, o5, o6, o7] && phB [o0, o1, o2, o3, o4, o5, o6, o7] [o8, o9, o10, o11, o12] && Region.noSelect l1 && Region.noSelect l &&
    (tk l1 #[f, f, f, f, f, f, f, f] 0 && tk l1 #[t, f, f, f, f, f, f, f] 1 && tk l1 #[t, t, f, f, f, f, f, f] 2 && tk l1 #[t, t, t, f, f, f, f, f] 3 && tk l1 #[t, t, t, t, f, f, f, f] 4 && tk l1 #[t, t, t, t, t, f, f, f] 6) &&
    (Region.ready .any l1 #[t, t, t, t, t, f, t, f] == [5, 7] && Region.ready .any l1 #[t, t, t, t, t, t, t, f] == [7] && Region.ready .any l1 #[t, t, t, t, t, f, t, t] == [5] && Region.ready .any l1 #[t, t, t, t, t, t, t, t] == []) &&
    (Region.ready .any l #[t, t, t, t, t, t, t, t, f, f, f, f, f] == [8] && tk l #[t, t, t, t, t, t, t, t, t, f, f, f, f] 9 && tk l #[t, t, t, t, t, t, t, t, t, t, f, f, f] 11) &&
    (Region.ready .any l #[t, t, t, t, t, t, t, t, t, t, f, t, f] == [10, 12] && Region.ready .any l #[t, t, t, t, t, t, t, t, t, t, t, t, f] == [12] && Region.ready .any l #[t, t, t, t, t, t, t, t, t, t, f, t, t] == [10] && Region.ready .any l #[t, t, t, t, t, t, t, t, t, t, t, t, t] == []) &&
    ([o0, o1, o2, o3, o4, o5, o6, o7, o8, o9, o10, o11, o12].all fun o => o.guard.isNone) && o10.dst.isNone && o12.dst.isNone && (o5.dst.isSome && o7.dst.isSome && o5.dst != o7.dst)
theorem held_step {P : Program} {ops : Array Oper} {Q : Exit → Act → World → Prop} {i : Nat} {o : Oper} {K : Act → World → Prop} {a : Act} {w : World} (hi : ops[i]? = some o) (hg : o.guard.isNone = true) (h : o.wp P a w K Q) : wpOp P ops Q i K a w := by
  unfold wpOp; rw [hi]; simp only; rw [if_pos (want_none hg)]; exact .inl h

theorem append13 {P : Program} {Q : Exit → Act → World → Prop} {id : Nat} {a : Act} {w : World} {o0 o1 o2 o3 o4 o5 o6 o7 o8 o9 o10 o11 o12 : Oper} {α : Type} {val : α → Value} {us : α → Value × Value × Value} {ds : α → List Dat} {X : α → World → Prop} {B H fo E n bytes R : Nat} {ti : TypeInfo} {z z0 z1 z2 : Value} {items : List Dat} {bk : List Nat} {rv v2 v3 v4 v6 : Value} {f : FuncId} {args : Array Value} {rr : Option Nat} {S2 : World → Prop} {sx xx : Operand}
    (hm : P.follows .mixedOrders = true) (hB : app13B o0 o1 o2 o3 o4 o5 o6 o7 o8 o9 o10 o11 o12 = true) (hQ : Loose (fun _ => True) Q)
    (hcell : w.cell? ⟨H, fo, none⟩ = some rv) (hfro : w.frozen? ⟨H, fo, none⟩ = false) (hL : Lies w B (.row E 3 n items) rv bk) (hnd : bk.Nodup) (hHB : H < B) (hBw : B ≤ w.heap.size)
    (hE : P.underlying R = some (.slice E)) (hi' : P.info? E = some ti) (hz : ti.zero = some z) (hsz : ti.size = 3) (hby : ti.bytes = bytes) (hzs : z.cells.size = 3) (hn : n ≤ 1000000) (hb1 : bytes ≤ 1000) (hz1 : ∀ u ∈ [z0, z1, z2], u.oneCell' = true)
    (hus : ∀ x, (ds x).length = 3)
    (A0 : Act) (hA0 : A0 = a.put o0.dst (.pointer (some ⟨H, fo, none⟩))) (A1 : Act) (hA1 : A1 = A0.put o1.dst rv) (A2 : Act) (hA2 : A2 = A1.put o2.dst v2) (A3 : Act) (hA3 : A3 = A2.put o3.dst v3) (A4 : Act) (hA4 : A4 = A3.put o4.dst v4) (A6 : Act) (hA6 : A6 = A4.put o6.dst v6)
    (y0 : ∀ u, (execOp a.eval o0).run P u = .ok (.value (.pointer (some ⟨H, fo, none⟩))) u)
    (y1 : ∀ u, u.cell? ⟨H, fo, none⟩ = some rv → (execOp A0.eval o1).run P u = .ok (.value rv) u)
    (hS2 : S2 w.drew) (hS2n : ∀ u o, S2 u → S2 (u.alloc o)) (hXn : ∀ x u o, X x u → X x (u.alloc o))
    (y2 : ∀ u, S2 u → (execOp A1.eval o2).run P u = .ok (.value v2) u)
    (y3 : ∀ u, S2 u → (execOp A2.eval o3).run P u = .ok (.value v3) u)
    (y4 : ∀ u, (execOp A3.eval o4).run P u = .ok (.value v4) u)
    (y6 : ∀ u, (execOp A4.eval o6).run P u = .ok (.value v6) u)
    (y5 : ∀ v7 u, (execOp (A6.put o7.dst v7).eval o5).run P u = .ok (.enter f args) u) (y5' : ∀ u, (execOp A6.eval o5).run P u = .ok (.enter f args) u)
    (hc : ∀ w0, w0 = w.drew ∨ w0 = w.drew.alloc (.cells #[z0, z1, z2] E) → Calls P f args w0 fun e w1 => (∃ c, e = .panicked c ∧ Q (.panic c) A6 w1 ∧ ∀ v7, Q (.panic c) (A6.put o7.dst v7) w1) ∨ ∃ x b2, e = .returned (val x) ∧ X x w1 ∧ S2 w1 ∧ Came w0 w1 B H rr [(us x).1, (us x).2.1, (us x).2.2] (ds x) b2)
    (y7 : ∀ (a' : Act) u, (execOp a'.eval o7).run P u = .ok (.value (.slice (some ⟨u.heap.size, 0, none⟩) 1 1)) (u.alloc (.cells #[z0, z1, z2] E)))
    (y8 : o8.op = .call { callee := .builtin .append, args := #[sx, xx], argTypes := #[R, R] })
    (y8a : ∀ x v7, ((A6.put o5.dst (val x)).put o7.dst v7).eval sx = rv)
    (y8b : ∀ x v7, ((A6.put o5.dst (val x)).put o7.dst v7).eval xx = v7)
    (y9 : ∀ x v7 g cp u, (execOp ((((A6.put o5.dst (val x)).put o7.dst v7).put o8.dst (.slice (some ⟨g, 0, none⟩) (n + 1) cp)).eval) o9).run P u = .ok (.value (.pointer (some ⟨g, n * 3, none⟩))) u)
    (y11 : ∀ x v7 g cp u, (execOp (((((A6.put o5.dst (val x)).put o7.dst v7).put o8.dst (.slice (some ⟨g, 0, none⟩) (n + 1) cp)).put o9.dst (.pointer (some ⟨g, n * 3, none⟩))).eval) o11).run P u = .ok (.value (.pointer (some ⟨H, fo, none⟩))) u)
    (y10 : ∀ x v7 g cp u, (∃ c0 c1 c2, u.cell? ⟨g, n * 3, none⟩ = some c0 ∧ u.cell? ⟨g, n * 3 + 1, none⟩ = some c1 ∧ u.cell? ⟨g, n * 3 + 2, none⟩ = some c2) → (u.frozen? ⟨g, n * 3, none⟩ = false ∧ u.frozen? ⟨g, n * 3 + 1, none⟩ = false ∧ u.frozen? ⟨g, n * 3 + 2, none⟩ = false) → (execOp ((((((A6.put o5.dst (val x)).put o7.dst v7).put o8.dst (.slice (some ⟨g, 0, none⟩) (n + 1) cp)).put o9.dst (.pointer (some ⟨g, n * 3, none⟩))).put o11.dst (.pointer (some ⟨H, fo, none⟩))).eval) o10).run P u = .ok .skip (set3 u g (n * 3) (us x).1 (us x).2.1 (us x).2.2))
    (y12 : ∀ x v7 g cp u, u.cell? ⟨H, fo, none⟩ = some rv → u.frozen? ⟨H, fo, none⟩ = false → (execOp ((((((A6.put o5.dst (val x)).put o7.dst v7).put o8.dst (.slice (some ⟨g, 0, none⟩) (n + 1) cp)).put o9.dst (.pointer (some ⟨g, n * 3, none⟩))).put o11.dst (.pointer (some ⟨H, fo, none⟩))).eval) o12).run P u = .ok .skip (u.setCell ⟨H, fo, none⟩ (.slice (some ⟨g, 0, none⟩) (n + 1) cp)))
    (hfin : ∀ x w0 w1 wa g cp bk' v7, X x w1 → (∃ r, w1.grownBy wa r ∧ ∀ j, r = some j → j ∈ bk) → (w.grownBy w0 none ∧ w0.grownBy w1 rr) → Lies (wa.setCell ⟨H, fo, none⟩ (.slice (some ⟨g, 0, none⟩) (n + 1) cp)) B (.row E 3 (n + 1) (items ++ ds x)) (.slice (some ⟨g, 0, none⟩) (n + 1) cp) bk' → bk'.Nodup → (∀ b ∈ bk', b ∈ bk ∨ w.heap.size ≤ b) → w.heap.size ≤ wa.heap.size → H ∉ bk' →
      Q .normal (((((A6.put o5.dst (val x)).put o7.dst v7).put o8.dst (.slice (some ⟨g, 0, none⟩) (n + 1) cp)).put o9.dst (.pointer (some ⟨g, n * 3, none⟩))).put o11.dst (.pointer (some ⟨H, fo, none⟩))) (wa.setCell ⟨H, fo, none⟩ (.slice (some ⟨g, 0, none⟩) (n + 1) cp))) :
    (Code.region id #[o0, o1, o2, o3, o4, o5, o6, o7, o8, o9, o10, o11, o12] true).wp P Q a w := by
  unfold app13B at hB
  simp only [Bool.and_eq_true, List.all_cons, List.all_nil, Bool.and_true, beq_iff_eq, bne_iff_ne, ne_eq] at hB
  obtain ⟨⟨⟨⟨⟨⟨⟨⟨⟨⟨⟨hB1, hB2⟩, hB3⟩, hB3'⟩, ⟨⟨⟨⟨⟨t0, t1⟩, t2⟩, t3⟩, t4⟩, t6⟩⟩, ⟨⟨⟨r57, r7⟩, r5⟩, r0⟩⟩, ⟨⟨r8, t9⟩, t11⟩⟩, ⟨⟨⟨ra, rb⟩, rc⟩, rd⟩⟩, g0, g1, g2, g3, g4, g5, g6, g7, g8, g9, g10, g11, g12⟩, d10⟩, d12⟩, ⟨⟨d5, d7⟩, d57⟩⟩ := hB
  have hlt := Lies.lt hL
  have dis : ∀ d, o5.dst = some d → o7.dst ≠ some d := fun d e e' => d57 (e.trans e'.symm)
  have n10 : o10.dst = none := by simpa using d10
  have n12 : o12.dst = none := by simpa using d12
  refine wp_region_cut (l1 := [o0, o1, o2, o3, o4, o5, o6, o7]) (l2 := [o8, o9, o10, o11, o12]) (fun u => u.cell? ⟨H, fo, none⟩ = some rv ∧ S2 u)
    (fun a' w' => ∃ x w0 za b2, a' = (A6.put o5.dst (val x)).put o7.dst (.slice (some ⟨za, 0, none⟩) 1 1) ∧ X x w' ∧ w.grownBy w0 none ∧ w0.grownBy w' rr ∧ (∀ j, rr = some j → j < B ∧ j ≠ H) ∧ w'.heap[za]? = some (.cells #[z0, z1, z2] E (0, 0)) ∧ LiesL w' w.heap.size (ds x) [(us x).1, (us x).2.1, (us x).2.2] b2 ∧ b2.Nodup ∧ za < w'.heap.size) hm (by simp only [Bool.and_eq_true]; exact ⟨hB1, hB2⟩) ?_ ?_
  · -- what comes ahead
    have hS0 : (w.drew.cell? ⟨H, fo, none⟩ = some rv ∧ S2 w.drew) := ⟨by exact hcell, hS2⟩
    have hQu : ∀ (J : Act → World → Prop) (d : Option Tmp) (v : Value) c (a : Act) w, upTo Q J (.panic c) (a.put d v) w → upTo Q J (.panic c) a w := fun J d v c a w h => hQ c a d v w trivial h
    show wpAnyH P .any _ _ _ 8 #[false, false, false, false, false, false, false, false] a w.drew
    refine wpAnyH_take (i := 0) (oi := o0) rfl hB3 t0.1 t0.2 (hQu _ _ _) (.inl ⟨want_none g0, fun u _ => y0 u⟩) hS0 ?_
    rw [← hA0]
    refine wpAnyH_take (i := 1) (oi := o1) rfl hB3 t1.1 t1.2 (hQu _ _ _) (.inl ⟨want_none g1, fun u hu => y1 u hu.1⟩) hS0 ?_
    rw [← hA1]
    refine wpAnyH_take (i := 2) (oi := o2) rfl hB3 t2.1 t2.2 (hQu _ _ _) (.inl ⟨want_none g2, fun u hu => y2 u hu.2⟩) hS0 ?_
    rw [← hA2]
    refine wpAnyH_take (i := 3) (oi := o3) rfl hB3 t3.1 t3.2 (hQu _ _ _) (.inl ⟨want_none g3, fun u hu => y3 u hu.2⟩) hS0 ?_
    rw [← hA3]
    refine wpAnyH_take (i := 4) (oi := o4) rfl hB3 t4.1 t4.2 (hQu _ _ _) (.inl ⟨want_none g4, fun u hu => y4 u⟩) hS0 ?_
    rw [← hA4]
    refine wpAnyH_take (i := 6) (oi := o6) rfl hB3 t6.1 t6.2 (hQu _ _ _) (.inl ⟨want_none g6, fun u hu => y6 u⟩) hS0 ?_
    rw [← hA6]
    refine wpAnyH_all (rs := [5, 7]) r57 (by simp) ?_
    intro i hi
    rcases List.mem_cons.1 hi with rfl | hi
    · -- the call, then the element
      refine held_step (o := o5) rfl g5 (wp_go (y5' _) ((hc _ (.inl rfl)).mono ?_))
      rintro e w1 (⟨c, rfl, hc, _⟩ | ⟨x, b2, rfl, hX, hS2', hcame⟩)
      · exact hc
      obtain ⟨hlies, hnd2, hgr, hfar⟩ := hcame
      have hH1 : w1.heap[H]? = w.heap[H]? := hgr.block H (by show H < w.heap.size; omega) (fun e => (hfar H e.symm).2 rfl)
      have c1 : w1.cell? ⟨H, fo, none⟩ = some rv := (World.cell?_of_block hH1).trans hcell
      have hsz1 : w.heap.size ≤ w1.heap.size := hgr.size
      refine ⟨⟨c1, hS2'⟩, wpAnyH_all (rs := [7]) r7 (by simp) fun i hi => ?_⟩
      obtain rfl : i = 7 := by simpa using hi
      refine held_step (o := o7) rfl g7 (wp_val (y7 _ w1) ?_)
      refine ⟨⟨(World.cell?_alloc_past _ _ _ (by show H < w1.heap.size; omega)).trans c1, hS2n _ _ hS2'⟩, wpAnyH_done r0 ?_ _⟩
      exact ⟨x, w.drew, w1.heap.size, b2, rfl, hXn _ _ _ hX, grown_below ((Below.refl _ w).drew) none, ⟨hgr.os, hgr.tape, hgr.output, by have := hgr.size; simp at this ⊢; omega, fun i hi hr => (Below.heap_alloc w1 _ i (by have := hgr.size; omega)).trans (hgr.block i hi hr)⟩, hfar, heap_alloc_new w1 _, LiesL.below (B' := w1.heap.size) ((Below.refl _ w1).alloc (Nat.le_refl _) _) hlies (fun b hb => (LiesL.lt hlies b hb).2), hnd2, by simp⟩
    · -- the element, then the call
      obtain rfl : i = 7 := by simpa using hi
      refine held_step (o := o7) rfl g7 (wp_val (y7 _ _) ?_)
      refine ⟨⟨(World.cell?_alloc_past _ _ _ (by show H < w.heap.size; omega)).trans hcell, hS2n _ _ hS2⟩, wpAnyH_all (rs := [5]) r5 (by simp) fun i hi => ?_⟩
      obtain rfl : i = 5 := by simpa using hi
      refine held_step (o := o5) rfl g5 (wp_go (y5 _ _) ((hc _ (.inr rfl)).mono ?_))
      rintro e w1 (⟨c, rfl, _, hc⟩ | ⟨x, b2, rfl, hX, hS2', hcame⟩)
      · exact hc _
      obtain ⟨hlies, hnd2, hgr, hfar⟩ := hcame
      have hsz1 : w.heap.size + 1 ≤ w1.heap.size := by have := hgr.size; simpa using this
      have hH1 : w1.heap[H]? = w.heap[H]? := (hgr.block H (by simp; omega) (fun e => (hfar H e.symm).2 rfl)).trans (Below.heap_alloc w.drew _ H (by show H < w.heap.size; omega))
      have c1 : w1.cell? ⟨H, fo, none⟩ = some rv := (World.cell?_of_block hH1).trans hcell
      refine ⟨⟨c1, hS2'⟩, wpAnyH_done r0 ?_ _⟩
      refine ⟨x, w.drew.alloc (.cells #[z0, z1, z2] E), w.heap.size, b2, ?_, hX, grown_below (((Below.refl _ w).drew).alloc (Nat.le_refl _) _) none, hgr, hfar, ?_, LiesL.base (by simp) hlies, hnd2, by omega⟩
      · exact (Act.put_comm A6 (val x) _ dis).symm
      · exact (hgr.block w.heap.size (by simp) (fun e => by have := (hfar _ e.symm).1; omega)).trans (heap_alloc_new w.drew _)
  · -- what is behind
    rintro a' w1 ⟨x, w0, za, b2, rfl, hX, hg0, hg1, hfar, hza, hlies, hnd2, hzl⟩
    have s0 := hg0.size; have s1 := hg1.size
    have hHr : some H ≠ rr := fun e => (hfar H e.symm).2 rfl
    have hH1 : w1.heap[H]? = w.heap[H]? := (hg1.block H (by omega) hHr).trans (hg0.block H (by omega) (by simp))
    have c1 : w1.cell? ⟨H, fo, none⟩ = some rv := (World.cell?_of_block hH1).trans hcell
    have f1 : w1.frozen? ⟨H, fo, none⟩ = false := (World.frozen?_of_block hH1).trans hfro
    have hL0 : Lies w0 B (.row E 3 n items) rv bk := Lies.kept hg0 hL fun b hb e => by cases e
    have hL1 : Lies w1 B (.row E 3 n items) rv bk := Lies.kept hg1 hL0 fun b hb e => by have := (hfar b e.symm).1; have := (hlt b hb).1; omega
    have hd1 : LiesL w1 B (ds x) [(us x).1, (us x).2.1, (us x).2.2] b2 := LiesL.base hBw hlies
    have hl2 : ∀ b ∈ b2, w.heap.size ≤ b ∧ b < w1.heap.size := fun b hb => LiesL.lt hlies b hb
    obtain ⟨xs, bs', ho, hlx, hob, hil⟩ := hL1.own
    have hHrow : some H ≠ rv.ownBlock := fun e => by
      rcases hob with ⟨h0, _, _⟩ | ⟨q, hq, hbk⟩
      · rw [h0] at e; cases e
      · rw [hq] at e
        have : H = q := Option.some.inj e
        have := (hlt q (by rw [hbk]; simp)).1
        omega
    have lx : xs.length = n * 3 := ho.1
    show wpAny P .any _ _ 5 #[true, true, true, true, true, true, true, true, false, false, false, false, false] _ _
    refine wpAny_all (rs := [8]) r8 (by simp) fun i hi => ?_
    obtain rfl : i = 8 := by simpa using hi
    refine held_step (o := o8) rfl g8 ?_
    refine wp_append_lies w1 sx xx R y8 B E ti z 3 bytes hE hi' hz hsz hby hzs (by omega) rv n xs (y8a _ _) ho ⟨za, 0, none⟩ 1 1 [z0, z1, z2] (y8b _ _) (by rfl) (World.news_of_block hza) hz1 (by omega) (by unfold maxLen; omega) ?_ (by omega) w1.heap.size rfl ?_
    · calc (n + 1) * bytes ≤ (n + 1) * 1000 := Nat.mul_le_mul_left _ hb1
        _ ≤ 140737488355328 := by omega
    intro g cp wa hown hga hat hga_lt
    have hHa : wa.heap[H]? = w1.heap[H]? := hga.block H (by omega) hHrow
    have hBg : B ≤ g := (own_lt hown).1
    have hgH : g ≠ H := by omega
    have ca : wa.cell? ⟨H, fo, none⟩ = some rv := (World.cell?_of_block hHa).trans c1
    have fa : wa.frozen? ⟨H, fo, none⟩ = false := (World.frozen?_of_block hHa).trans f1
    have k0 : wa.cell? ⟨g, n * 3, none⟩ = some z0 := by rw [hown.cellAt (n * 3) (by omega), List.getElem?_append_right (by omega), lx]; simp
    have k1 : wa.cell? ⟨g, n * 3 + 1, none⟩ = some z1 := by rw [hown.cellAt (n * 3 + 1) (by omega), List.getElem?_append_right (by omega), lx]; simp
    have k2 : wa.cell? ⟨g, n * 3 + 2, none⟩ = some z2 := by rw [hown.cellAt (n * 3 + 2) (by omega), List.getElem?_append_right (by omega), lx]; simp
    have q0 := hown.frozenAt (n * 3); have q1 := hown.frozenAt (n * 3 + 1); have q2 := hown.frozenAt (n * 3 + 2)
    have hset : wa.grownBy (set3 wa g (n * 3) (us x).1 (us x).2.1 (us x).2.2) (some g) := grown_trans (grown_trans (grown_set wa ⟨g, n * 3, none⟩ _) (grown_set _ ⟨g, n * 3 + 1, none⟩ _)) (grown_set _ ⟨g, n * 3 + 2, none⟩ _)
    have hg5 : w1.grownBy (set3 wa g (n * 3) (us x).1 (us x).2.1 (us x).2.2) rv.ownBlock := by
      rcases hat with h | h
      · rw [h] at hga ⊢; exact grown_trans hga hset
      · exact grown_new hga hset (by omega)
    have ho5 := (((hown.stored (n * 3) (us x).1).1).stored (n * 3 + 1) (us x).2.1).1.stored (n * 3 + 2) (us x).2.2 |>.1
    rw [set_snoc3 xs z0 z1 z2 _ _ _ _ lx] at ho5
    have hnd' : (bk ++ b2).Nodup := List.nodup_append.2 ⟨hnd, hnd2, fun p hp q hq e => by have := (hlt p hp).2; have := (hl2 q hq).1; omega⟩
    obtain ⟨hrow, hrnd, hrm⟩ := Lies.snoc (us := [(us x).1, (us x).2.1, (us x).2.2]) (ds := ds x) hlx hil hd1 (hus x) hob hnd' ho5 hg5 hat
    have hHn : H ∉ g :: (bs' ++ b2) := fun hm => by
      rcases hrm H hm with h | h
      · rcases List.mem_append.1 h with h | h
        · have := (hlt H h).1; omega
        · have := (hl2 H h).1; omega
      · omega
    have hend : Q .normal (((((A6.put o5.dst (val x)).put o7.dst (.slice (some ⟨za, 0, none⟩) 1 1)).put o8.dst (.slice (some ⟨g, 0, none⟩) (n + 1) cp)).put o9.dst (.pointer (some ⟨g, n * 3, none⟩))).put o11.dst (.pointer (some ⟨H, fo, none⟩))) ((set3 wa g (n * 3) (us x).1 (us x).2.1 (us x).2.2).setCell ⟨H, fo, none⟩ (.slice (some ⟨g, 0, none⟩) (n + 1) cp)) := by
      refine hfin x w0 w1 _ g cp _ _ hX ⟨_, hg5, fun j hj => ?_⟩ ⟨hg0, hg1⟩ (Lies.kept (Heap.grown_set _ ⟨H, fo, none⟩ _) hrow fun b hb e => hHn (by have : b = H := Option.some.inj e; rw [← this]; exact hb)) hrnd (fun b hb => ?_) (by have := hg5.size; omega) hHn
      · rcases hob with ⟨h0, _, _⟩ | ⟨q, hq, hbk⟩
        · rw [h0] at hj; cases hj
        · rw [hq] at hj; rw [hbk, ← Option.some.inj hj]; simp
      · rcases hrm b hb with h | h
        · rcases List.mem_append.1 h with h | h
          · exact .inl h
          · exact .inr (hl2 b h).1
        · right; omega
    refine wpAny_take (i := 9) (oi := o9) rfl hB3' t9.1 t9.2 (fun c a w h => hQ c a _ _ w trivial h) (.inl ⟨want_none g9, fun u => y9 _ _ _ _ u⟩) ?_
    refine wpAny_take (i := 11) (oi := o11) rfl hB3' t11.1 t11.2 (fun c a w h => hQ c a _ _ w trivial h) (.inl ⟨want_none g11, fun u => y11 _ _ _ _ u⟩) ?_
    refine wpAny_all (rs := [10, 12]) ra (by simp) ?_
    intro i hi
    rcases List.mem_cons.1 hi with rfl | hi
    · refine held_step (o := o10) rfl g10 (wp_do (y10 _ _ _ _ _ ⟨_, _, _, k0, k1, k2⟩ ⟨q0, q1, q2⟩) ?_)
      rw [n10]
      refine wpAny_all (rs := [12]) rb (by simp) fun i hi => ?_
      obtain rfl : i = 12 := by simpa using hi
      have hb' := set3_block wa hgH (n * 3) (us x).1 (us x).2.1 (us x).2.2
      refine held_step (o := o12) rfl g12 (wp_do (y12 _ _ _ _ _ ((World.cell?_of_block hb').trans ca) ((World.frozen?_of_block hb').trans fa)) ?_)
      rw [n12]
      exact wpAny_done rd hend _
    · obtain rfl : i = 12 := by simpa using hi
      refine held_step (o := o12) rfl g12 (wp_do (y12 _ _ _ _ _ ca fa) ?_)
      rw [n12]
      refine wpAny_all (rs := [10]) rc (by simp) fun i hi => ?_
      obtain rfl : i = 10 := by simpa using hi
      have hb' : ∀ v, (wa.setCell ⟨H, fo, none⟩ v).heap[g]? = wa.heap[g]? := fun v => Below.heap_setCell _ _ _ _ hgH
      refine held_step (o := o10) rfl g10 (wp_do (y10 _ _ _ _ _ ⟨_, _, _, (World.cell?_of_block (hb' _)).trans k0, (World.cell?_of_block (hb' _)).trans k1, (World.cell?_of_block (hb' _)).trans k2⟩ ⟨(World.frozen?_of_block (hb' _)).trans q0, (World.frozen?_of_block (hb' _)).trans q1, (World.frozen?_of_block (hb' _)).trans q2⟩) ?_)
      rw [n10, set3_comm _ hgH]
      exact wpAny_done rd hend _
end Go.Proofs.Ytelpkldlkpoioaa.Cut
