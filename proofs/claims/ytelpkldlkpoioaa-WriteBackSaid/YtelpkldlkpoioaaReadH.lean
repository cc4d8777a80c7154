/- The reader of grammars' texts: an alternative, walked. -/
import Derived.Test.YtelpkldlkpoioaaReadG
namespace Go.Proofs.Ytelpkldlkpoioaa.ReadH
open Go.RowKit Go.Proofs.Ytelpkldlkpoioaa.Lexy Go.Proofs.Ytelpkldlkpoioaa.LexA Go.Proofs.Ytelpkldlkpoioaa.LexB Go.Proofs.Ytelpkldlkpoioaa.LexC Go.Proofs.Ytelpkldlkpoioaa.LexD Go.Proofs.Ytelpkldlkpoioaa.LexE Go.Proofs.Ytelpkldlkpoioaa.LexF Go.Proofs.Ytelpkldlkpoioaa.LexG Go.Proofs.Ytelpkldlkpoioaa.Heap Go.Proofs.Ytelpkldlkpoioaa.Dat Go.Proofs.Ytelpkldlkpoioaa.Ready Go.Proofs.Ytelpkldlkpoioaa.ReadA Go.Proofs.Ytelpkldlkpoioaa.ReadB Go.Proofs.Ytelpkldlkpoioaa.ReadC Go.Proofs.Ytelpkldlkpoioaa.ReadE Go.Proofs.Ytelpkldlkpoioaa.ReadD Go.Proofs.Ytelpkldlkpoioaa.ReadF Go.Proofs.Ytelpkldlkpoioaa.ReadG Go.Proofs.Ytelpkldlkpoioaa.Cut

theorem loose_then {K : Act → World → Prop} {Q : Exit → Act → World → Prop} {D : Option Tmp → Prop} (h : Loose D Q) : Loose D (Exit.then K Q) := fun c a d v w hd hq => h c a d v w hd hq
theorem loose_block {n : Nat} {Q : Exit → Act → World → Prop} {D : Option Tmp → Prop} (h : Loose D Q) : Loose D (Exit.inBlock n Q) := fun c a d v w hd hq => h c a d v w hd hq

/-- an alternative's cells -/
def alD (x : Al) : List Dat := [.row 54 3 x.words.length (wdsD x.words), .lit (.string (bs x.prec)), .lit (.bool x.has), .lit (.string (bs x.action)), .lit (.int .i64 (x.whr : Int)), .lit (.int .i64 (x.at_ : Int))]
theorem alD_len (x : Al) : (alD x).length = 6 := rfl
theorem cells6 {w : World} {b : Nat} {v0 v1 v2 v3 v4 v5 : Value} {t : TypeId} (h : w.heap[b]? = some (.cells #[v0, v1, v2, v3, v4, v5] t (0, 0))) :
    (w.cell? ⟨b, 0, none⟩ = some v0 ∧ w.cell? ⟨b, 1, none⟩ = some v1 ∧ w.cell? ⟨b, 2, none⟩ = some v2 ∧ w.cell? ⟨b, 3, none⟩ = some v3 ∧ w.cell? ⟨b, 4, none⟩ = some v4 ∧ w.cell? ⟨b, 5, none⟩ = some v5) ∧ (w.frozen? ⟨b, 0, none⟩ = false ∧ w.frozen? ⟨b, 1, none⟩ = false ∧ w.frozen? ⟨b, 2, none⟩ = false ∧ w.frozen? ⟨b, 3, none⟩ = false ∧ w.frozen? ⟨b, 4, none⟩ = false ∧ w.frozen? ⟨b, 5, none⟩ = false) :=
  ⟨⟨cell_of_row w b 0 _ t (0, 0) h, cell_of_row w b 1 _ t (0, 0) h, cell_of_row w b 2 _ t (0, 0) h, cell_of_row w b 3 _ t (0, 0) h, cell_of_row w b 4 _ t (0, 0) h, cell_of_row w b 5 _ t (0, 0) h⟩, frozen_of_row w b 0 _ t h, frozen_of_row w b 1 _ t h, frozen_of_row w b 2 _ t h, frozen_of_row w b 3 _ t h, frozen_of_row w b 4 _ t h, frozen_of_row w b 5 _ t h⟩
/-- an alternative that is being read -/
structure AltI (w0 w : World) (Ha b g c : Nat) (T : List Tok) (k : Nat) (ws : List Wd) (prec : List UInt8) (has : Bool) (act : List UInt8) (whr at_ : Int) : Prop where
  bx : Bx w0.heap.size b w0 w
  rr : Rr w b g c T k
  hz : w.heap[w0.heap.size]? = some (.cells #[.slice none 0 0, .string { data := #[] }, .bool false, .string { data := #[] }, .int .i64 0, .int .i64 0] 51 (0, 0))
  row : ∃ va bk, w.heap[Ha]? = some (.cells #[va, .string (bs prec), .bool has, .string (bs act), .int .i64 (whr : Int), .int .i64 (at_ : Int)] 51 (0, 0)) ∧ Lies w (Ha + 1) (.row 54 3 ws.length (wdsD ws)) va bk ∧ bk.Nodup
  base : w0.heap.size < Ha
theorem AltI.go {w0 w w' : World} {Ha b g c : Nat} {T : List Tok} {k k' : Nat} {ws : List Wd} {prec act : List UInt8} {has : Bool} {whr at_ : Int} (h : AltI w0 w Ha b g c T k ws prec has act whr at_) (hbw : b < w0.heap.size) (hg : w.grownBy w' (some b)) (hR : Rr w' b g c T k') : AltI w0 w' Ha b g c T k' ws prec has act whr at_ := by
  obtain ⟨va, bk, hH, hL, hnd⟩ := h.row
  have hb := h.base
  exact ⟨h.bx.grown hg h.bx.size (fun j hj => .inl (Option.some.inj hj).symm), hR, (hg.block _ (Array.getElem?_eq_some_iff.1 h.hz).1 (by simp; omega)).trans h.hz, ⟨va, bk, (hg.block _ (Array.getElem?_eq_some_iff.1 hH).1 (by simp; omega)).trans hH, Lies.kept hg hL (fun j hj e => by have := (Lies.lt hL j hj).1; have : j = b := Option.some.inj e; omega), hnd⟩, hb⟩
theorem AltI.below {w0 w w' : World} {Ha b g c : Nat} {T : List Tok} {k : Nat} {ws : List Wd} {prec act : List UInt8} {has : Bool} {whr at_ : Int} (h : AltI w0 w Ha b g c T k ws prec has act whr at_) (hbw : b < w0.heap.size) (hb : Below w.heap.size w w') : AltI w0 w' Ha b g c T k ws prec has act whr at_ := h.go hbw (grown_below hb _) (h.rr.new hb)
/-- how an alternative ended -/
def AltQ (b g c : Nat) (T : List Tok) (w : World) : Out Al → Ending → World → Prop
  | .ok x k1, e, w' => ∃ (va : Option Addr) (vc : Nat) (bk : List Nat), e = .returned (.agg #[.slice va x.words.length vc, .string (bs x.prec), .bool x.has, .string (bs x.action), .int .i64 (x.whr : Int), .int .i64 (x.at_ : Int)]) ∧ Lies w' w.heap.size (.row 54 3 x.words.length (wdsD x.words)) (.slice va x.words.length vc) bk ∧ bk.Nodup ∧ w.grownBy w' (some b) ∧ Rr w' b g c T k1
  | .bad x p, e, w' => e = .panicked (thrownF (x : Int) (p : Int)) ∧ w.grownBy w' (some b)
theorem altInfo : (Try.prog.info? 51).map (fun i => (i.zero, i.size, i.bytes)) = some (some (.agg #[.slice none 0 0, .string { data := #[] }, .bool false, .string { data := #[] }, .int .i64 0, .int .i64 0]), 6, 80) := by kernel_rfl
theorem wdInfo : ∃ ti, Try.prog.info? 54 = some ti ∧ ti.zero = some (.agg #[.string { data := #[] }, .slice none 0 0, .int .i64 0]) ∧ ti.size = 3 ∧ ti.bytes = 48 := by
  obtain ⟨ti0, hi0, hz0, hz1, hz2⟩ := info_parts wordInfo
  exact ⟨ti0, hi0, hz0, hz1, hz2⟩

/-- what comes of an alternative's words -/
def altF (T : List Tok) (k : Nat) : Out (List Wd) → Out Al
  | .bad e p => .bad e p
  | .ok ws k1 => match precL T k1 with
    | .bad e p => .bad e p
    | .ok q k2 => .ok (actL T k ws q k2).1 (actL T k ws q k2).2
theorem altR_F {T : List Tok} {k : Nat} {o : Out Al} (h : AltR T k o) : ∃ o1, WordsR T k [] o1 ∧ o = altF T k o1 := by
  cases h with
  | words h1 => exact ⟨_, h1, rfl⟩
  | prec h1 h2 => exact ⟨_, h1, by simp [altF, h2]⟩
  | ok h1 h2 => exact ⟨_, h1, by simp [altF, h2]⟩
/-- behind an append: below its row's base all but the reader is as it was -/
theorem append_bx {w wa : World} {B E S n b : Nat} {items : List Dat} {rv : Value} {bk : List Nat} (hL : Lies w B (.row E S n items) rv bk) (hB : B ≤ w.heap.size) (h : w.grownBy wa (some b) ∨ ∃ wx, w.grownBy wx (some b) ∧ wx.grownBy wa rv.ownBlock) : Bx B b w wa := by
  rcases h with h | ⟨wx, h1, h2⟩
  · exact (Bx.refl B b w).grown h hB (fun j hj => .inl (Option.some.inj hj).symm)
  · refine ((Bx.refl B b w).grown h1 hB (fun j hj => .inl (Option.some.inj hj).symm)).grown h2 (Nat.le_trans hB h1.size) (fun j hj => .inr ?_)
    obtain ⟨xs, bs', _, _, hob, _⟩ := hL.own
    rcases hob with ⟨h0, _, _⟩ | ⟨q, hq, hb⟩
    · rw [h0] at hj; cases hj
    · have : q = j := Option.some.inj (hq.symm.trans hj)
      exact (Lies.lt hL j (by rw [hb, this]; simp)).1
theorem bx_less {B B' b : Nat} {w w' : World} (h : Bx B b w w') (hB : B' ≤ B) : Bx B' b w w' := ⟨h.os, h.tape, h.output, h.size, fun i hi hb => h.block i (by omega) hb⟩
theorem AltI.more {w0 w2 wa : World} {Ha b g c k k1 : Nat} {T : List Tok} {ws xs : List Wd} {prec act : List UInt8} {has : Bool} {whr at_ : Int} {va v : Value} {bk' : List Nat} (hbw : b < w0.heap.size) (hgw : g < w0.heap.size) (h : AltI w0 w2 Ha b g c T k ws prec has act whr at_) (hH : w2.heap[Ha]? = some (.cells #[va, .string (bs prec), .bool has, .string (bs act), .int .i64 (whr : Int), .int .i64 (at_ : Int)] 51 (0, 0)))
    (hb : Bx (Ha + 1) b w2 wa) (hR : Rr wa b g c T k1) (hL : Lies (wa.setCell ⟨Ha, 0, none⟩ v) (Ha + 1) (.row 54 3 xs.length (wdsD xs)) v bk') (hnd : bk'.Nodup) : AltI w0 (wa.setCell ⟨Ha, 0, none⟩ v) Ha b g c T k1 xs prec has act whr at_ := by
  have h0 := h.base
  have hs := h.bx.size
  have hg := Heap.grown_set wa ⟨Ha, 0, none⟩ v
  have hz := (hb.block w0.heap.size (by omega) (by omega)).trans h.hz
  have ha := (hb.block Ha (by omega) (by omega)).trans hH
  exact ⟨(h.bx.trans (bx_less hb (by omega))).set (.inr (by omega)) 0 v (by have := hb.size; omega), hR.grown hg (by simp; omega) (by simp; omega), (hg.block _ (Array.getElem?_eq_some_iff.1 hz).1 (by simp; omega)).trans hz, ⟨v, bk', heap_setCell_same _ _ 0 _ _ _ ha, hL, hnd⟩, h0⟩
/-- a store within it -/
theorem AltI.put {w0 w : World} {Ha b g c k i : Nat} {T : List Tok} {ws : List Wd} {prec act prec' act' : List UInt8} {has has' : Bool} {whr whr' at_ : Int} {va v : Value} (hbw : b < w0.heap.size) (hgw : g < w0.heap.size) (h : AltI w0 w Ha b g c T k ws prec has act whr at_) (hH : w.heap[Ha]? = some (.cells #[va, .string (bs prec), .bool has, .string (bs act), .int .i64 (whr : Int), .int .i64 (at_ : Int)] 51 (0, 0)))
    (hs : #[va, .string (bs prec), .bool has, .string (bs act), .int .i64 (whr : Int), .int .i64 (at_ : Int)].setIfInBounds i v = #[va, .string (bs prec'), .bool has', .string (bs act'), .int .i64 (whr' : Int), .int .i64 (at_ : Int)]) :
    AltI w0 (w.setCell ⟨Ha, i, none⟩ v) Ha b g c T k ws prec' has' act' whr' at_ ∧ (w.setCell ⟨Ha, i, none⟩ v).heap[Ha]? = some (.cells #[va, .string (bs prec'), .bool has', .string (bs act'), .int .i64 (whr' : Int), .int .i64 (at_ : Int)] 51 (0, 0)) := by
  have h0 := h.base
  have hg := Heap.grown_set w ⟨Ha, i, none⟩ v
  have hH' := heap_setCell_same w Ha i _ _ v hH
  rw [hs] at hH'
  obtain ⟨vb, bk, hB, hL, hnd⟩ := h.row
  have e := hH.symm.trans hB
  simp only [Option.some.injEq, Obj.cells.injEq] at e
  have e0 : va = vb := by have := congrArg (fun x : Array Value => x[0]?) e.1; simpa using this
  subst e0
  exact ⟨⟨h.bx.set (.inr (by omega)) i v h.bx.size, h.rr.grown hg (by simp; omega) (by simp; omega), (hg.block _ (Array.getElem?_eq_some_iff.1 h.hz).1 (by simp; omega)).trans h.hz, ⟨va, bk, hH', Lies.kept hg hL (fun j hj e => by have := (Lies.lt hL j hj).1; have : j = Ha := Option.some.inj e; omega), hnd⟩, h0⟩, hH'⟩
/-- what stands behind its last store -/
theorem alt_done {w0 w : World} {Ha b g c k : Nat} {T : List Tok} {x : Al} {va v0 v1 v2 v3 v4 v5 : Value} (hbw : b < w0.heap.size) (hgw : g < w0.heap.size) (h : AltI w0 w Ha b g c T k x.words x.prec x.has x.action x.whr x.at_) (hva : w.cell? ⟨Ha, 0, none⟩ = some va)
    (h0 : v0 = va) (h1 : v1 = .string (bs x.prec)) (h2 : v2 = .bool x.has) (h3 : v3 = .string (bs x.action)) (h4 : v4 = .int .i64 (x.whr : Int)) (h5 : v5 = .int .i64 (x.at_ : Int)) :
    AltQ b g c T w0 (.ok x k) (.returned (.agg #[v0, v1, v2, v3, v4, v5])) ((((((w.setCell ⟨w0.heap.size, 0, none⟩ v0).setCell ⟨w0.heap.size, 1, none⟩ v1).setCell ⟨w0.heap.size, 2, none⟩ v2).setCell ⟨w0.heap.size, 3, none⟩ v3).setCell ⟨w0.heap.size, 4, none⟩ v4).setCell ⟨w0.heap.size, 5, none⟩ v5) := by
  subst h0 h1 h2 h3 h4 h5
  obtain ⟨vb, bk, hB, hL, hnd⟩ := h.row
  have e : some v0 = some vb := hva.symm.trans (cell_of_row w Ha 0 _ _ _ hB)
  cases e
  obtain ⟨a, cc, rfl⟩ := row_slice hL
  have hbase := h.base
  have hg := Heap.grown_trans (Heap.grown_trans (Heap.grown_trans (Heap.grown_trans (Heap.grown_trans (Heap.grown_set w ⟨w0.heap.size, 0, none⟩ (.slice a x.words.length cc)) (Heap.grown_set _ ⟨w0.heap.size, 1, none⟩ (.string (bs x.prec)))) (Heap.grown_set _ ⟨w0.heap.size, 2, none⟩ (.bool x.has))) (Heap.grown_set _ ⟨w0.heap.size, 3, none⟩ (.string (bs x.action)))) (Heap.grown_set _ ⟨w0.heap.size, 4, none⟩ (.int .i64 (x.whr : Int)))) (Heap.grown_set _ ⟨w0.heap.size, 5, none⟩ (.int .i64 (x.at_ : Int)))
  refine ⟨a, cc, bk, rfl, Lies.base (by omega) (Lies.kept hg hL fun j hj e => ?_), hnd, (h.bx.grown hg h.bx.size (fun j hj => .inr ?_)).to, h.rr.grown hg (by simp; omega) (by simp; omega)⟩
  · have := (Lies.lt hL j hj).1; have : j = w0.heap.size := Option.some.inj e; omega
  · have : w0.heap.size = j := Option.some.inj hj; omega
theorem tok6h {w : World} {H : Nat} {u0 u1 u2 u3 u4 u5 : Value} {t : TypeId} (h : w.heap[H]? = some (.cells #[u0, u1, u2, u3, u4, u5] t (0, 0))) (v0 v1 v2 v3 v4 v5 : Value) :
    ((((((w.setCell ⟨H, 0, none⟩ v0).setCell ⟨H, 1, none⟩ v1).setCell ⟨H, 2, none⟩ v2).setCell ⟨H, 3, none⟩ v3).setCell ⟨H, 4, none⟩ v4).setCell ⟨H, 5, none⟩ v5).heap[H]? = some (.cells #[v0, v1, v2, v3, v4, v5] t (0, 0)) :=
  heap_setCell_same _ H 5 _ _ v5 (heap_setCell_same _ H 4 _ _ v4 (heap_setCell_same _ H 3 _ _ v3 (heap_setCell_same _ H 2 _ _ v2 (heap_setCell_same _ H 1 _ _ v1 (heap_setCell_same w H 0 _ _ v0 h)))))
theorem res_alt {w : World} {H : Nat} {v0 v1 v2 v3 v4 v5 : Value} {tmps : Array Value} (hH : w.heap[H]? = some (.cells #[v0, v1, v2, v3, v4, v5] 51 (0, 0)))
    (h2 : tmps[2]?.getD undef = .pointer (some ⟨H, 0, none⟩)) : (results Try.f68 tmps).run Try.prog w = .ok (.agg #[v0, v1, v2, v3, v4, v5]) w := by
  obtain ⟨⟨a0, a1, a2, a3, a4, a5⟩, _⟩ := cells6 hH
  simp [results, Try.results68, go_sem, h2, a0, a1, a2, a3, a4, a5]
theorem AltI.slice {w0 w : World} {Ha b g c k : Nat} {T : List Tok} {ws : List Wd} {prec act : List UInt8} {has : Bool} {whr at_ : Int} {va : Value} (h : AltI w0 w Ha b g c T k ws prec has act whr at_) (hva : w.cell? ⟨Ha, 0, none⟩ = some va) : ∃ a c, va = .slice a ws.length c := by
  obtain ⟨vb, bk, hB, hL, hnd⟩ := h.row
  have e : some va = some vb := hva.symm.trans (cell_of_row w Ha 0 _ _ _ hB)
  cases e
  exact row_slice hL
theorem words_step {T : List Tok} {k : Nat} {ws : List Wd} {o : Out (List Wd)} (h : WordsR T k ws o) :
    (isK T k 2 = false ∧ o = .ok ws k) ∨ (isK T k 2 = true ∧ ∃ a, PR T (.word k 0) a ∧ (∀ e p, a = .bad e p → o = .bad e p) ∧ ∀ x k1, a = .one x k1 → WordsR T k1 (ws ++ [x]) o) := by
  cases h with
  | stop h => exact .inl ⟨h, rfl⟩
  | fail h1 h2 => exact .inr ⟨h1, _, h2, fun _ _ e => (by cases e; rfl), fun _ _ e => (by cases e)⟩
  | next h1 h2 h3 => exact .inr ⟨h1, _, h2, fun _ _ e => (by cases e), fun _ _ e => (by cases e; exact h3)⟩
set_option maxRecDepth 100000 in
set_option maxHeartbeats 4000000 in
/-- an alternative -/
theorem alt_any {w : World} {b g c k0 : Nat} {T : List Tok} {o : Out Al} (hAt : ∀ i, (tok T i).at_ ≤ 1000000000) (hT : Ready.Ends T) (hT2 : T.length ≤ 1000000) (hR : Rr w b g c T k0) (hk : k0 < T.length) (ha : AltR T k0 o) :
    Calls Try.prog 68 #[.pointer (some ⟨b, 0, none⟩)] w (AltQ b g c T w o) := by
  obtain ⟨o1, ho, hF⟩ := altR_F ha
  obtain ⟨ti0, hi0, hz0, hz1, hz2⟩ := wdInfo
  obtain ⟨kd, hkd⟩ : ∃ x, (tok T k0).kind = x := ⟨_, rfl⟩
  obtain ⟨tx, htx⟩ : ∃ x, bs (tok T k0).text = x := ⟨_, rfl⟩
  obtain ⟨pa, hpa⟩ : ∃ x, (tok T k0).at_ = x := ⟨_, rfl⟩
  have hfl := field_at
  have HN := Lib.hid (fun (w : World) (h : Rr w b g c T k0) => next_is h hk hT2 hkd htx hpa)
  have hbw := hR.bl
  have hgw := hR.gl
  have HZ := Lib.hid (hR.new ((Below.refl _ w).alloc (Nat.le_refl _) (.cells #[.slice none 0 0, .string { data := #[] }, .bool false, .string { data := #[] }, .int .i64 0, .int .i64 0] 51)))
  have HO := Lib.hid ho
  have HF := Lib.hid hF
  clear hR hkd htx ho ha hF
  go_enter Try.func68, Try.ntmps68
  go_wp2_with (go_at_call 59; go_must (refine (HN.out _ HZ.out).mono ?_); rintro e w1 ⟨rfl, hb1⟩; have z1 := hb1.size; have I1 := Lib.hid (show AltI w (w1.alloc (.cells #[.slice none 0 0, .string { data := #[] }, .bool false, .string { data := #[] }, .int .i64 0, .int .i64 (pa : Int)] 51)) w1.heap.size b g c T k0 [] [] false [] 0 pa from ⟨((Bx.refl _ b w).below (((Below.refl _ w).alloc (Nat.le_refl _) _).trans (hb1.mono (by simp))) (Nat.le_refl _)).below ((Below.refl _ _).alloc (Nat.le_refl _) _) (by have := hb1.size; simp at this; omega), (HZ.out.new hb1).new ((Below.refl _ _).alloc (Nat.le_refl _) _), (Below.heap_alloc _ _ _ (by have := hb1.size; simp at this; omega)).trans ((hb1.block _ (by simp)).trans (heap_alloc_new w _)), ⟨_, [], heap_alloc_new w1 _, by simpa [wdsD_nil] using Lies.nil _ _ _ _, List.nodup_nil⟩, by have := hb1.size; simp at this; omega⟩))
  go_loopg [] T.length (fun gk wr => ∃ (k : Nat) (ws : List Wd), k < T.length ∧ T.length - k ≤ gk ∧ ws.length ≤ k ∧ WordsR T k ws o1 ∧ AltI w wr w1.heap.size b g c T k ws [] false [] 0 pa)
  case atStart => exact ⟨k0, [], hk, by omega, by simp, HO.out, I1.out⟩
  case round =>
    obtain ⟨k, ws, hk, hgk, hl, ho, hI⟩ := hrel
    have HI := Lib.hid hI; clear hI
    rcases words_step ho with ⟨h1, rfl⟩ | ⟨h1, a, ha, hbad, hone⟩
    -- TAIL
    · have HIS := Lib.hid (is_kind (kz := 2) HI.out.rr hk hT2 h1 rfl)
      cases hc1 : isT T k 1 [112, 114, 101, 99] with
      | false =>
        have hp : precL T k = .ok [] k := by simp [precL, hc1]
        have HC1 := Lib.hid hc1; clear hc1
        have HK2 := Lib.hid hk
        obtain ⟨kd2, hkd2⟩ : ∃ x, (tok T k).kind = x := ⟨_, rfl⟩
        obtain ⟨tx2, htx2⟩ : ∃ x, (tok T k).text = x := ⟨_, rfl⟩
        obtain ⟨pa2, hpa2⟩ : ∃ x, (tok T k).at_ = x := ⟨_, rfl⟩
        have hpb := hAt k; rw [hpa2] at hpb
        have HN2 := Lib.hid (fun (w : World) (h : Rr w b g c T k) => next_is (tx := bs tx2) (kd := kd2) (pa := pa2) h hk hT2 hkd2 (congrArg bs htx2) hpa2)
        cases hc3 : isK T k 9 with
        | false =>
          have hF2 : o = .ok ⟨ws, [], false, [], 0, (tok T k0).at_⟩ k := by rw [HF.out]; simp [altF, hp, actL, hc3]
          rw [hpa] at hF2
          have HF2 := Lib.hid hF2; have HC3 := Lib.hid hc3
          clear hkd2 htx2 hpa2 hp hF2 hc3
          go_wp2_with (first | (go_at_call 62; refine (take_kind_f (kind := 9) I7.out.rr HK2.out hT2 HC3.out rfl).mono ?_; rintro e w8 ⟨rfl, hb8⟩; have I8 := Lib.hid (I7.out.below hbw hb8); have hH8 := (hb8.block _ (Array.getElem?_eq_some_iff.1 hH7).1).trans hH7; obtain ⟨⟨c0, c1, c2, c3, c4, c5⟩, _⟩ := cells6 hH8; have hz8 := I8.out.hz; obtain ⟨⟨e0, e1, e2, e3, e4, e5⟩, f0, f1, f2, f3, f4, f5⟩ := cells6 hz8; obtain ⟨a8, c8, rfl⟩ := I8.out.slice c0) | (go_at_call 59; go_must (refine (HN2.out _ I6.out.rr).mono ?_); rintro e w7 ⟨rfl, hb7⟩; have z7 := hb7.size; have hH7 := (Below.heap_alloc w7 (.cells #[.int .u8 (kd2 : Int), .string (bs tx2), .int .i64 (pa2 : Int)] 31) _ (by have := (Array.getElem?_eq_some_iff.1 hH6).1; omega)).trans ((hb7.block _ (Array.getElem?_eq_some_iff.1 hH6).1).trans hH6); have hT7 := heap_alloc_new w7 (.cells #[.int .u8 (kd2 : Int), .string (bs tx2), .int .i64 (pa2 : Int)] 31); have I7 := Lib.hid ((I6.out.below hbw hb7).below hbw ((Below.refl _ _).alloc (Nat.le_refl _) (.cells #[.int .u8 (kd2 : Int), .string (bs tx2), .int .i64 (pa2 : Int)] 31)))) | (go_at_call 62; refine (take_one_f (t := [112, 114, 101, 99]) (cp := 1) (I2.out.rr.new ((Below.refl _ _).alloc (Nat.le_refl _) (.cells #[.string (bs [112, 114, 101, 99])] 9))) hk hT2 (text_at w2 rfl) HC1.out rfl).mono ?_; rintro e w4 ⟨rfl, hb4⟩; have I6 := Lib.hid ((I2.out.below hbw ((Below.refl _ _).alloc (Nat.le_refl _) _)).below hbw hb4); obtain ⟨va, hH6⟩ : ∃ va, _ = _ := (let ⟨va, _, h, _⟩ := I6.out.row; ⟨va, h⟩)) | (go_at_call 35; go_must (refine HIS.out.mono ?_); rintro e w2 ⟨rfl, hb2⟩; have I2 := Lib.hid (HI.out.below hbw hb2)))
          refine bodyPost_ret (res_alt (tok6h hz8 _ _ _ _ _ _) rfl) rfl ?_
          rw [HF2.out]
          exact alt_done hbw hgw I8.out c0 rfl rfl rfl rfl rfl rfl
        | true =>
          have hF2 : o = .ok ⟨ws, [], true, tx2, pa2 + 1, (tok T k0).at_⟩ (k + 1) := by rw [HF.out]; simp [altF, hp, actL, hc3, htx2, hpa2]
          rw [hpa] at hF2
          have HF2 := Lib.hid hF2; have HC3 := Lib.hid hc3
          have hwr : IntKind.i64.wrap ((pa2 : Int) + 1) = (pa2 : Int) + 1 := IntWalk.i64_in _ (by omega)
          clear hkd2 htx2 hpa2 hp hF2 hc3
          go_wp2_with (first | (go_at_call 62; refine (take_kind_t (kind := 9) I7.out.rr HK2.out hT2 HC3.out rfl).mono ?_; rintro e w8 ⟨rfl, hg8, hR8⟩; have I8 := Lib.hid (I7.out.go hbw hg8 hR8); have hzl := I8.out.base; have hH8 := (hg8.block _ (Array.getElem?_eq_some_iff.1 hH7).1 (by simp; omega)).trans hH7; have hT8 := (hg8.block _ (Array.getElem?_eq_some_iff.1 hT7).1 (by have := I6.out.bx.size; simp; omega)).trans hT7; obtain ⟨p0, p1, p2, _⟩ := cells3 hT8; have hn1 : w7.heap.size ≠ w1.heap.size := (by have := (Array.getElem?_eq_some_iff.1 hH6).1; omega); have hn2 : w1.heap.size ≠ w7.heap.size := Ne.symm hn1; obtain ⟨⟨c0, c1, c2, c3, c4, c5⟩, f0, f1, f2, f3, f4, f5⟩ := cells6 hH8) | (go_at_call 59; go_must (refine (HN2.out _ I6.out.rr).mono ?_); rintro e w7 ⟨rfl, hb7⟩; have z7 := hb7.size; have hH7 := (Below.heap_alloc w7 (.cells #[.int .u8 (kd2 : Int), .string (bs tx2), .int .i64 (pa2 : Int)] 31) _ (by have := (Array.getElem?_eq_some_iff.1 hH6).1; omega)).trans ((hb7.block _ (Array.getElem?_eq_some_iff.1 hH6).1).trans hH6); have hT7 := heap_alloc_new w7 (.cells #[.int .u8 (kd2 : Int), .string (bs tx2), .int .i64 (pa2 : Int)] 31); have I7 := Lib.hid ((I6.out.below hbw hb7).below hbw ((Below.refl _ _).alloc (Nat.le_refl _) (.cells #[.int .u8 (kd2 : Int), .string (bs tx2), .int .i64 (pa2 : Int)] 31)))) | (go_at_call 62; refine (take_one_f (t := [112, 114, 101, 99]) (cp := 1) (I2.out.rr.new ((Below.refl _ _).alloc (Nat.le_refl _) (.cells #[.string (bs [112, 114, 101, 99])] 9))) hk hT2 (text_at w2 rfl) HC1.out rfl).mono ?_; rintro e w4 ⟨rfl, hb4⟩; have I6 := Lib.hid ((I2.out.below hbw ((Below.refl _ _).alloc (Nat.le_refl _) _)).below hbw hb4); obtain ⟨va, hH6⟩ : ∃ va, _ = _ := (let ⟨va, _, h, _⟩ := I6.out.row; ⟨va, h⟩)) | (go_at_call 35; go_must (refine HIS.out.mono ?_); rintro e w2 ⟨rfl, hb2⟩; have I2 := Lib.hid (HI.out.below hbw hb2)))
          go_region
          have P2 := AltI.put (i := 2) (v := .bool true) (prec' := []) (act' := []) (has' := true) (whr' := 0) hbw hgw I8.out hH8 (by rfl)
          have P3 := AltI.put (i := 3) (v := .string (bs tx2)) (prec' := []) (act' := tx2) (has' := true) (whr' := 0) hbw hgw P2.1 P2.2 (by rfl)
          have P4 := AltI.put (i := 4) (v := .int .i64 ((pa2 : Int) + 1)) (prec' := []) (act' := tx2) (has' := true) (whr' := pa2 + 1) hbw hgw P3.1 P3.2 (by first | rfl | simp)
          have I9 := Lib.hid (P4.1.below hbw ((Below.refl _ _).drew))
          have hH9 : ((((w8.setCell ⟨w1.heap.size, 2, none⟩ (.bool true)).setCell ⟨w1.heap.size, 3, none⟩ (.string (bs tx2))).setCell ⟨w1.heap.size, 4, none⟩ (.int .i64 ((pa2 : Int) + 1))).drew).heap[w1.heap.size]? = _ := P4.2
          clear P2 P3 P4 c0 c1 c2 c3 c4 c5 f0 f1 f2 f3 f4 f5 p0 p1 p2 hH8
          generalize (((w8.setCell ⟨w1.heap.size, 2, none⟩ (.bool true)).setCell ⟨w1.heap.size, 3, none⟩ (.string (bs tx2))).setCell ⟨w1.heap.size, 4, none⟩ (.int .i64 ((pa2 : Int) + 1))).drew = w9 at hH9 I9 ⊢
          have hz9 := I9.out.hz
          obtain ⟨⟨c0, c1, c2, c3, c4, c5⟩, _⟩ := cells6 hH9
          obtain ⟨⟨e0, e1, e2, e3, e4, e5⟩, f0, f1, f2, f3, f4, f5⟩ := cells6 hz9
          obtain ⟨a8, c8, rfl⟩ := I9.out.slice c0
          go_wp2
          refine bodyPost_ret (res_alt (tok6h hz9 _ _ _ _ _ _) rfl) rfl ?_
          rw [HF2.out]
          exact alt_done hbw hgw I9.out c0 rfl rfl rfl rfl (by first | rfl | simp) rfl
      | true =>
        have hk1 := hT.ltT hk hc1
        have HC1 := Lib.hid hc1
        have HK1 := Lib.hid hk1
        cases hc2 : isK T (k + 1) 2 with
        | false =>
          have hF2 : o = .bad 102 (tok T (k + 1)).at_ := by rw [HF.out]; simp [altF, precL, hc1, hc2]
          have HF2 := Lib.hid hF2; have HC2 := Lib.hid hc2
          clear hc1 hF2 hc2
          go_wp2_with (first | (go_at_call 61; refine (name_f I4.out.rr HK1.out hT2 HC2.out).mono ?_; rintro e w5 ⟨rfl, hb5⟩; have I5 := Lib.hid (I4.out.below hbw hb5)) | (go_at_call 62; refine (take_one_t (t := [112, 114, 101, 99]) (cp := 1) (I2.out.rr.new ((Below.refl _ _).alloc (Nat.le_refl _) (.cells #[.string (bs [112, 114, 101, 99])] 9))) hk hT2 (text_at w2 rfl) HC1.out rfl).mono ?_; rintro e w4 ⟨rfl, hg4, hR4⟩; have I4 := Lib.hid ((I2.out.below hbw ((Below.refl _ _).alloc (Nat.le_refl _) _)).go hbw hg4 hR4)) | (go_at_call 35; go_must (refine HIS.out.mono ?_); rintro e w2 ⟨rfl, hb2⟩; have I2 := Lib.hid (HI.out.below hbw hb2)))
          rw [HF2.out]
          exact ⟨rfl, rfl, I5.out.bx.to⟩
        | true =>
          have hk2 := hT.ltK hk1 hc2
          have HK2 := Lib.hid (show k + 2 < T.length from hk2)
          have hp : precL T k = .ok (tok T (k + 1)).text (k + 2) := by simp [precL, hc1, hc2]
          obtain ⟨tx1, htx1⟩ : ∃ x, (tok T (k + 1)).text = x := ⟨_, rfl⟩
          have HNM := Lib.hid (show ∀ (w : World), Rr w b g c T (k + 1) → Calls Try.prog 61 #[.pointer (some ⟨b, 0, none⟩)] w fun e w' => e = .returned (.string (bs tx1)) ∧ w.grownBy w' (some b) ∧ Rr w' b g c T (k + 2) from fun w h => by rw [← htx1]; exact name_t h hk1 hT2 hc2)
          rw [htx1] at hp
          obtain ⟨kd2, hkd2⟩ : ∃ x, (tok T (k + 2)).kind = x := ⟨_, rfl⟩
          obtain ⟨tx2, htx2⟩ : ∃ x, (tok T (k + 2)).text = x := ⟨_, rfl⟩
          obtain ⟨pa2, hpa2⟩ : ∃ x, (tok T (k + 2)).at_ = x := ⟨_, rfl⟩
          have hpb := hAt (k + 2); rw [hpa2] at hpb
          have HN2 := Lib.hid (fun (w : World) (h : Rr w b g c T (k + 2)) => next_is (tx := bs tx2) (kd := kd2) (pa := pa2) h hk2 hT2 hkd2 (congrArg bs htx2) hpa2)
          cases hc3 : isK T (k + 2) 9 with
          | false =>
            have hF2 : o = .ok ⟨ws, tx1, false, [], 0, (tok T k0).at_⟩ (k + 2) := by rw [HF.out]; simp [altF, hp, actL, hc3]
            rw [hpa] at hF2
            have HF2 := Lib.hid hF2; have HC3 := Lib.hid hc3
            clear hkd2 htx2 hpa2 hp hF2 hc3 hc1 hc2 htx1
            go_wp2_with (first | (go_at_call 62; refine (take_kind_f (kind := 9) I7.out.rr HK2.out hT2 HC3.out rfl).mono ?_; rintro e w8 ⟨rfl, hb8⟩; have I8 := Lib.hid (I7.out.below hbw hb8); have hH8 := (hb8.block _ (Array.getElem?_eq_some_iff.1 hH7).1).trans hH7; obtain ⟨⟨c0, c1, c2, c3, c4, c5⟩, _⟩ := cells6 hH8; have hz8 := I8.out.hz; obtain ⟨⟨e0, e1, e2, e3, e4, e5⟩, f0, f1, f2, f3, f4, f5⟩ := cells6 hz8; obtain ⟨a8, c8, rfl⟩ := I8.out.slice c0) | (go_at_call 59; go_must (refine (HN2.out _ I6.out.rr).mono ?_); rintro e w7 ⟨rfl, hb7⟩; have z7 := hb7.size; have hH7 := (Below.heap_alloc w7 (.cells #[.int .u8 (kd2 : Int), .string (bs tx2), .int .i64 (pa2 : Int)] 31) _ (by have := (Array.getElem?_eq_some_iff.1 hH6).1; omega)).trans ((hb7.block _ (Array.getElem?_eq_some_iff.1 hH6).1).trans hH6); have hT7 := heap_alloc_new w7 (.cells #[.int .u8 (kd2 : Int), .string (bs tx2), .int .i64 (pa2 : Int)] 31); have I7 := Lib.hid ((I6.out.below hbw hb7).below hbw ((Below.refl _ _).alloc (Nat.le_refl _) (.cells #[.int .u8 (kd2 : Int), .string (bs tx2), .int .i64 (pa2 : Int)] 31)))) | (go_at_call 61; refine (HNM.out _ I4.out.rr).mono ?_; rintro e w5 ⟨rfl, hg5, hR5⟩; have I5 := Lib.hid (I4.out.go hbw hg5 hR5); obtain ⟨va, hH5⟩ : ∃ va, _ = _ := (let ⟨va, _, h, _⟩ := I5.out.row; ⟨va, h⟩); obtain ⟨⟨_, d1, _⟩, _, t1, _⟩ := cells6 hH5; have I5p := AltI.put (i := 1) (v := .string (bs tx1)) (prec' := tx1) (act' := []) (has' := false) (whr' := 0) hbw hgw I5.out hH5 (by rfl); have hH6 := I5p.2; have I6 := Lib.hid I5p.1) | (go_at_call 62; refine (take_one_t (t := [112, 114, 101, 99]) (cp := 1) (I2.out.rr.new ((Below.refl _ _).alloc (Nat.le_refl _) (.cells #[.string (bs [112, 114, 101, 99])] 9))) hk hT2 (text_at w2 rfl) HC1.out rfl).mono ?_; rintro e w4 ⟨rfl, hg4, hR4⟩; have I4 := Lib.hid ((I2.out.below hbw ((Below.refl _ _).alloc (Nat.le_refl _) _)).go hbw hg4 hR4)) | (go_at_call 35; go_must (refine HIS.out.mono ?_); rintro e w2 ⟨rfl, hb2⟩; have I2 := Lib.hid (HI.out.below hbw hb2)))
            refine bodyPost_ret (res_alt (tok6h hz8 _ _ _ _ _ _) rfl) rfl ?_
            rw [HF2.out]
            exact alt_done hbw hgw I8.out c0 rfl rfl rfl rfl rfl rfl
          | true =>
            have hF2 : o = .ok ⟨ws, tx1, true, tx2, pa2 + 1, (tok T k0).at_⟩ (k + 3) := by rw [HF.out]; simp [altF, hp, actL, hc3, htx2, hpa2]
            rw [hpa] at hF2
            have HF2 := Lib.hid hF2; have HC3 := Lib.hid hc3
            have hwr : IntKind.i64.wrap ((pa2 : Int) + 1) = (pa2 : Int) + 1 := IntWalk.i64_in _ (by omega)
            clear hkd2 htx2 hpa2 hp hF2 hc3 hc1 hc2 htx1
            go_wp2_with (first | (go_at_call 62; refine (take_kind_t (kind := 9) I7.out.rr HK2.out hT2 HC3.out rfl).mono ?_; rintro e w8 ⟨rfl, hg8, hR8⟩; have I8 := Lib.hid (I7.out.go hbw hg8 hR8); have hzl := I8.out.base; have hH8 := (hg8.block _ (Array.getElem?_eq_some_iff.1 hH7).1 (by simp; omega)).trans hH7; have hT8 := (hg8.block _ (Array.getElem?_eq_some_iff.1 hT7).1 (by have := I6.out.bx.size; simp; omega)).trans hT7; obtain ⟨p0, p1, p2, _⟩ := cells3 hT8; have hn1 : w7.heap.size ≠ w1.heap.size := (by have := (Array.getElem?_eq_some_iff.1 hH6).1; omega); have hn2 : w1.heap.size ≠ w7.heap.size := Ne.symm hn1; obtain ⟨⟨c0, c1, c2, c3, c4, c5⟩, f0, f1, f2, f3, f4, f5⟩ := cells6 hH8) | (go_at_call 59; go_must (refine (HN2.out _ I6.out.rr).mono ?_); rintro e w7 ⟨rfl, hb7⟩; have z7 := hb7.size; have hH7 := (Below.heap_alloc w7 (.cells #[.int .u8 (kd2 : Int), .string (bs tx2), .int .i64 (pa2 : Int)] 31) _ (by have := (Array.getElem?_eq_some_iff.1 hH6).1; omega)).trans ((hb7.block _ (Array.getElem?_eq_some_iff.1 hH6).1).trans hH6); have hT7 := heap_alloc_new w7 (.cells #[.int .u8 (kd2 : Int), .string (bs tx2), .int .i64 (pa2 : Int)] 31); have I7 := Lib.hid ((I6.out.below hbw hb7).below hbw ((Below.refl _ _).alloc (Nat.le_refl _) (.cells #[.int .u8 (kd2 : Int), .string (bs tx2), .int .i64 (pa2 : Int)] 31)))) | (go_at_call 61; refine (HNM.out _ I4.out.rr).mono ?_; rintro e w5 ⟨rfl, hg5, hR5⟩; have I5 := Lib.hid (I4.out.go hbw hg5 hR5); obtain ⟨va, hH5⟩ : ∃ va, _ = _ := (let ⟨va, _, h, _⟩ := I5.out.row; ⟨va, h⟩); obtain ⟨⟨_, d1, _⟩, _, t1, _⟩ := cells6 hH5; have I5p := AltI.put (i := 1) (v := .string (bs tx1)) (prec' := tx1) (act' := []) (has' := false) (whr' := 0) hbw hgw I5.out hH5 (by rfl); have hH6 := I5p.2; have I6 := Lib.hid I5p.1) | (go_at_call 62; refine (take_one_t (t := [112, 114, 101, 99]) (cp := 1) (I2.out.rr.new ((Below.refl _ _).alloc (Nat.le_refl _) (.cells #[.string (bs [112, 114, 101, 99])] 9))) hk hT2 (text_at w2 rfl) HC1.out rfl).mono ?_; rintro e w4 ⟨rfl, hg4, hR4⟩; have I4 := Lib.hid ((I2.out.below hbw ((Below.refl _ _).alloc (Nat.le_refl _) _)).go hbw hg4 hR4)) | (go_at_call 35; go_must (refine HIS.out.mono ?_); rintro e w2 ⟨rfl, hb2⟩; have I2 := Lib.hid (HI.out.below hbw hb2)))
            go_region
            have P2 := AltI.put (i := 2) (v := .bool true) (prec' := tx1) (act' := []) (has' := true) (whr' := 0) hbw hgw I8.out hH8 (by rfl)
            have P3 := AltI.put (i := 3) (v := .string (bs tx2)) (prec' := tx1) (act' := tx2) (has' := true) (whr' := 0) hbw hgw P2.1 P2.2 (by rfl)
            have P4 := AltI.put (i := 4) (v := .int .i64 ((pa2 : Int) + 1)) (prec' := tx1) (act' := tx2) (has' := true) (whr' := pa2 + 1) hbw hgw P3.1 P3.2 (by first | rfl | simp)
            have I9 := Lib.hid (P4.1.below hbw ((Below.refl _ _).drew))
            have hH9 : ((((w8.setCell ⟨w1.heap.size, 2, none⟩ (.bool true)).setCell ⟨w1.heap.size, 3, none⟩ (.string (bs tx2))).setCell ⟨w1.heap.size, 4, none⟩ (.int .i64 ((pa2 : Int) + 1))).drew).heap[w1.heap.size]? = _ := P4.2
            clear P2 P3 P4 c0 c1 c2 c3 c4 c5 f0 f1 f2 f3 f4 f5 p0 p1 p2 hH8
            generalize (((w8.setCell ⟨w1.heap.size, 2, none⟩ (.bool true)).setCell ⟨w1.heap.size, 3, none⟩ (.string (bs tx2))).setCell ⟨w1.heap.size, 4, none⟩ (.int .i64 ((pa2 : Int) + 1))).drew = w9 at hH9 I9 ⊢
            have hz9 := I9.out.hz
            obtain ⟨⟨c0, c1, c2, c3, c4, c5⟩, _⟩ := cells6 hH9
            obtain ⟨⟨e0, e1, e2, e3, e4, e5⟩, f0, f1, f2, f3, f4, f5⟩ := cells6 hz9
            obtain ⟨a8, c8, rfl⟩ := I9.out.slice c0
            go_wp2
            refine bodyPost_ret (res_alt (tok6h hz9 _ _ _ _ _ _) rfl) rfl ?_
            rw [HF2.out]
            exact alt_done hbw hgw I9.out c0 rfl rfl rfl rfl (by first | rfl | simp) rfl

    -- END
    · have HIS := Lib.hid (is_kind (kz := 2) HI.out.rr hk hT2 h1 rfl)
      go_wp2_with (go_at_call 35; go_must (refine HIS.out.mono ?_); rintro e w2 ⟨rfl, hb2⟩; have I2 := Lib.hid (HI.out.below hbw hb2))
      obtain ⟨va, bk, hH, hL, hnd⟩ := I2.out.row
      have hR2 := I2.out.rr
      obtain ⟨oa, oc, rfl⟩ := row_slice hL
      obtain ⟨⟨c0, _⟩, f0, _⟩ := cells6 hH
      have hHl := (Array.getElem?_eq_some_iff.1 hH).1
      have hbase := I2.out.base
      have hsz2 := I2.out.bx.size
      refine append8 (α := Option Addr × Nat × Wd) (val := fun x => match x with | (va, vc, .mk n ws a) => .agg #[.string (bs n), .slice va ws.length vc, .int .i64 (a : Int)]) (us := fun x => match x with | (va, vc, .mk n ws a) => [.string (bs n), .slice va ws.length vc, .int .i64 (a : Int)]) (ds := fun x => wdD x.2.2) (X := fun x u => ∃ k1, a = .one x.2.2 k1 ∧ Rr u b g c T k1) (S2 := fun _ => True) (rr := some b) (H := w1.heap.size) (fo := 0) (B := w1.heap.size + 1) (bk := bk) (items := wdsD ws) (n := ws.length) (E := 54) (S := 3) (R := 49) (bytes := 48) (ti := ti0) (z := .agg #[.string { data := #[] }, .slice none 0 0, .int .i64 0]) (v2 := .pointer (some ⟨b, 0, none⟩)) (f := 88) (args := #[.pointer (some ⟨b, 0, none⟩), .int .i64 0]) (by kernel_rfl) (by kernel_rfl) (loose_block (loose_then (loose_block (loose_then loose_body)))) c0 f0 hL hnd (by omega) (by omega) Try.underlying49 hi0 hz0 hz1 hz2 (by rfl) (by omega) (by omega) (by omega) ?hus ?y0 ?y1 trivial (fun _ _ _ => trivial) ?y2 ?y3 ?hc ?y4 (by rfl) ?y5a ?y5b ?y6 ?y7 ?hfin
      case hus => rintro ⟨va, vc, ⟨nx, ax, px⟩⟩; exact ⟨rfl, wdD_len _, by simp [Value.oneCell']⟩
      case y0 => intro u; go_simp
      case y1 => intro u hu; go_simp
      case y2 => intro u _; go_simp
      case y3 => intro u; go_simp
      case y4 => rintro ⟨va, vc, ⟨nx, ax, px⟩⟩ u; go_simp
      case y5a => intro x v4; rfl
      case y5b => intro x v4; rfl
      case y6 => intro x v4 v5 u; go_simp
      case y7 => intro x v4 gg cp u h0 h1; go_simp
      case hc =>
        have hcall : Calls Try.prog 88 #[.pointer (some ⟨b, 0, none⟩), .int .i64 0] w2.drew (WordQ b g c T w2.drew a) := word_any hT hT2 _ k 0 a w2.drew (Nat.le_refl _) hk (by omega) ha (hR2.drewN 1)
        refine hcall.mono ?_
        intro e w3 hq
        cases a with
        | many => exact hq.elim
        | bad x p =>
          obtain ⟨rfl, hg⟩ := hq
          refine .inl ⟨_, rfl, rfl, ?_⟩
          rw [HF.out, hbad _ _ rfl]
          exact ⟨rfl, (I2.out.bx.grown (kept_b (Below.refl _ w2).drew hg) hsz2 (fun j hj => .inl (Option.some.inj hj).symm)).to⟩
        | one x k1 =>
          obtain ⟨nx, ax, px⟩ := x
          obtain ⟨vx, vc, bx, rfl, hLx, hndx, hgx, hRx⟩ := hq
          refine .inr ⟨(vx, vc, .mk nx ax px), bx ++ [], rfl, ⟨k1, rfl, hRx⟩, trivial, ⟨?_, by simpa using hndx, kept_b (Below.refl _ w2).drew hgx, ?_⟩⟩
          · have h1 := LiesL.lit (u := .string (bs nx)) (LiesL.more hLx (LiesL.lit (u := .int .i64 (px : Int)) (LiesL.nil.2 ⟨rfl, rfl⟩)))
            show LiesL w3 w2.heap.size (wdD (.mk nx ax px)) _ _
            simp only [wdD]
            exact h1
          · intro j hj; cases hj; omega
      case hfin =>
        rintro ⟨vx, vc, x⟩ w3 wa gg cp bk' v4 ⟨k1, rfl, hR3⟩ ⟨r, hgr, hrb⟩ hgw' hL' hnd' hbk hsz hH'
        show (_ : Act → World → Prop) _ _
        refine (by assumption : ∀ a' w', Handed _ _ a' w' → _) _ _ ?_
        go_roundg (T.length - k1)
        case measure => have := past_word hT ha hk; omega
        case rel =>
          have hpw := past_word hT ha hk
          have hr0 : ∀ j, j < w1.heap.size + 1 → some j ≠ r := fun j hj e => by have := (Lies.lt hL j (hrb j e.symm)).1; omega
          refine ⟨k1, ws ++ [x], hpw.2, by omega, by simp; omega, hone _ _ rfl, AltI.more hbw hgw I2.out hH (append_bx hL (by omega) hgw') (hR3.grown hgr (hr0 _ (by omega)) (hr0 _ (by omega))) ?_ hnd'⟩
          rw [wdsD_snoc, List.length_append]; exact hL'
end Go.Proofs.Ytelpkldlkpoioaa.ReadH
