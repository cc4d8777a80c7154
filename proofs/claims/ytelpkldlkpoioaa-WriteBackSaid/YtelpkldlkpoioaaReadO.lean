/- The reader of grammars' texts: the text that is being read; the closure that catches a fault, walked. -/
import Derived.Test.YtelpkldlkpoioaaReadN
import Derived.Defers
import Derived.Recover
namespace Go.Proofs.Ytelpkldlkpoioaa.ReadO
open Go.RowKit Go.Proofs.Ytelpkldlkpoioaa.Lexy Go.Proofs.Ytelpkldlkpoioaa.LexA Go.Proofs.Ytelpkldlkpoioaa.LexB Go.Proofs.Ytelpkldlkpoioaa.LexC Go.Proofs.Ytelpkldlkpoioaa.LexD Go.Proofs.Ytelpkldlkpoioaa.LexE Go.Proofs.Ytelpkldlkpoioaa.LexF Go.Proofs.Ytelpkldlkpoioaa.LexG Go.Proofs.Ytelpkldlkpoioaa.Heap Go.Proofs.Ytelpkldlkpoioaa.Dat Go.Proofs.Ytelpkldlkpoioaa.Ready Go.Proofs.Ytelpkldlkpoioaa.ReadA Go.Proofs.Ytelpkldlkpoioaa.ReadB Go.Proofs.Ytelpkldlkpoioaa.ReadC Go.Proofs.Ytelpkldlkpoioaa.ReadE Go.Proofs.Ytelpkldlkpoioaa.ReadD Go.Proofs.Ytelpkldlkpoioaa.ReadF Go.Proofs.Ytelpkldlkpoioaa.ReadG Go.Proofs.Ytelpkldlkpoioaa.ReadH Go.Proofs.Ytelpkldlkpoioaa.ReadI Go.Proofs.Ytelpkldlkpoioaa.ReadJ Go.Proofs.Ytelpkldlkpoioaa.ReadL Go.Proofs.Ytelpkldlkpoioaa.ReadM Go.Proofs.Ytelpkldlkpoioaa.ReadN Go.Proofs.Ytelpkldlkpoioaa.Cut

/-- declarations', rules' cells -/
def desD : List De → List Dat
  | [] => []
  | x :: xs => deD x ++ desD xs
def rusD : List Ru → List Dat
  | [] => []
  | x :: xs => ruD x ++ rusD xs
theorem desD_snoc (xs : List De) (x : De) : desD (xs ++ [x]) = desD xs ++ deD x := by
  induction xs with
  | nil => simp [desD]
  | cons y ys ih => simp [desD, ih]
theorem rusD_snoc (xs : List Ru) (x : Ru) : rusD (xs ++ [x]) = rusD xs ++ ruD x := by
  induction xs with
  | nil => simp [rusD]
  | cons y ys ih => simp [rusD, ih]
theorem deD_len (x : De) : (deD x).length = 4 := rfl
theorem ruD_len (x : Ru) : (ruD x).length = 4 := rfl
/-- a text's cells -/
def txD (x : Tx) : List Dat := [.row 45 4 x.decls.length (desD x.decls), .row 48 4 x.rules.length (rusD x.rules)]
/-- what a source says: its tokens', and a text of these -/
inductive SaysR (s : List UInt8) : Out Tx → Prop
  | bad {e p : Nat} : toks s = .bad e p → SaysR s (.bad e p)
  | good {l : List Tok} {o : Out Tx} : toks s = .good l → TextR l o → SaysR s o
/-- how it ended -/
def TextQ (w : World) : Out Tx → Ending → World → Prop
  | .ok x _, e, w' => ∃ (da ra : Option Addr) (dc rc : Nat) (bk : List Nat), e = .returned (.tuple #[.agg #[.slice da x.decls.length dc, .slice ra x.rules.length rc], .agg #[.int .i64 0, .int .i64 0]]) ∧ LiesL w' w.heap.size (txD x) [.slice da x.decls.length dc, .slice ra x.rules.length rc] bk ∧ bk.Nodup ∧ Below w.heap.size w w'
  | .bad x p, e, w' => e = .returned (.tuple #[.agg #[.slice none 0 0, .slice none 0 0], .agg #[.int .i64 (x : Int), .int .i64 (p : Int)]]) ∧ Below w.heap.size w w'
/-- a text that is being read -/
structure TxS (w w' : World) (b g c : Nat) (T : List Tok) (k : Nat) (ds : List De) (rs : List Ru) : Prop where
  below : Below w.heap.size w w'
  rr : Rr w' b g c T k
  hf : w'.heap[w.heap.size + 1]? = some (.cells #[.int .i64 0, .int .i64 0] 26 (0, 0))
  row : ∃ vd vr bd br, w'.heap[w.heap.size]? = some (.cells #[vd, vr] 39 (0, 0)) ∧ Lies w' (b + 1) (.row 45 4 ds.length (desD ds)) vd bd ∧ Lies w' (b + 1) (.row 48 4 rs.length (rusD rs)) vr br ∧ (bd ++ br).Nodup
  hb : w.heap.size + 1 < b
  hg : w.heap.size + 1 < g
  gb : g < b
variable {w w' w2 w3 wa : World} {b g c k k' : Nat} {T : List Tok} {ds ds' : List De} {rs rs' : List Ru}
theorem TxS.new (h : TxS w w' b g c T k ds rs) (hb : Below w'.heap.size w' w2) : TxS w w2 b g c T k ds rs := by
  obtain ⟨vd, vr, bd, br, hH, hd, hr, hnd⟩ := h.row
  have hs := h.below.size
  exact ⟨h.below.trans (hb.mono hs), h.rr.new hb, (hb.block _ (Array.getElem?_eq_some_iff.1 h.hf).1).trans h.hf, ⟨vd, vr, bd, br, (hb.block _ (Array.getElem?_eq_some_iff.1 hH).1).trans hH, hd.new hb, hr.new hb, hnd⟩, h.hb, h.hg, h.gb⟩
theorem TxS.go (h : TxS w w' b g c T k ds rs) (hg : w'.grownBy w2 (some b)) (hR : Rr w2 b g c T k') : TxS w w2 b g c T k' ds rs := by
  obtain ⟨vd, vr, bd, br, hH, hd, hr, hnd⟩ := h.row
  have h0 := h.hb
  have hs := h.below.size
  exact ⟨h.below.grown hg hs (fun j hj => by have : b = j := Option.some.inj hj; omega), hR, (hg.block _ (Array.getElem?_eq_some_iff.1 h.hf).1 (by simp; omega)).trans h.hf, ⟨vd, vr, bd, br, (hg.block _ (Array.getElem?_eq_some_iff.1 hH).1 (by simp; omega)).trans hH, Lies.kept hg hd (fun j hj e => by have := (Lies.lt hd j hj).1; have : j = b := Option.some.inj e; omega), Lies.kept hg hr (fun j hj e => by have := (Lies.lt hr j hj).1; have : j = b := Option.some.inj e; omega), hnd⟩, h.hb, h.hg, h.gb⟩
/-- a declaration more -/
theorem TxS.moreD {vd vr v : Value} {bd br bk' : List Nat} {r : Option Nat} (h : TxS w w2 b g c T k ds rs) (hH : w2.heap[w.heap.size]? = some (.cells #[vd, vr] 39 (0, 0))) (hd : Lies w2 (b + 1) (.row 45 4 ds.length (desD ds)) vd bd) (hr : Lies w2 (b + 1) (.row 48 4 rs.length (rusD rs)) vr br) (hnd : (bd ++ br).Nodup)
    (hg1 : w2.grownBy w3 (some b)) (hR : Rr w3 b g c T k') (hgr : w3.grownBy wa r) (hrb : ∀ j, r = some j → j ∈ bd) (hL' : Lies (wa.setCell ⟨w.heap.size, 0, none⟩ v) (b + 1) (.row 45 4 ds'.length (desD ds')) v bk') (hnd' : bk'.Nodup) (hbk : ∀ x ∈ bk', x ∈ bd ∨ w2.heap.size ≤ x) :
    TxS w (wa.setCell ⟨w.heap.size, 0, none⟩ v) b g c T k' ds' rs := by
  have h0 := h.hb
  have h1 := h.gb
  have h2 := h.hg
  have hs := h.below.size
  have hs3 := hg1.size
  have hsa := hgr.size
  have hset := Heap.grown_set wa ⟨w.heap.size, 0, none⟩ v
  have hr0 : ∀ j, j < b + 1 → some j ≠ r := fun j hj e => by have := (Lies.lt hd j (hrb j e.symm)).1; omega
  have hHl := (Array.getElem?_eq_some_iff.1 hH).1
  have hFl := (Array.getElem?_eq_some_iff.1 h.hf).1
  have hHa : wa.heap[w.heap.size]? = some (.cells #[vd, vr] 39 (0, 0)) := (hgr.block _ (by omega) (hr0 _ (by omega))).trans ((hg1.block _ hHl (by simp; omega)).trans hH)
  have hbel : Below w.heap.size w wa := (h.below.grown hg1 hs (fun j hj => by have : b = j := Option.some.inj hj; omega)).grown hgr (by omega) (fun j hj => by have := (Lies.lt hd j (hrb j hj)).1; omega)
  have hlr := Lies.lt hr
  have hrow2 := Lies.kept hg1 hr (fun j hj e => by have := (hlr j hj).1; have : j = b := Option.some.inj e; omega)
  have hrow3 := Lies.kept hgr hrow2 (fun j hj e => (List.nodup_append.1 hnd).2.2 j (hrb j e.symm) j hj rfl)
  have hrow4 := Lies.kept hset hrow3 (fun j hj e => by have := (hlr j hj).1; have : j = w.heap.size := Option.some.inj e; omega)
  refine ⟨hbel.setCell (by simp) v, (hR.grown hgr (hr0 _ (by omega)) (hr0 _ (by omega))).grown hset (by simp; omega) (by simp; omega), (hset.block _ (by omega) (by simp)).trans ((hgr.block _ (by omega) (hr0 _ (by omega))).trans ((hg1.block _ hFl (by simp; omega)).trans h.hf)), ⟨v, vr, bk', br, heap_setCell_same _ _ 0 _ _ _ hHa, hL', hrow4, List.nodup_append.2 ⟨hnd', (List.nodup_append.1 hnd).2.1, fun x hx y hy e => ?_⟩⟩, h0, h2, h1⟩
  subst e
  rcases hbk x hx with h | h
  · exact (List.nodup_append.1 hnd).2.2 x h x hy rfl
  · have := (hlr x hy).2; omega
/-- a rule more -/
theorem TxS.moreR {vd vr v : Value} {bd br bk' : List Nat} {r : Option Nat} (h : TxS w w2 b g c T k ds rs) (hH : w2.heap[w.heap.size]? = some (.cells #[vd, vr] 39 (0, 0))) (hd : Lies w2 (b + 1) (.row 45 4 ds.length (desD ds)) vd bd) (hr : Lies w2 (b + 1) (.row 48 4 rs.length (rusD rs)) vr br) (hnd : (bd ++ br).Nodup)
    (hg1 : w2.grownBy w3 (some b)) (hR : Rr w3 b g c T k') (hgr : w3.grownBy wa r) (hrb : ∀ j, r = some j → j ∈ br) (hL' : Lies (wa.setCell ⟨w.heap.size, 1, none⟩ v) (b + 1) (.row 48 4 rs'.length (rusD rs')) v bk') (hnd' : bk'.Nodup) (hbk : ∀ x ∈ bk', x ∈ br ∨ w2.heap.size ≤ x) :
    TxS w (wa.setCell ⟨w.heap.size, 1, none⟩ v) b g c T k' ds rs' := by
  have h0 := h.hb
  have h1 := h.gb
  have h2 := h.hg
  have hs := h.below.size
  have hs3 := hg1.size
  have hsa := hgr.size
  have hset := Heap.grown_set wa ⟨w.heap.size, 1, none⟩ v
  have hr0 : ∀ j, j < b + 1 → some j ≠ r := fun j hj e => by have := (Lies.lt hr j (hrb j e.symm)).1; omega
  have hHl := (Array.getElem?_eq_some_iff.1 hH).1
  have hFl := (Array.getElem?_eq_some_iff.1 h.hf).1
  have hHa : wa.heap[w.heap.size]? = some (.cells #[vd, vr] 39 (0, 0)) := (hgr.block _ (by omega) (hr0 _ (by omega))).trans ((hg1.block _ hHl (by simp; omega)).trans hH)
  have hbel : Below w.heap.size w wa := (h.below.grown hg1 hs (fun j hj => by have : b = j := Option.some.inj hj; omega)).grown hgr (by omega) (fun j hj => by have := (Lies.lt hr j (hrb j hj)).1; omega)
  have hld := Lies.lt hd
  have hrow2 := Lies.kept hg1 hd (fun j hj e => by have := (hld j hj).1; have : j = b := Option.some.inj e; omega)
  have hrow3 := Lies.kept hgr hrow2 (fun j hj e => (List.nodup_append.1 hnd).2.2 j hj j (hrb j e.symm) rfl)
  have hrow4 := Lies.kept hset hrow3 (fun j hj e => by have := (hld j hj).1; have : j = w.heap.size := Option.some.inj e; omega)
  refine ⟨hbel.setCell (by simp) v, (hR.grown hgr (hr0 _ (by omega)) (hr0 _ (by omega))).grown hset (by simp; omega) (by simp; omega), (hset.block _ (by omega) (by simp)).trans ((hgr.block _ (by omega) (hr0 _ (by omega))).trans ((hg1.block _ hFl (by simp; omega)).trans h.hf)), ⟨vd, v, bd, bk', heap_setCell_same _ _ 1 _ _ _ hHa, hrow4, hL', List.nodup_append.2 ⟨(List.nodup_append.1 hnd).1, hnd', fun x hx y hy e => ?_⟩⟩, h0, h2, h1⟩
  subst e
  rcases hbk x hy with h | h
  · exact (List.nodup_append.1 hnd).2.2 x hx x h rfl
  · have := (hld x hx).2; omega

theorem res_text {w : World} {H : Nat} {v0 v1 f0 f1 : Value} {tmps : Array Value} (hH : w.heap[H]? = some (.cells #[v0, v1] 39 (0, 0))) (hF : w.heap[H + 1]? = some (.cells #[f0, f1] 26 (0, 0)))
    (h2 : tmps[2]?.getD undef = .pointer (some ⟨H, 0, none⟩)) (h3 : tmps[3]?.getD undef = .pointer (some ⟨H + 1, 0, none⟩)) : (results Try.f14 tmps).run Try.prog w = .ok (.tuple #[.agg #[v0, v1], .agg #[f0, f1]]) w := by
  obtain ⟨a0, a1, _⟩ := cells2 hH
  obtain ⟨b0, b1, _⟩ := cells2 hF
  simp [results, Try.results14, go_sem, h2, h3, a0, a1, b0, b1]

/-! what hangs on the frame when a fault comes -/
theorem leaves_same {P : Program} {fn : Func} {t1 t2 : Array Value} {R : Ending → World → Prop} (h : results fn t1 = results fn t2) : ∀ (ds : List Deferred) (u : FrameMode) (w : World), Leaves P fn t1 R ds u w → Leaves P fn t2 R ds u w
  | [], .returning, w, hl => by unfold Leaves at hl ⊢; rw [← h]; exact hl
  | [], .panicking _, w, hl => by unfold Leaves at hl ⊢; exact hl
  | [], .run, w, hl => by unfold Leaves at hl; exact hl.elim
  | d :: ds, u, w, hl => by
    unfold Leaves at hl ⊢
    obtain ⟨h1, fv, cap, f, args, h2, h3, h4⟩ := hl
    refine ⟨h1, fv, cap, f, args, h2, h3, CallsD.mono h4 fun e u' w' he => ?_⟩
    cases e with
    | returned v => exact leaves_same h ds _ _ he
    | panicked ch => exact leaves_same h ds _ _ he
    | outgrown => exact he
theorem Loose.less {D D' : Option Tmp → Prop} {Q : Exit → Act → World → Prop} (h : Loose D Q) (hd : ∀ d, D' d → D d) : Loose D' Q := fun c a d v w hd' hq => h c a d v w (hd d hd') hq
theorem loose_text {R : Ending → World → Prop} : Loose (fun d => d ≠ some 2 ∧ d ≠ some 3) (bodyPostD Try.prog Try.f14 R) := by
  intro c a d v w hd h
  cases d with
  | none => exact h
  | some i =>
    have h2 : i ≠ 2 := fun e => hd.1 (by rw [e])
    have h3 : i ≠ 3 := fun e => hd.2 (by rw [e])
    refine leaves_same ?_ _ _ _ (show Leaves Try.prog Try.f14 (a.tmps.setIfInBounds i v) R a.defers (.panicking c) w from h)
    simp [results, Try.results14, Array.getElem?_setIfInBounds, h2, h3]

/-! the closure -/
theorem catch_idle (p q : Addr) (w : World) :
    CallsD Try.prog 34 #[.pointer (some p), .pointer (some q)] .returning w fun e u' w' => e = .returned (.tuple #[]) ∧ u' = .returning ∧ w' = w := by
  refine callsD_of_wpS Try.func34 rfl fun c₀ cs hu => ?_
  apply wpS_seq
  apply wpS_region
  simp [wpOpsS, go_sem, recoverD, hu, Try.ntmps34, Exit.thenS]
  refine wpS_of_wp ?_
  simp only [Array.replicate_succ, Array.replicate_zero, List.push_toArray, List.append_toArray, List.nil_append, List.cons_append, List.setIfInBounds_toArray, List.set_cons_succ, List.set_cons_zero]
  go_wp2
  cases c₀
  simp_all [bodyPostS, results, Try.results34]

set_option maxRecDepth 100000 in
set_option maxHeartbeats 1000000 in
/-- a fault that was thrown is caught: p: the fault's block, q: the text's -/
theorem catch_thrown {p q B : Nat} {x y : Int} {t0 t1 f0 f1 : Value} {w : World} (hp : w.heap[p]? = some (.cells #[f0, f1] 26 (0, 0))) (hq : w.heap[q]? = some (.cells #[t0, t1] 39 (0, 0)))
    (hpq : p ≠ q) (hBp : B ≤ p) (hBq : B ≤ q) :
    CallsD Try.prog 34 #[.pointer (some ⟨p, 0, none⟩), .pointer (some ⟨q, 0, none⟩)] (.panicking (thrownF x y)) w fun e u' w' =>
      e = .returned (.tuple #[]) ∧ u' = .panicking [{ v := .iface 26 (.agg #[.int .i64 x, .int .i64 y]), recovered := true }] ∧
        w'.heap[q]? = some (.cells #[.slice none 0 0, .slice none 0 0] 39 (0, 0)) ∧ w'.heap[p]? = some (.cells #[.int .i64 x, .int .i64 y] 26 (0, 0)) ∧ Below B w w' := by
  have hpl := (Array.getElem?_eq_some_iff.1 hp).1
  have hql := (Array.getElem?_eq_some_iff.1 hq).1
  obtain ⟨p1, p2, p3, p4⟩ := cells2 hp; obtain ⟨q1, q2, q3, q4⟩ := cells2 hq
  have HP := Lib.hid hp; have HQ := Lib.hid hq; clear hp hq
  have hqp : q ≠ p := fun e => hpq e.symm
  refine callsD_of_wpS Try.func34 rfl fun c₀ cs hu => ?_
  apply wpS_seq
  apply wpS_region
  unfold thrownF at hu
  simp [wpOpsS, go_sem, recoverD, hu, Try.ntmps34, Exit.thenS]
  refine wpS_of_wp ?_
  simp only [Array.replicate_succ, Array.replicate_zero, List.push_toArray, List.append_toArray, List.nil_append, List.cons_append, List.setIfInBounds_toArray, List.set_cons_succ, List.set_cons_zero]
  have HU := Lib.hid hu; clear hu
  have hta : ∀ w, (Instr.typeAssert (.iface 26 (.agg #[.int .i64 x, .int .i64 y])) 20 26 true).run Try.prog w = .ok (.tuple #[.agg #[.int .i64 x, .int .i64 y], .bool true]) w := fun w => by kernel_rfl
  go_wp2
  have hW := ((((Below.refl B w).setCell (p := ⟨p, 0, none⟩) hBp (.int .i64 x)).setCell (p := ⟨p, 1, none⟩) hBp (.int .i64 y)).setCell (p := ⟨q, 0, none⟩) hBq (.slice none 0 0)).setCell (p := ⟨q, 1, none⟩) hBq (.slice none 0 0)
  have k1 := heap_setCell_same _ p 1 _ _ (.int .i64 y) (heap_setCell_same w p 0 _ _ (.int .i64 x) HP.out)
  have k2 : ((w.setCell ⟨p, 0, none⟩ (.int .i64 x)).setCell ⟨p, 1, none⟩ (.int .i64 y)).heap[q]? = some (.cells #[t0, t1] 39 (0, 0)) := ((Below.heap_setCell _ _ _ _ hqp).trans (Below.heap_setCell _ _ _ _ hqp)).trans HQ.out
  have k3 := heap_setCell_same _ q 1 _ _ (.slice none 0 0) (heap_setCell_same _ q 0 _ _ (.slice none 0 0) k2)
  have k4 := ((Below.heap_setCell _ ⟨q, 1, none⟩ (.slice none 0 0) p hpq).trans (Below.heap_setCell _ ⟨q, 0, none⟩ (.slice none 0 0) p hpq)).trans k1
  exact ⟨rfl, _, rfl, .tuple #[], by simp [results, Try.results34], rfl, rfl, k3, k4, hW⟩
end Go.Proofs.Ytelpkldlkpoioaa.ReadO
