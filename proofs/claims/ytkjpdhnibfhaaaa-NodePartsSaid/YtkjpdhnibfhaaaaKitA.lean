/- gristmillkit: how much a tree is; whether two are the same, places and all. -/
import Derived.Test.YtkjpdhnibfhaaaaNodeU
import Derived.Deep.Cut
namespace Go.Proofs.Ytkjpdhnibfhaaaa.KitA
open Go Go.RowKit Go.Proofs.Ytkjpdhnibfhaaaa.Nodey Go.Proofs.Ytkjpdhnibfhaaaa.NodeA Go.Proofs.Ytkjpdhnibfhaaaa.NodeB Go.Proofs.Ytkjpdhnibfhaaaa.NodeF Go.Proofs.Ytkjpdhnibfhaaaa.NodeI Go.Proofs.Ytkjpdhnibfhaaaa.NodeK Go.Proofs.Ytkjpdhnibfhaaaa.NodeS Go.Proofs.Ytkjpdhnibfhaaaa.NodeT Go.Proofs.Ytkjpdhnibfhaaaa.NodeU Go.Proofs.Ytkjpdhnibfhaaaa.Cut

mutual
def wtN : Nd → Nat
  | .mk _ t _ _ l => 1 + t.size / 8 + wtL l
def wtL : List Nd → Nat
  | [] => 0
  | x :: l => wtN x + wtL l
end
theorem wtL_snoc : ∀ (l : List Nd) (x : Nd), wtL (l ++ [x]) = wtL l + wtN x
  | [], x => by simp [wtL]
  | y :: l, x => by simp [wtL, wtL_snoc l x]; omega
theorem wtL_take : ∀ (l : List Nd) (k : Nat), wtL (l.take k) ≤ wtL l
  | [], k => by simp
  | y :: l, 0 => by simp [wtL]
  | y :: l, k + 1 => by
    have := wtL_take l k
    rw [List.take_succ_cons, wtL, wtL]; omega
theorem wtN_pos : ∀ x : Nd, 1 ≤ wtN x
  | .mk k t n a l => by rw [wtN]; omega
theorem len_wt : ∀ l : List Nd, l.length ≤ wtL l
  | [] => by simp
  | x :: l => by
    have := len_wt l; have := wtN_pos x
    rw [wtL, List.length_cons]; omega
mutual
/-- a tree's cells, however long its texts and rows -/
def BigAt (w : World) (g o : Nat) : Nd → Prop
  | .mk k t n a l => t.size ≤ 140737488351232 ∧ l.length ≤ 2199023255552 ∧ w.cell? ⟨g, o, none⟩ = some (.int .u8 (k : Int)) ∧ w.cell? ⟨g, o + 1, none⟩ = some (.string t) ∧ w.cell? ⟨g, o + 2, none⟩ = some (.int .i64 n) ∧ w.cell? ⟨g, o + 3, none⟩ = some (.int .i64 a) ∧
    ∃ p c, w.cell? ⟨g, o + 4, none⟩ = some (.slice p l.length c) ∧ l.length ≤ c ∧ (l = [] ∨ ∃ g' o', p = some ⟨g', o', none⟩ ∧ BigsAt w g' o' l)
def BigsAt (w : World) (g o : Nat) : List Nd → Prop
  | [] => True
  | x :: l => BigAt w g o x ∧ BigsAt w g (o + 5) l
end
def BigV (w : World) (p : Option Addr) (l : List Nd) : Prop := l = [] ∨ ∃ g o, p = some ⟨g, o, none⟩ ∧ BigsAt w g o l
mutual
theorem BigAt.below {w w' : World} (hb : Below w.heap.size w w') : ∀ (x : Nd) (g o : Nat), BigAt w g o x → BigAt w' g o x
  | .mk k t n a l, g, o, h => by
    rw [BigAt] at h ⊢
    obtain ⟨h1, h2, h3, h4, h5, h6, p, c, h7, h9, h8⟩ := h
    refine ⟨h1, h2, cell_on hb h3, cell_on hb h4, cell_on hb h5, cell_on hb h6, p, c, cell_on hb h7, h9, ?_⟩
    rcases h8 with h8 | ⟨g', o', e, h8⟩
    · exact Or.inl h8
    · exact Or.inr ⟨g', o', e, BigsAt.below hb l g' o' h8⟩
theorem BigsAt.below {w w' : World} (hb : Below w.heap.size w w') : ∀ (l : List Nd) (g o : Nat), BigsAt w g o l → BigsAt w' g o l
  | [], _, _, _ => by rw [BigsAt]; trivial
  | x :: l, g, o, h => by
    rw [BigsAt] at h ⊢
    exact ⟨BigAt.below hb x g o h.1, BigsAt.below hb l g (o + 5) h.2⟩
end
mutual
/-- what weighs little is small -/
theorem BigAt.small {w : World} : ∀ (x : Nd) (g o : Nat), BigAt w g o x → wtN x ≤ 40000 → NdAt w g o x
  | .mk k t n a l, g, o, h, hw => by
    rw [BigAt] at h
    rw [NdAt]
    rw [wtN] at hw
    have hl := len_wt l
    obtain ⟨h1, h2, h3, h4, h5, h6, p, c, h7, h9, h8⟩ := h
    refine ⟨by omega, by omega, h3, h4, h5, h6, p, c, h7, h9, ?_⟩
    rcases h8 with h8 | ⟨g', o', e, h8⟩
    · exact Or.inl h8
    · exact Or.inr ⟨g', o', e, BigsAt.small l g' o' h8 (by omega)⟩
theorem BigsAt.small {w : World} : ∀ (l : List Nd) (g o : Nat), BigsAt w g o l → wtL l ≤ 40000 → NdsAt w g o l
  | [], _, _, _, _ => by rw [NdsAt]; trivial
  | x :: l, g, o, h, hw => by
    rw [BigsAt] at h
    rw [NdsAt]
    rw [wtL] at hw
    exact ⟨BigAt.small x g o h.1 (by omega), BigsAt.small l g (o + 5) h.2 (by omega)⟩
end
theorem BigsAt.get {w : World} {g : Nat} : ∀ {l : List Nd} {o : Nat}, BigsAt w g o l → ∀ (j : Nat) (h : j < l.length), BigAt w g (o + j * 5) l[j]
  | [], _, _, j, h => absurd h (by simp)
  | x :: l, o, hn, j, h => by
    rw [BigsAt] at hn
    cases j with
    | zero => simpa using hn.1
    | succ j =>
      have := BigsAt.get hn.2 j (by simpa using h)
      rw [show o + (j + 1) * 5 = o + 5 + j * 5 by omega]
      simpa using this
structure Big (w : World) (p : Option Addr) (c : Nat) (x : Nd) : Prop where
  kids : BigV w p x.kids
  cap : x.kids.length ≤ c
  len : x.kids.length ≤ 2199023255552
  text : x.text.size ≤ 140737488351232
theorem Big.below {w w' : World} {p : Option Addr} {c : Nat} {x : Nd} (h : Big w p c x) (hb : Below w.heap.size w w') : Big w' p c x := by
  refine ⟨?_, h.cap, h.len, h.text⟩
  rcases h.kids with e | ⟨g, o, e, hn⟩
  · exact Or.inl e
  · exact Or.inr ⟨g, o, e, BigsAt.below hb _ _ _ hn⟩
theorem Big.ready {w : World} {p : Option Addr} {c : Nat} {x : Nd} (h : Big w p c x) (hw : wtN x ≤ 40000) : Ready w p c x := by
  obtain ⟨k, t, n, a, l⟩ := x
  rw [wtN] at hw
  have hl := len_wt l
  refine ⟨?_, h.cap, by show l.length ≤ 1000000; omega, by show t.size ≤ 1000000000; omega⟩
  rcases h.kids with e | ⟨g, o, e, hn⟩
  · exact Or.inl e
  · exact Or.inr ⟨g, o, e, BigsAt.small _ _ _ hn (by show wtL l ≤ 40000; omega)⟩
theorem big_kid {w : World} {p : Option Addr} {l : List Nd} (h : BigV w p l) (q : Nat) (hq : q < l.length) : ∃ g o p' c', p = some ⟨g, o, none⟩ ∧ Big w p' c' (l[q]'hq) ∧
    w.cell? ⟨g, o + q * 5, none⟩ = some (.int .u8 ((l[q]'hq).kind : Int)) ∧ w.cell? ⟨g, o + q * 5 + 1, none⟩ = some (.string (l[q]'hq).text) ∧ w.cell? ⟨g, o + q * 5 + 2, none⟩ = some (.int .i64 (l[q]'hq).num) ∧ w.cell? ⟨g, o + q * 5 + 3, none⟩ = some (.int .i64 (l[q]'hq).at_) ∧ w.cell? ⟨g, o + q * 5 + 4, none⟩ = some (.slice p' (l[q]'hq).kids.length c') := by
  have hne : l ≠ [] := fun e => by rw [e] at hq; simp at hq
  rcases h with h0 | ⟨g, o, rfl, hn⟩
  · exact absurd h0 hne
  have hg := BigsAt.get hn q hq
  generalize l[q]'hq = y at *
  obtain ⟨k, t, n, a, l'⟩ := y
  rw [BigAt] at hg
  obtain ⟨h1, h2, h3, h4, h5, h6, p', c', h7, h8, h9⟩ := hg
  exact ⟨g, o, p', c', rfl, ⟨h9, h8, h2, h1⟩, h3, h4, h5, h6, h7⟩
def ManyOK (x : Nd) : Prop := ∀ (p : Option Addr) (c most : Nat) (w : World), Big w p c x → most ≤ 40000 → Calls Try.prog 11 #[.agg (nodeC x p c), .int .i64 (most : Int)] w fun e w' => e = .returned (.int .i64 ((min (wtN x) (most + 1) : Nat) : Int)) ∧ Below w.heap.size w w'
set_option maxRecDepth 100000 in
set_option maxHeartbeats 4000000 in
theorem many_step {k : Nat} {t : ByteArray} {n a : Int} {l : List Nd} (ih : ∀ y ∈ l, ManyOK y) : ManyOK (.mk k t n a l) := by
  intro p c most w hr hmost
  have hlen : l.length ≤ 2199023255552 := hr.len
  have htx : t.size ≤ 140737488351232 := hr.text
  have hwt : wtN (.mk k t n a l) = 1 + t.size / 8 + wtL l := by rw [wtN]
  rw [hwt]
  show Calls Try.prog 11 #[.agg #[.int .u8 (k : Int), .string t, .int .i64 n, .int .i64 a, .slice p l.length c], .int .i64 (most : Int)] w _
  have HR := Lib.hid (show BigV w p l from hr.kids); have HIH := Lib.hid ih; clear hr ih hwt
  generalize hnk : l.length = nk at *
  have HNK := Lib.hid hnk; clear hnk
  have hbx := Box5.new (w := w) (v0 := .int .u8 (k : Int)) (v1 := .string t) (v2 := .int .i64 n) (v3 := .int .i64 a) (v4 := .slice p nk c) (T := 25)
  have HB := Lib.hid ((Below.refl w.heap.size w).alloc (Nat.le_refl _) (.cells #[.int .u8 (k : Int), .string t, .int .i64 n, .int .i64 a, .slice p nk c] 25))
  have hdv : ((t.size : Int).tdiv 8) = ((t.size / 8 : Nat) : Int) := by rw [Int.tdiv_eq_ediv_of_nonneg (by omega)]; omega
  have hz : (1 : Int) + ((t.size / 8 : Nat) : Int) = ((1 + t.size / 8 : Nat) : Int) := by omega
  have hzl : ((t.size / 8 : Nat) : Int) ≤ 140737488351232 := by omega
  go_enter Try.func11, Try.ntmps11
  go_wp2_with fail
  generalize w.alloc (.cells #[.int .u8 (k : Int), .string t, .int .i64 n, .int .i64 a, .slice p nk c] 25) = w0 at *
  have HBX := Lib.hid hbx; clear hbx
  go_loopg [5, 6] nk (fun gk cv i wr => ∃ q cc : Nat, q ≤ nk ∧ gk = nk - q ∧ i = .int .i64 (q : Int) ∧ cv = .int .i64 (cc : Int) ∧ cc ≤ 140737488355328 ∧ min cc (most + 1) = min (1 + t.size / 8 + wtL (l.take q)) (most + 1) ∧ Below w.heap.size w wr ∧ Below w0.heap.size w0 wr)
  case atStart => exact ⟨0, 1 + t.size / 8, by omega, by omega, rfl, congrArg (Value.int .i64) (by omega), by omega, by simp [wtL], HB.out, Below.refl _ _⟩
  case round =>
    obtain ⟨q, cc, hq, rfl, rfl, rfl, hcc, hmin, hbw, hb0⟩ := hrel
    have HMIN := Lib.hid hmin; have HBW := Lib.hid hbw; have HB0 := Lib.hid hb0; clear hmin hbw hb0
    obtain ⟨k0, k1, k2, k3, k4⟩ := HBX.out.below HB0.out
    by_cases hlt : q < nk
    · have j0 : (0 : Int) ≤ (q : Int) := by omega
      have j1 : (q : Int) < (nk : Int) := by omega
      by_cases hle : cc ≤ most
      · have hle2 : (cc : Int) ≤ (most : Int) := by omega
        have hql : q < l.length := by have := HNK.out; omega
        obtain ⟨g, o, p', c', hp, hkr, d0, d1, d2, d3, d4⟩ := big_kid HR.out q hql
        subst hp
        have hmem : l[q]'hql ∈ l := List.getElem_mem hql
        have HST := Lib.hid (show wtL (l.take (q + 1)) = wtL (l.take q) + wtN (l[q]'hql) by rw [List.take_succ_eq_append_getElem hql, wtL_snoc])
        have hy := fun u hu => HIH.out _ hmem p' c' (most - cc) u hu (by omega)
        rw [show ((most - cc : Nat) : Int) = (most : Int) - (cc : Int) by omega] at hy
        generalize hwy : wtN (l[q]'hql) = wy at *
        clear hmem hwy
        generalize l[q]'hql = y at *
        have HKR := Lib.hid hkr; clear hkr
        unfold nodeC at hy
        generalize hrr : min wy (most - cc + 1) = rr at *
        have HRR := Lib.hid hrr; clear hrr
        generalize y.kids.length = yn at *
        generalize y.kind = y0 at *
        generalize y.text = y1 at *
        generalize y.num = y2 at *
        generalize y.at_ = y3 at *
        have HY := Lib.hid hy; clear hy
        have m0 := cell_on HBW.out d0; have m1 := cell_on HBW.out d1; have m2 := cell_on HBW.out d2; have m3 := cell_on HBW.out d3; have m4 := cell_on HBW.out d4
        clear d0 d1 d2 d3 d4
        have hrl : (rr : Int) ≤ 40001 := by have := HRR.out; omega
        have hr0 : (0 : Int) ≤ (rr : Int) := by omega
        go_wp2_with (go_at_call 11; go_must (refine (HY.out _ (HKR.out.below HBW.out)).mono ?_; rintro e w2 ⟨rfl, hb⟩; have HB2 := Lib.hid (HBW.out.trans (hb.mono HBW.out.size)); have HB02 := Lib.hid (HB0.out.trans (hb.mono HB0.out.size)); clear hb))
        go_roundg (nk - (q + 1))
        case measure => omega
        case rel => exact ⟨q + 1, cc + rr, by omega, rfl, by go_num, congrArg (Value.int .i64) (by omega), by omega, by have := HRR.out; have := HMIN.out; rw [HST.out]; omega, HB2.out, HB02.out⟩
      · have hle2 : ¬ (cc : Int) ≤ (most : Int) := by omega
        go_wp2
        go_ret
        refine ⟨?_, HBW.out⟩
        have h1 := HMIN.out
        have h2 := wtL_take l q
        have h3 : min (cc : Int) ((most : Int) + 1) = ((min (1 + t.size / 8 + wtL l) (most + 1) : Nat) : Int) := by omega
        exact congrArg (fun z => Ending.returned (Value.int .i64 z)) h3
    · obtain rfl : q = nk := by omega
      go_wp2
      go_ret
      refine ⟨?_, HBW.out⟩
      have h1 := HMIN.out
      rw [List.take_of_length_le (by have := HNK.out; omega)] at h1
      have h3 : min (cc : Int) ((most : Int) + 1) = ((min (1 + t.size / 8 + wtL l) (most + 1) : Nat) : Int) := by omega
      exact congrArg (fun z => Ending.returned (Value.int .i64 z)) h3
theorem many_any : ∀ x : Nd, ManyOK x
  | .mk k t n a l => many_step fun y _hy => many_any y
  termination_by x => SizeOf.sizeOf x
  decreasing_by have := List.sizeOf_lt_of_mem _hy; simp; omega
end Go.Proofs.Ytkjpdhnibfhaaaa.KitA
