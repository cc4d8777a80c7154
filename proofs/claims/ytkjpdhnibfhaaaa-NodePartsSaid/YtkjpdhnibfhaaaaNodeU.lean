/- node.Deep, node.Same, walked. -/
import Derived.Test.YtkjpdhnibfhaaaaNodeT
import Derived.Deep.Cut
namespace Go.Proofs.Ytkjpdhnibfhaaaa.NodeU
open Go.RowKit Go.Proofs.Ytkjpdhnibfhaaaa.Nodey Go.Proofs.Ytkjpdhnibfhaaaa.NodeA Go.Proofs.Ytkjpdhnibfhaaaa.NodeB Go.Proofs.Ytkjpdhnibfhaaaa.NodeF Go.Proofs.Ytkjpdhnibfhaaaa.NodeI Go.Proofs.Ytkjpdhnibfhaaaa.NodeK Go.Proofs.Ytkjpdhnibfhaaaa.NodeS Go.Proofs.Ytkjpdhnibfhaaaa.NodeT Go.Proofs.Ytkjpdhnibfhaaaa.Cut

theorem deepL_snoc : ∀ (l : List Nd) (x : Nd), deepL (l ++ [x]) = max (deepL l) (deepN x)
  | [], x => by simp [deepL]
  | y :: l, x => by simp [deepL, deepL_snoc l x, Nat.max_assoc]
theorem deepN_mem {x : Nd} : ∀ {l : List Nd}, x ∈ l → deepN x ≤ deepL l
  | [], h => by cases h
  | y :: l, h => by
    rw [deepL]
    rcases List.mem_cons.1 h with rfl | h
    · omega
    · have := deepN_mem h; omega
theorem deepL_take : ∀ (l : List Nd) (k : Nat), deepL (l.take k) ≤ deepL l
  | [], k => by simp
  | y :: l, 0 => by simp [deepL]
  | y :: l, k + 1 => by
    have := deepL_take l k
    rw [List.take_succ_cons, deepL, deepL]; omega
/-- a kid's cells, out of the row -/
theorem ready_kid {w : World} {p : Option Addr} {c : Nat} {k : Nat} {t : ByteArray} {n a : Int} {l : List Nd} (h : Ready w p c (.mk k t n a l)) (q : Nat) (hq : q < l.length) : ∃ g o p' c', p = some ⟨g, o, none⟩ ∧ Ready w p' c' (l[q]'hq) ∧
    w.cell? ⟨g, o + q * 5, none⟩ = some (.int .u8 ((l[q]'hq).kind : Int)) ∧ w.cell? ⟨g, o + q * 5 + 1, none⟩ = some (.string (l[q]'hq).text) ∧ w.cell? ⟨g, o + q * 5 + 2, none⟩ = some (.int .i64 (l[q]'hq).num) ∧ w.cell? ⟨g, o + q * 5 + 3, none⟩ = some (.int .i64 (l[q]'hq).at_) ∧ w.cell? ⟨g, o + q * 5 + 4, none⟩ = some (.slice p' (l[q]'hq).kids.length c') := by
  have hk : KidsV w p l := h.kids
  have hne : l ≠ [] := fun e => by rw [e] at hq; simp at hq
  rcases hk with h0 | ⟨g, o, rfl, hn⟩
  · exact absurd h0 hne
  obtain ⟨p', c', e1, e2, e3, e4, d0, d1, d2, d3, d4⟩ := NdAt.parts (NdsAt.get hn q hq)
  exact ⟨g, o, p', c', rfl, ⟨e4, e3, e2, e1⟩, d0, d1, d2, d3, d4⟩
/-- a node's box -/
structure Box5 (w : World) (H : Nat) (v0 v1 v2 v3 v4 : Value) : Prop where
  c0 : w.cell? ⟨H, 0, none⟩ = some v0
  c1 : w.cell? ⟨H, 1, none⟩ = some v1
  c2 : w.cell? ⟨H, 2, none⟩ = some v2
  c3 : w.cell? ⟨H, 3, none⟩ = some v3
  c4 : w.cell? ⟨H, 4, none⟩ = some v4
theorem Box5.new {w : World} {v0 v1 v2 v3 v4 : Value} {T : TypeId} : Box5 (w.alloc (.cells #[v0, v1, v2, v3, v4] T)) w.heap.size v0 v1 v2 v3 v4 := ⟨kernel_cell, kernel_cell, kernel_cell, kernel_cell, kernel_cell⟩
theorem Box5.below {w w' : World} {H : Nat} {v0 v1 v2 v3 v4 : Value} (h : Box5 w H v0 v1 v2 v3 v4) (hb : Below w.heap.size w w') : Box5 w' H v0 v1 v2 v3 v4 :=
  ⟨cell_on hb h.c0, cell_on hb h.c1, cell_on hb h.c2, cell_on hb h.c3, cell_on hb h.c4⟩
def DeepOK (x : Nd) : Prop := ∀ (p : Option Addr) (c : Nat) (w : World), Ready w p c x → deepN x ≤ 1000000000 → Calls Try.prog 9 #[.agg (nodeC x p c)] w fun e w' => e = .returned (.int .i64 (deepN x : Int)) ∧ Below w.heap.size w w'
set_option maxRecDepth 100000 in
set_option maxHeartbeats 4000000 in
theorem deep_step {k : Nat} {t : ByteArray} {n a : Int} {l : List Nd} (ih : ∀ y ∈ l, DeepOK y) : DeepOK (.mk k t n a l) := by
  intro p c w hr hdeep
  have hlen : l.length ≤ 1000000 := hr.len
  have hdd : deepN (.mk k t n a l) = 1 + deepL l := by rw [deepN]
  rw [hdd] at hdeep ⊢
  show Calls Try.prog 9 #[.agg #[.int .u8 (k : Int), .string t, .int .i64 n, .int .i64 a, .slice p l.length c]] w _
  have HR := Lib.hid hr; have HIH := Lib.hid ih; clear hr ih hdd
  generalize hnk : l.length = nk at *
  have HNK := Lib.hid hnk; clear hnk
  have hbx := Box5.new (w := w) (v0 := .int .u8 (k : Int)) (v1 := .string t) (v2 := .int .i64 n) (v3 := .int .i64 a) (v4 := .slice p nk c) (T := 25)
  have HB := Lib.hid ((Below.refl w.heap.size w).alloc (Nat.le_refl _) (.cells #[.int .u8 (k : Int), .string t, .int .i64 n, .int .i64 a, .slice p nk c] 25))
  have HDP := Lib.hid hdeep; clear hdeep
  go_enter Try.func9, Try.ntmps9
  go_wp2_with fail
  generalize w.alloc (.cells #[.int .u8 (k : Int), .string t, .int .i64 n, .int .i64 a, .slice p nk c] 25) = w0 at *
  have HBX := Lib.hid hbx; clear hbx
  go_loopg [3, 5, 9] nk (fun gk d _ i wr => ∃ q dd : Nat, q ≤ nk ∧ gk = nk - q ∧ i = .int .i64 (q : Int) ∧ d = .int .i64 (dd : Int) ∧ dd = deepL (l.take q) ∧ Below w.heap.size w wr)
  case atStart => exact ⟨0, 0, by omega, by omega, rfl, rfl, by simp [deepL], HB.out⟩
  case round =>
    obtain ⟨q, dd, hq, rfl, rfl, rfl, hdd, hbw⟩ := hrel
    have HDD := Lib.hid hdd; have HBW := Lib.hid hbw; clear hdd hbw
    have hddl : dd ≤ 1000000000 := by have := deepL_take l q; have := HDD.out; have := HDP.out; omega
    by_cases hlt : q < nk
    · have hql : q < l.length := by have := HNK.out; omega
      obtain ⟨g, o, p', c', hp, hkr, d0, d1, d2, d3, d4⟩ := ready_kid HR.out q hql
      subst hp
      have hmem : l[q]'hql ∈ l := List.getElem_mem hql
      have hst : deepL (l.take (q + 1)) = max (deepL (l.take q)) (deepN (l[q]'hql)) := by rw [List.take_succ_eq_append_getElem hql, deepL_snoc]
      have hdm := deepN_mem hmem
      have hy := fun u hu => HIH.out _ hmem p' c' u hu (by have := HDP.out; omega)
      have HST := Lib.hid hst; clear hst hmem
      generalize l[q]'hql = y at *
      have HKR := Lib.hid hkr; clear hkr
      have hyd : deepN y ≤ 1000000000 := by have := HDP.out; omega
      clear hdm
      have HDY := Lib.hid (rfl : deepN y = deepN y)
      unfold nodeC at hy
      generalize y.kids.length = yn at *
      generalize hym : deepN y = ym at *
      generalize y.kind = y0 at *
      generalize y.text = y1 at *
      generalize y.num = y2 at *
      generalize y.at_ = y3 at *
      have HY := Lib.hid hy; clear hy hym HDY
      have j0 : (0 : Int) ≤ (q : Int) := by omega
      have j1 : (q : Int) < (nk : Int) := by omega
      have m0 := cell_on HBW.out d0; have m1 := cell_on HBW.out d1; have m2 := cell_on HBW.out d2; have m3 := cell_on HBW.out d3; have m4 := cell_on HBW.out d4
      clear d0 d1 d2 d3 d4
      have hmx : (max (dd : Int) (ym : Int)) = ((max dd ym : Nat) : Int) := by omega
      go_wp2_with (go_at_call 9; go_must (refine (HY.out _ (HKR.out.below (HBW.out.alloc HBW.out.size _))).mono ?_; rintro e w2 ⟨rfl, hb⟩; have HB2 := Lib.hid ((HBW.out.alloc HBW.out.size _).trans (hb.mono (Below.size (HBW.out.alloc HBW.out.size _)))); clear hb))
      go_roundg (nk - (q + 1))
      case measure => omega
      case rel => exact ⟨q + 1, max dd ym, by omega, rfl, by go_num, by simp, by rw [HST.out, ← HDD.out], HB2.out⟩
    · obtain rfl : q = nk := by omega
      go_wp2
      go_ret
      refine ⟨?_, HBW.out⟩
      have := HDD.out
      rw [← HNK.out, List.take_length] at this
      rw [← this]
      exact congrArg (fun z => Ending.returned (.int .i64 z)) (by omega)
theorem deep_any : ∀ x : Nd, DeepOK x
  | .mk k t n a l => deep_step fun y _hy => deep_any y
  termination_by x => SizeOf.sizeOf x
  decreasing_by have := List.sizeOf_lt_of_mem _hy; simp; omega
def SameOK (x : Nd) : Prop := ∀ (y : Nd) (p : Option Addr) (c : Nat) (p2 : Option Addr) (c2 : Nat) (w : World), Ready w p c x → Ready w p2 c2 y → Calls Try.prog 13 #[.agg (nodeC x p c), .agg (nodeC y p2 c2)] w fun e w' => e = .returned (.bool (sameN x y)) ∧ Below w.heap.size w w'
theorem sameL_drop {l l2 : List Nd} (q : Nat) (h1 : q < l.length) (h2 : q < l2.length) : sameL (l.drop q) (l2.drop q) = (sameN (l[q]'h1) (l2[q]'h2) && sameL (l.drop (q + 1)) (l2.drop (q + 1))) := by
  rw [List.drop_eq_getElem_cons h1, List.drop_eq_getElem_cons h2, sameL]
theorem sameL_len : ∀ {l l2 : List Nd}, l.length ≠ l2.length → sameL l l2 = false
  | [], [], h => absurd rfl h
  | [], _ :: _, _ => rfl
  | _ :: _, [], _ => rfl
  | x :: l, y :: l2, h => by rw [sameL, sameL_len (l := l) (l2 := l2) (by simpa using h)]; simp
/-- the kids of a node, however it is -/
def Kids (w : World) (p : Option Addr) (l : List Nd) : Prop := KidsV w p l ∧ l.length ≤ 1000000
theorem kids_kid {w : World} {p : Option Addr} {l : List Nd} (h : KidsV w p l) (q : Nat) (hq : q < l.length) : ∃ g o p' c', p = some ⟨g, o, none⟩ ∧ Ready w p' c' (l[q]'hq) ∧
    w.cell? ⟨g, o + q * 5, none⟩ = some (.int .u8 ((l[q]'hq).kind : Int)) ∧ w.cell? ⟨g, o + q * 5 + 1, none⟩ = some (.string (l[q]'hq).text) ∧ w.cell? ⟨g, o + q * 5 + 2, none⟩ = some (.int .i64 (l[q]'hq).num) ∧ w.cell? ⟨g, o + q * 5 + 3, none⟩ = some (.int .i64 (l[q]'hq).at_) ∧ w.cell? ⟨g, o + q * 5 + 4, none⟩ = some (.slice p' (l[q]'hq).kids.length c') := by
  have hne : l ≠ [] := fun e => by rw [e] at hq; simp at hq
  rcases h with h0 | ⟨g, o, rfl, hn⟩
  · exact absurd h0 hne
  obtain ⟨p', c', e1, e2, e3, e4, d0, d1, d2, d3, d4⟩ := NdAt.parts (NdsAt.get hn q hq)
  exact ⟨g, o, p', c', rfl, ⟨e4, e3, e2, e1⟩, d0, d1, d2, d3, d4⟩
set_option maxRecDepth 100000 in
set_option maxHeartbeats 4000000 in
theorem equal_any {l l2 : List Nd} {p p2 : Option Addr} {c c2 : Nat} {w : World} (ih : ∀ y ∈ l, SameOK y) (h1 : KidsV w p l) (h2 : KidsV w p2 l2) (hl : l.length ≤ 1000000) :
    Calls Try.prog 27 #[.slice p l.length c, .slice p2 l2.length c2, .func (.func 13) #[] #[]] w fun e w' => e = .returned (.bool (sameL l l2)) ∧ Below w.heap.size w w' := by
  by_cases he : l.length = l2.length
  · have HE := Lib.hid he
    have H1 := Lib.hid h1; have H2 := Lib.hid h2; have HIH := Lib.hid ih; clear h1 h2 ih
    rw [← he]
    generalize hnk : l.length = nk at *
    have HNK := Lib.hid hnk; clear hnk he
    go_enter Try.func27, Try.ntmps27
    go_wp2_with fail
    go_loopg [7, 8, 9, 17] nk (fun gk _ _ _ i wr => ∃ q : Nat, q ≤ nk ∧ gk = nk - q ∧ i = .int .i64 (q : Int) ∧ sameL l l2 = sameL (l.drop q) (l2.drop q) ∧ Below w.heap.size w wr)
    case atStart => exact ⟨0, by omega, by omega, rfl, by simp, Below.refl _ _⟩
    case round =>
      obtain ⟨q, hq, rfl, rfl, hab, hbw⟩ := hrel
      have HAB := Lib.hid hab; have HBW := Lib.hid hbw; clear hab hbw
      by_cases hlt : q < nk
      · have hql : q < l.length := by have := HNK.out; omega
        have hql2 : q < l2.length := by have := HNK.out; have := HE.out; omega
        obtain ⟨g, o, p', c', hp, hkr, d0, d1, d2, d3, d4⟩ := kids_kid H1.out q hql
        obtain ⟨g2, o2, p2', c2', hp2, hkr2, f0, f1, f2, f3, f4⟩ := kids_kid H2.out q hql2
        subst hp hp2
        have hmem : l[q]'hql ∈ l := List.getElem_mem hql
        have HST := Lib.hid (sameL_drop q hql hql2)
        have hy := fun u hu hu2 => HIH.out _ hmem (l2[q]'hql2) p' c' p2' c2' u hu hu2
        clear hmem
        generalize l[q]'hql = y at *
        generalize l2[q]'hql2 = z at *
        have HKR := Lib.hid hkr; have HKR2 := Lib.hid hkr2; clear hkr hkr2
        unfold nodeC at hy
        generalize y.kids.length = yn at *
        generalize z.kids.length = zn at *
        generalize hsm : sameN y z = sm at *
        generalize y.kind = y0 at *
        generalize y.text = y1 at *
        generalize y.num = y2 at *
        generalize y.at_ = y3 at *
        generalize z.kind = z0 at *
        generalize z.text = z1 at *
        generalize z.num = z2 at *
        generalize z.at_ = z3 at *
        have HY := Lib.hid hy; clear hy hsm
        have j0 : (0 : Int) ≤ (q : Int) := by omega
        have j1 : (q : Int) < (nk : Int) := by omega
        have m0 := cell_on HBW.out d0; have m1 := cell_on HBW.out d1; have m2 := cell_on HBW.out d2; have m3 := cell_on HBW.out d3; have m4 := cell_on HBW.out d4
        have n0 := fun oo : Obj => cell_on (HBW.out.alloc HBW.out.size oo) f0
        have n1 := fun oo : Obj => cell_on (HBW.out.alloc HBW.out.size oo) f1
        have n2 := fun oo : Obj => cell_on (HBW.out.alloc HBW.out.size oo) f2
        have n3 := fun oo : Obj => cell_on (HBW.out.alloc HBW.out.size oo) f3
        have n4 := fun oo : Obj => cell_on (HBW.out.alloc HBW.out.size oo) f4
        have HAA := Lib.hid (fun o1 o2 : Obj => (HBW.out.alloc HBW.out.size o1).alloc (Below.size (HBW.out.alloc HBW.out.size o1)) o2)
        clear d0 d1 d2 d3 d4 f0 f1 f2 f3 f4
        cases sm
        all_goals
          go_wp2_with (go_at_call 13; go_must (refine (HY.out _ (HKR.out.below (HAA.out _ _)) (HKR2.out.below (HAA.out _ _))).mono ?_; rintro e w2 ⟨rfl, hb⟩; have HB2 := Lib.hid ((HAA.out _ _).trans (hb.mono (Below.size (HAA.out _ _)))); clear hb))
        · go_ret
          exact ⟨by rw [HAB.out, HST.out]; rfl, HB2.out⟩
        · go_roundg (nk - (q + 1))
          case measure => omega
          case rel => exact ⟨q + 1, by omega, rfl, by go_num, by rw [HAB.out, HST.out]; rfl, HB2.out⟩
      · obtain rfl : q = nk := by omega
        go_wp2
        go_ret
        exact ⟨by rw [HAB.out, List.drop_eq_nil_of_le (by have := HNK.out; omega), List.drop_eq_nil_of_le (by have := HNK.out; have := HE.out; omega)]; rfl, HBW.out⟩
  · have he2 : ((l.length : Int) != (l2.length : Int)) = true := by simp; omega
    rw [sameL_len he]
    generalize l.length = nk at *
    generalize l2.length = nk2 at *
    clear h1 h2 ih he
    go_enter Try.func27, Try.ntmps27
    go_wp2
    go_ret
    exact ⟨rfl, Below.refl _ _⟩
set_option maxRecDepth 100000 in
set_option maxHeartbeats 4000000 in
theorem same_step {k : Nat} {t : ByteArray} {n a : Int} {l : List Nd} (ih : ∀ y ∈ l, SameOK y) : SameOK (.mk k t n a l) := by
  intro y p c p2 c2 w hr hr2
  obtain ⟨k', t', n', a', l'⟩ := y
  have HS := Lib.hid (show sameN (.mk k t n a l) (.mk k' t' n' a' l') = (k == k' && t.data.toList == t'.data.toList && n == n' && sameL l l') by simp only [sameN])
  show Calls Try.prog 13 #[.agg #[.int .u8 (k : Int), .string t, .int .i64 n, .int .i64 a, .slice p l.length c], .agg #[.int .u8 (k' : Int), .string t', .int .i64 n', .int .i64 a', .slice p2 l'.length c2]] w _
  have HB := Lib.hid (((Below.refl w.heap.size w).alloc (Nat.le_refl _) (.cells #[.int .u8 (k : Int), .string t, .int .i64 n, .int .i64 a, .slice p l.length c] 25)).alloc (by simp) (.cells #[.int .u8 (k' : Int), .string t', .int .i64 n', .int .i64 a', .slice p2 l'.length c2] 25))
  have HEQ := Lib.hid (fun u hu => equal_any (l := l) (l2 := l') (c := c) (c2 := c2) (w := u) ih (KidsV.below hu hr.kids) (KidsV.below hu hr2.kids) hr.len)
  have hk : ((k : Int) == (k' : Int)) = (k == k') := by rw [Bool.eq_iff_iff]; simp; omega
  have ht : (t.toList == t'.toList) = (t.data.toList == t'.data.toList) := by rw [ByteArray.toList_eq, ByteArray.toList_eq]
  have HBN := Lib.hid (rfl : (n == n') = (n == n'))
  generalize sameN (.mk k t n a l) (.mk k' t' n' a' l') = res at *
  generalize (k == k') = bk at *
  generalize (t.data.toList == t'.data.toList) = bt at *
  generalize hbn : (n == n') = bn at *
  generalize sameL l l' = bl at *
  generalize l.length = nk at *
  generalize l'.length = nk' at *
  clear HBN hr hr2 ih
  have HA := Lib.hid ((Box5.new (w := w) (v0 := .int .u8 (k : Int)) (v1 := .string t) (v2 := .int .i64 n) (v3 := .int .i64 a) (v4 := .slice p nk c) (T := 25)).below ((Below.refl _ _).alloc (Nat.le_refl _) (.cells #[.int .u8 (k' : Int), .string t', .int .i64 n', .int .i64 a', .slice p2 nk' c2] 25)))
  have HA2 := Lib.hid (Box5.new (w := w.alloc (.cells #[.int .u8 (k : Int), .string t, .int .i64 n, .int .i64 a, .slice p nk c] 25)) (v0 := .int .u8 (k' : Int)) (v1 := .string t') (v2 := .int .i64 n') (v3 := .int .i64 a') (v4 := .slice p2 nk' c2) (T := 25))
  have hsz : (w.alloc (.cells #[.int .u8 (k : Int), .string t, .int .i64 n, .int .i64 a, .slice p nk c] 25)).heap.size = w.heap.size + 1 := by simp
  rw [hsz] at HA2
  have HT := Lib.hid ht; have HBN := Lib.hid hbn; have HKK := Lib.hid hk
  clear hsz ht hbn hk
  cases bk
  · go_enter Try.func13, Try.ntmps13
    go_upto_region 1 with fail
    generalize ((w.alloc (.cells #[.int .u8 (k : Int), .string t, .int .i64 n, .int .i64 a, .slice p nk c] 25)).alloc (.cells #[.int .u8 (k' : Int), .string t', .int .i64 n', .int .i64 a', .slice p2 nk' c2] 25)) = W at *
    obtain ⟨a0, a1, a2, a3, a4⟩ := HA.out
    obtain ⟨b0, b1, b2, b3, b4⟩ := HA2.out
    have hk := HKK.out
    go_wp2
    go_ret
    exact ⟨by rw [HS.out]; rfl, HB.out⟩
  cases bt
  · go_enter Try.func13, Try.ntmps13
    go_upto_region 1 with fail
    generalize ((w.alloc (.cells #[.int .u8 (k : Int), .string t, .int .i64 n, .int .i64 a, .slice p nk c] 25)).alloc (.cells #[.int .u8 (k' : Int), .string t', .int .i64 n', .int .i64 a', .slice p2 nk' c2] 25)) = W at *
    obtain ⟨a0, a1, a2, a3, a4⟩ := HA.out
    obtain ⟨b0, b1, b2, b3, b4⟩ := HA2.out
    have hk := HKK.out
    have ht := HT.out
    go_wp2
    go_ret
    exact ⟨by rw [HS.out]; rfl, HB.out⟩
  cases bn
  · go_enter Try.func13, Try.ntmps13
    go_upto_region 1 with fail
    generalize ((w.alloc (.cells #[.int .u8 (k : Int), .string t, .int .i64 n, .int .i64 a, .slice p nk c] 25)).alloc (.cells #[.int .u8 (k' : Int), .string t', .int .i64 n', .int .i64 a', .slice p2 nk' c2] 25)) = W at *
    obtain ⟨a0, a1, a2, a3, a4⟩ := HA.out
    obtain ⟨b0, b1, b2, b3, b4⟩ := HA2.out
    have hk := HKK.out
    have ht := HT.out
    have hbn := HBN.out
    go_wp2
    go_ret
    exact ⟨by rw [HS.out]; rfl, HB.out⟩
  go_enter Try.func13, Try.ntmps13
  go_upto_region 1 with fail
  generalize ((w.alloc (.cells #[.int .u8 (k : Int), .string t, .int .i64 n, .int .i64 a, .slice p nk c] 25)).alloc (.cells #[.int .u8 (k' : Int), .string t', .int .i64 n', .int .i64 a', .slice p2 nk' c2] 25)) = W at *
  obtain ⟨a0, a1, a2, a3, a4⟩ := HA.out
  obtain ⟨b0, b1, b2, b3, b4⟩ := HA2.out
  have hk := HKK.out
  have ht := HT.out
  have hbn := HBN.out
  go_wp2_with (go_at_call 27; go_must (refine (HEQ.out _ HB.out).mono ?_; rintro e w2 ⟨rfl, hb⟩; have HB2 := Lib.hid (HB.out.trans (hb.mono HB.out.size)); clear hb))
  go_ret
  exact ⟨by rw [HS.out]; rfl, HB2.out⟩
theorem same_any : ∀ x : Nd, SameOK x
  | .mk k t n a l => same_step fun y _hy => same_any y
  termination_by x => SizeOf.sizeOf x
  decreasing_by have := List.sizeOf_lt_of_mem _hy; simp; omega
end Go.Proofs.Ytkjpdhnibfhaaaa.NodeU
