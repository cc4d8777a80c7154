/- node's looks: what a tree in memory is; names, bare, label. -/
import Derived.Test.YtkjpdhnibfhaaaaNodeE
import Derived.Test.YtkjpdhnibfhaaaaCut
namespace Go.Proofs.Ytkjpdhnibfhaaaa.NodeF
open Go.RowKit Go.Proofs.Ytkjpdhnibfhaaaa.Nodey Go.Proofs.Ytkjpdhnibfhaaaa.NodeA Go.Proofs.Ytkjpdhnibfhaaaa.NodeB Go.Proofs.Ytkjpdhnibfhaaaa.NodeC Go.Proofs.Ytkjpdhnibfhaaaa.NodeD Go.Proofs.Ytkjpdhnibfhaaaa.NodeE Go.Proofs.Ytkjpdhnibfhaaaa.Cut

mutual
/-- a tree's cells, from a place on -/
def NdAt (w : World) (g o : Nat) : Nd → Prop
  | .mk k t n a l => t.size ≤ 1000000000 ∧ l.length ≤ 1000000 ∧ w.cell? ⟨g, o, none⟩ = some (.int .u8 (k : Int)) ∧ w.cell? ⟨g, o + 1, none⟩ = some (.string t) ∧ w.cell? ⟨g, o + 2, none⟩ = some (.int .i64 n) ∧ w.cell? ⟨g, o + 3, none⟩ = some (.int .i64 a) ∧
    ∃ p c, w.cell? ⟨g, o + 4, none⟩ = some (.slice p l.length c) ∧ l.length ≤ c ∧ (l = [] ∨ ∃ g' o', p = some ⟨g', o', none⟩ ∧ NdsAt w g' o' l)
def NdsAt (w : World) (g o : Nat) : List Nd → Prop
  | [] => True
  | x :: l => NdAt w g o x ∧ NdsAt w g (o + 5) l
end
/-- .. behind a slice's address -/
def KidsV (w : World) (p : Option Addr) (l : List Nd) : Prop := l = [] ∨ ∃ g o, p = some ⟨g, o, none⟩ ∧ NdsAt w g o l
mutual
theorem NdAt.below {w w' : World} (hb : Below w.heap.size w w') : ∀ (x : Nd) (g o : Nat), NdAt w g o x → NdAt w' g o x
  | .mk k t n a l, g, o, h => by
    rw [NdAt] at h ⊢
    obtain ⟨h1, h2, h3, h4, h5, h6, p, c, h7, h9, h8⟩ := h
    have cell : ∀ {q v}, w.cell? q = some v → w'.cell? q = some v := fun hc => (hb.cell (World.block_lt_of_cell? _ _ hc)).trans hc
    refine ⟨h1, h2, cell h3, cell h4, cell h5, cell h6, p, c, cell h7, h9, ?_⟩
    rcases h8 with h8 | ⟨g', o', e, h8⟩
    · exact Or.inl h8
    · exact Or.inr ⟨g', o', e, NdsAt.below hb l g' o' h8⟩
theorem NdsAt.below {w w' : World} (hb : Below w.heap.size w w') : ∀ (l : List Nd) (g o : Nat), NdsAt w g o l → NdsAt w' g o l
  | [], _, _, _ => by rw [NdsAt]; trivial
  | x :: l, g, o, h => by
    rw [NdsAt] at h ⊢
    exact ⟨NdAt.below hb x g o h.1, NdsAt.below hb l g (o + 5) h.2⟩
end
theorem KidsV.below {w w' : World} (hb : Below w.heap.size w w') {p : Option Addr} {l : List Nd} (h : KidsV w p l) : KidsV w' p l := by
  rcases h with h | ⟨g, o, e, h⟩
  · exact Or.inl h
  · exact Or.inr ⟨g, o, e, NdsAt.below hb _ _ _ h⟩
theorem NdsAt.get {w : World} {g : Nat} : ∀ {l : List Nd} {o : Nat}, NdsAt w g o l → ∀ (j : Nat) (h : j < l.length), NdAt w g (o + j * 5) l[j]
  | [], _, _, j, h => absurd h (by simp)
  | x :: l, o, hn, j, h => by
    rw [NdsAt] at hn
    cases j with
    | zero => simpa using hn.1
    | succ j =>
      have := NdsAt.get hn.2 j (by simpa using h)
      rw [show o + (j + 1) * 5 = o + 5 + j * 5 by omega]
      simpa using this
theorem NdAt.kind {w : World} {g o : Nat} {x : Nd} (h : NdAt w g o x) : w.cell? ⟨g, o, none⟩ = some (.int .u8 (x.kind : Int)) := by
  cases x; rw [NdAt] at h; exact h.2.2.1
/-- a look's cells -/
def lookC (x : Nd) (p : Option Addr) (c : Nat) (d : Bool) : Array Value := #[.int .u8 (x.kind : Int), .string x.text, .int .i64 x.num, .int .i64 x.at_, .slice p x.kids.length c, .bool d]
theorem loose_then {K : Act → World → Prop} {Q : Exit → Act → World → Prop} {D : Option Tmp → Prop} (h : Loose D Q) : Loose D (Exit.then K Q) := fun c a d v w hd hq => h c a d v w hd hq
theorem loose_block {n : Nat} {Q : Exit → Act → World → Prop} {D : Option Tmp → Prop} (h : Loose D Q) : Loose D (Exit.inBlock n Q) := fun c a d v w hd hq => h c a d v w hd hq
/-- it is so, or the panic -/
def okOr (b : Bool) : Ending := if b = true then .returned (.tuple #[]) else .panicked thrownW
theorem must_two {a b : Bool} {g c : Nat} {w : World} (h0 : w.cell? ⟨g, 0, none⟩ = some (.bool a)) (h1 : w.cell? ⟨g, 1, none⟩ = some (.bool b)) :
    Calls Try.prog 22 #[.slice (some ⟨g, 0, none⟩) 2 c] w fun e w' => e = okOr (a && b) ∧ w' = w := by
  have := must_any (l := [a, b]) (g := g) (c := c) (w := w) (by simp) (fun j x hj => by
    rcases j with _ | _ | j
    · cases hj; exact h0
    · cases hj; exact h1
    · simp at hj)
  simpa [okOr] using this
theorem must_one {a : Bool} {g c : Nat} {w : World} (h0 : w.cell? ⟨g, 0, none⟩ = some (.bool a)) :
    Calls Try.prog 22 #[.slice (some ⟨g, 0, none⟩) 1 c] w fun e w' => e = okOr a ∧ w' = w := by
  have := must_any (l := [a]) (g := g) (c := c) (w := w) (by simp) (fun j x hj => by
    rcases j with _ | j
    · cases hj; exact h0
    · simp at hj)
  simpa [okOr] using this
theorem must_three {a b d : Bool} {g c : Nat} {w : World} (h0 : w.cell? ⟨g, 0, none⟩ = some (.bool a)) (h1 : w.cell? ⟨g, 1, none⟩ = some (.bool b)) (h2 : w.cell? ⟨g, 2, none⟩ = some (.bool d)) :
    Calls Try.prog 22 #[.slice (some ⟨g, 0, none⟩) 3 c] w fun e w' => e = okOr (a && b && d) ∧ w' = w := by
  have := must_any (l := [a, b, d]) (g := g) (c := c) (w := w) (by simp) (fun j x hj => by
    rcases j with _ | _ | _ | j
    · cases hj; exact h0
    · cases hj; exact h1
    · cases hj; exact h2
    · simp at hj)
  simpa [okOr, Bool.and_assoc] using this
theorem must_four {a b d f : Bool} {g c : Nat} {w : World} (h0 : w.cell? ⟨g, 0, none⟩ = some (.bool a)) (h1 : w.cell? ⟨g, 1, none⟩ = some (.bool b)) (h2 : w.cell? ⟨g, 2, none⟩ = some (.bool d)) (h3 : w.cell? ⟨g, 3, none⟩ = some (.bool f)) :
    Calls Try.prog 22 #[.slice (some ⟨g, 0, none⟩) 4 c] w fun e w' => e = okOr (a && b && d && f) ∧ w' = w := by
  have := must_any (l := [a, b, d, f]) (g := g) (c := c) (w := w) (by simp) (fun j x hj => by
    rcases j with _ | _ | _ | _ | j
    · cases hj; exact h0
    · cases hj; exact h1
    · cases hj; exact h2
    · cases hj; exact h3
    · simp at hj)
  simpa [okOr, Bool.and_assoc] using this
theorem kernel_cell {w : World} {cs : Array Value} {T : TypeId} {j : Nat} : (w.alloc (.cells cs T)).cell? ⟨w.heap.size, j, none⟩ = cs[j]? := cell_of_row _ _ j _ _ (0, 0) (heap_alloc_new w _)

set_option maxRecDepth 100000 in
set_option maxHeartbeats 2000000 in
theorem bare_any {x : Nd} {p : Option Addr} {c : Nat} {d : Bool} (w : World) :
    Calls Try.prog 42 #[.agg (lookC x p c d)] w fun e w' => e = okOr (x.text.data.toList == [] && x.num == 0) ∧ Below w.heap.size w w' := by
  unfold lookC
  generalize x.kids.length = nk
  generalize x.kind = kk
  generalize x.at_ = aa
  generalize x.num = nn
  generalize x.text = tt
  have hb : ∀ (b1 b2 : Bool), Below w.heap.size w ((w.alloc (.cells #[.int .u8 (kk : Int), .string tt, .int .i64 nn, .int .i64 aa, .slice p nk c, .bool d] 42)).alloc (.cells #[.bool b1, .bool b2] 4)) := fun b1 b2 => ((Below.refl w.heap.size w).alloc (Nat.le_refl _) _).alloc (by simp) _
  have HB := Lib.hid hb; clear hb
  have h1 : (tt.data.toList == []) = tt.toList.isEmpty := by rw [ByteArray.toList_eq]; cases tt.data.toList <;> rfl
  rw [h1]; clear h1
  cases hv : (tt.toList.isEmpty && nn == 0)
  all_goals
    have HV := Lib.hid hv; clear hv
    go_enter Try.func42, Try.ntmps42
    go_wp2_with (go_at_call 22; refine (must_two (a := tt.toList.isEmpty) (b := nn == 0) (by go_simp) (by go_simp)).mono ?_; rintro e w1 ⟨rfl, rfl⟩; rw [HV.out]; unfold okOr; simp only [Bool.false_eq_true, if_false, if_true])
  · exact ⟨rfl, rfl, HB.out _ _⟩
  · go_end0
    exact ⟨rfl, HB.out _ _⟩
set_option maxRecDepth 100000 in
set_option maxHeartbeats 2000000 in
theorem names_any {x : Nd} {p : Option Addr} {c : Nat} {d : Bool} {w : World} (ht : x.text.size ≤ 1000000000) :
    Calls Try.prog 39 #[.agg (lookC x p c d)] w fun e w' => e = okOr (nameB x.text.data.toList && x.num == 0) ∧ Below w.heap.size w w' := by
  unfold lookC
  generalize x.kids.length = nk
  generalize x.kind = kk
  generalize x.at_ = aa
  generalize x.num = nn
  generalize x.text = tt at *
  have hb := ((Below.refl w.heap.size w).alloc (Nat.le_refl _) (.cells #[.int .u8 (kk : Int), .string tt, .int .i64 nn, .int .i64 aa, .slice p nk c, .bool d] 42))
  have HB := Lib.hid hb; clear hb
  have HN := Lib.hid (fun w => name_any (w := w) ht)
  generalize nameB tt.data.toList = nb at *
  cases hv : (nb && nn == 0)
  all_goals
    have HV := Lib.hid hv; clear hv
    go_enter Try.func39, Try.ntmps39
    go_wp2_with fail
    have c1 : (w.alloc (.cells #[.int .u8 (kk : Int), .string tt, .int .i64 nn, .int .i64 aa, .slice p nk c, .bool d] 42)).cell? ⟨w.heap.size, 1, none⟩ = some (.string tt) := kernel_cell
    have c2 : (w.alloc (.cells #[.int .u8 (kk : Int), .string tt, .int .i64 nn, .int .i64 aa, .slice p nk c, .bool d] 42)).cell? ⟨w.heap.size, 2, none⟩ = some (.int .i64 nn) := kernel_cell
    generalize w.alloc (.cells #[.int .u8 (kk : Int), .string tt, .int .i64 nn, .int .i64 aa, .slice p nk c, .bool d] 42) = W at *
    refine wp_region_mixI (l1 := [_, _, _, _, _, _, _, _, _]) (l2 := [_]) [(0, true), (1, true), (2, true), (4, true), (5, true), (6, true), (7, true), (3, false), (8, false)] (fun u => Below W.heap.size W u) (by kernel_rfl) (by kernel_rfl) (by repeat (first | refine loose_then ?_ | refine loose_block ?_ | exact loose_body (P := Try.prog) (fn := Try.f39))) ((Below.refl _ W).drew) ?_
    refine mixI_take (.pointer (some ⟨w.heap.size, 0, none⟩)) rfl rfl (fun u hu => by go_simp) ?_
    refine mixI_take (.pointer (some ⟨w.heap.size, 1, none⟩)) rfl rfl (fun u hu => by go_simp) ?_
    refine mixI_take (.string tt) rfl rfl (fun u hu => by have k1 := (hu.cell (World.block_lt_of_cell? _ _ c1)).trans c1; go_simp) ?_
    refine mixI_take (.pointer (some ⟨w.heap.size, 0, none⟩)) rfl rfl (fun u hu => by go_simp) ?_
    refine mixI_take (.pointer (some ⟨w.heap.size, 2, none⟩)) rfl rfl (fun u hu => by go_simp) ?_
    refine mixI_take (.int .i64 nn) rfl rfl (fun u hu => by have k1 := (hu.cell (World.block_lt_of_cell? _ _ c2)).trans c2; go_simp) ?_
    refine mixI_take (.bool (nn == 0)) rfl rfl (fun u hu => by go_simp) ?_
    refine mixI_go rfl rfl fun K hK => wp_go (f := 54) (args := #[.string tt]) (by go_simp) ((HN.out _).mono ?_)
    rintro e w1 ⟨rfl, hb1⟩
    have hb2 : Below W.heap.size W w1 := ((Below.refl _ W).drew).trans (hb1.mono (by simp))
    refine hK.out _ _ hb2 ?_
    clear hK
    refine mixI_go rfl rfl fun K hK => wp_val (v := .slice (some ⟨w1.heap.size, 0, none⟩) 2 2) (w' := w1.alloc (.cells #[.bool nb, .bool (nn == 0)] 4)) (by go_simp) ?_
    have hb4 := hb2.alloc hb2.size (.cells #[.bool nb, .bool (nn == 0)] 4)
    have k0 : (w1.alloc (.cells #[.bool nb, .bool (nn == 0)] 4)).cell? ⟨w1.heap.size, 0, none⟩ = some (.bool nb) := kernel_cell
    have k1 : (w1.alloc (.cells #[.bool nb, .bool (nn == 0)] 4)).cell? ⟨w1.heap.size, 1, none⟩ = some (.bool (nn == 0)) := kernel_cell
    refine hK.out _ _ hb4 ?_
    clear hK
    show wpList _ _ _ _ _ _
    have hb3 := HB.out.trans (hb4.mono HB.out.size)
    have HM := Lib.hid (must_two (c := 2) k0 k1)
    clear k0 k1 hb1 hb2 hb4 c1 c2
    generalize w1.alloc (.cells #[.bool nb, .bool (nn == 0)] 4) = W2 at *
    go_wp2_with (go_at_call 22; refine HM.out.mono ?_; rintro e w2 ⟨rfl, rfl⟩; rw [HV.out]; unfold okOr; simp only [Bool.false_eq_true, if_false, if_true])
  · exact ⟨rfl, rfl, hb3⟩
  · go_end0
    exact ⟨rfl, hb3⟩
end Go.Proofs.Ytkjpdhnibfhaaaa.NodeF
