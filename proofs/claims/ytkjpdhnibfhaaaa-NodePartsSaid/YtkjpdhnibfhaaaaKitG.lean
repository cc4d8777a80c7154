/- node.Bare: what it tells, as data in memory. -/
import Derived.Test.YtkjpdhnibfhaaaaKitB
namespace Go.Proofs.Ytkjpdhnibfhaaaa.KitG
open Go Go.RowKit Go.Proofs.Ytkjpdhnibfhaaaa.Dat Go.Proofs.Ytkjpdhnibfhaaaa.Nodey Go.Proofs.Ytkjpdhnibfhaaaa.NodeA Go.Proofs.Ytkjpdhnibfhaaaa.NodeB Go.Proofs.Ytkjpdhnibfhaaaa.NodeF Go.Proofs.Ytkjpdhnibfhaaaa.NodeI Go.Proofs.Ytkjpdhnibfhaaaa.NodeK Go.Proofs.Ytkjpdhnibfhaaaa.NodeS Go.Proofs.Ytkjpdhnibfhaaaa.NodeT Go.Proofs.Ytkjpdhnibfhaaaa.NodeU Go.Proofs.Ytkjpdhnibfhaaaa.Cut
mutual
/-- small throughout -/
def okN : Nd → Prop
  | .mk _ t _ _ l => t.size ≤ 1000000000 ∧ l.length ≤ 1000000 ∧ okL l
def okL : List Nd → Prop
  | [] => True
  | x :: l => okN x ∧ okL l
end
mutual
theorem ok_nd {w : World} {g : Nat} : ∀ (x : Nd) (o : Nat), NdAt w g o x → okN x
  | .mk k t n a l, o, h => by
    rw [NdAt] at h
    rw [okN]
    obtain ⟨h1, h2, _, _, _, _, p, c, _, _, h8⟩ := h
    refine ⟨h1, h2, ?_⟩
    rcases h8 with h8 | ⟨g', o', _, h9⟩
    · subst h8; rw [okL]; trivial
    · exact ok_nds l o' h9
theorem ok_nds {w : World} {g : Nat} : ∀ (l : List Nd) (o : Nat), NdsAt w g o l → okL l
  | [], _, _ => by rw [okL]; trivial
  | x :: l, o, h => by
    rw [NdsAt] at h
    rw [okL]
    exact ⟨ok_nd x o h.1, ok_nds l (o + 5) h.2⟩
end
mutual
/-- a node's cells as data -/
def ndD : Nd → List Dat
  | .mk k t n a l => [.lit (.int .u8 (k : Int)), .lit (.string t), .lit (.int .i64 n), .lit (.int .i64 a), .row 25 5 l.length (ndsD l)]
def ndsD : List Nd → List Dat
  | [] => []
  | x :: l => ndD x ++ ndsD l
end
theorem ndD_len : ∀ x : Nd, (ndD x).length = 5
  | .mk k t n a l => by rw [ndD]; rfl
theorem ndsD_len : ∀ l : List Nd, (ndsD l).length = l.length * 5
  | [] => by rw [ndsD]; rfl
  | x :: l => by rw [ndsD, List.length_append, ndD_len, ndsD_len l, List.length_cons]; omega
theorem ndsD_snoc (l : List Nd) (x : Nd) : ndsD (l ++ [x]) = ndsD l ++ ndD x := by
  induction l with
  | nil => simp [ndsD]
  | cons y l ih => rw [List.cons_append, ndsD, ndsD, ih, List.append_assoc]
theorem nds_lies {w : World} {B g : Nat} : ∀ (l : List Nd) (o : Nat) (xs : List Value) (bs : List Nat), okL l → LiesL w B (ndsD l) xs bs → (∀ j v, xs[j]? = some v → w.cell? ⟨g, o + j, none⟩ = some v) → NdsAt w g o l
  | [], _, _, _, _, _, _ => by rw [NdsAt]; trivial
  | .mk k t n a l' :: l, o, xs, bs, hok, h, hc => by
    rw [okL, okN] at hok
    rw [ndsD, ndD] at h
    simp only [List.cons_append, List.nil_append, LiesL.cons, Lies.lit_iff] at h
    obtain ⟨x0, xs0, b00, b01, rfl, rfl, ⟨rfl, rfl⟩, x1, xs1, b10, b11, rfl, rfl, ⟨rfl, rfl⟩, x2, xs2, b20, b21, rfl, rfl, ⟨rfl, rfl⟩, x3, xs3, b30, b31, rfl, rfl, ⟨rfl, rfl⟩, x4, xs4, b40, b41, rfl, rfl, h4, h5⟩ := h
    rw [NdsAt, NdAt]
    refine ⟨⟨hok.1.1, hok.1.2.1, hc 0 _ rfl, hc 1 _ rfl, hc 2 _ rfl, hc 3 _ rfl, ?_⟩, nds_lies l (o + 5) xs4 b41 hok.2 h5 fun j v hj => by have := hc (j + 5) v (by simpa using hj); rwa [show o + (j + 5) = o + 5 + j by omega] at this⟩
    rw [Lies.row_iff] at h4
    rcases h4.2 with ⟨h6, rfl, _⟩ | ⟨g', cap, ys, bs', rfl, hown, hl, _⟩
    · have hn : l' = [] := List.length_eq_zero_iff.1 h6
      subst hn
      exact ⟨none, 0, hc 4 _ rfl, Nat.le_refl _, Or.inl rfl⟩
    · refine ⟨some ⟨g', 0, none⟩, cap, hc 4 _ rfl, ?_, Or.inr ⟨g', 0, rfl, nds_lies (g := g') l' 0 ys bs' hok.1.2.2 hl fun j v hj => by have := hown.cells (g := g') rfl j v hj; rw [show (⟨g', 0, none⟩ : Addr).add j = ⟨g', 0 + j, none⟩ by unfold Addr.add; split <;> simp_all] at this; exact this⟩⟩
      rcases hown.2 with ⟨h7, _⟩ | ⟨g2, cap2, cur, h7, _, _, h8, _⟩
      · cases h7
      · cases h7; exact h8
theorem lies_kids {w : World} {B : Nat} {l : List Nd} {v : Value} {bs : List Nat} (hok : okL l) (h : Lies w B (.row 25 5 l.length (ndsD l)) v bs) : ∃ p c, v = .slice p l.length c ∧ l.length ≤ c ∧ KidsV w p l := by
  rw [Lies.row_iff] at h
  rcases h.2 with ⟨h6, rfl, _⟩ | ⟨g', cap, ys, bs', rfl, hown, hl, _⟩
  · have hn : l = [] := List.length_eq_zero_iff.1 h6
    subst hn
    exact ⟨none, 0, rfl, Nat.le_refl _, Or.inl rfl⟩
  · refine ⟨some ⟨g', 0, none⟩, cap, rfl, ?_, Or.inr ⟨g', 0, rfl, nds_lies (g := g') l 0 ys bs' hok hl fun j v hj => by have := hown.cells (g := g') rfl j v hj; rw [show (⟨g', 0, none⟩ : Addr).add j = ⟨g', 0 + j, none⟩ by unfold Addr.add; split <;> simp_all] at this; exact this⟩⟩
    rcases hown.2 with ⟨h7, _⟩ | ⟨g2, cap2, cur, h7, _, _, h8, _⟩
    · cases h7
    · cases h7; exact h8
end Go.Proofs.Ytkjpdhnibfhaaaa.KitG
