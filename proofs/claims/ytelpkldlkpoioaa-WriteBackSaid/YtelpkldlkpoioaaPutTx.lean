/- Grammars' texts in memory: words, alternatives, rules, declarations that are turned where they lie. -/
import Derived.Test.YtelpkldlkpoioaaPut
import Derived.Test.YtelpkldlkpoioaaCopy
import Derived.Test.YtelpkldlkpoioaaReadPlain
namespace Go.Proofs.Ytelpkldlkpoioaa.PutTx
open Go.RowKit Go.Proofs.Ytelpkldlkpoioaa.Lexy Go.Proofs.Ytelpkldlkpoioaa.LexA Go.Proofs.Ytelpkldlkpoioaa.LexB Go.Proofs.Ytelpkldlkpoioaa.LexC Go.Proofs.Ytelpkldlkpoioaa.LexD Go.Proofs.Ytelpkldlkpoioaa.LexE Go.Proofs.Ytelpkldlkpoioaa.LexF Go.Proofs.Ytelpkldlkpoioaa.LexG Go.Proofs.Ytelpkldlkpoioaa.Heap Go.Proofs.Ytelpkldlkpoioaa.Dat Go.Proofs.Ytelpkldlkpoioaa.Ready Go.Proofs.Ytelpkldlkpoioaa.ReadA Go.Proofs.Ytelpkldlkpoioaa.ReadC Go.Proofs.Ytelpkldlkpoioaa.ReadG Go.Proofs.Ytelpkldlkpoioaa.ReadH Go.Proofs.Ytelpkldlkpoioaa.ReadI Go.Proofs.Ytelpkldlkpoioaa.ReadM Go.Proofs.Ytelpkldlkpoioaa.ReadO Go.Proofs.Ytelpkldlkpoioaa.Same Go.Proofs.Ytelpkldlkpoioaa.Copy

/-- a row's cells with those of one element turned -/
def seg {X : Type} (D : X → List Dat) (xs : List X) (k : Nat) (m : List Dat) : List Dat := (xs.take k).flatMap D ++ (m ++ (xs.drop (k + 1)).flatMap D)
theorem flat_len {X : Type} (D : X → List Dat) (S : Nat) (hS : ∀ x, (D x).length = S) : ∀ xs : List X, (xs.flatMap D).length = xs.length * S
  | [] => by simp
  | x :: xs => by simp only [List.flatMap_cons, List.length_append, hS, flat_len D S hS xs, List.length_cons, Nat.succ_mul]; omega
theorem seg_self {X : Type} (D : X → List Dat) (xs : List X) (k : Nat) (hk : k < xs.length) : xs.flatMap D = seg D xs k (D (xs[k])) := by
  have e : xs = xs.take k ++ (xs[k] :: xs.drop (k + 1)) := by rw [← List.drop_eq_getElem_cons hk, List.take_append_drop]
  refine (congrArg (List.flatMap D) e).trans ?_
  rw [List.flatMap_append, List.flatMap_cons]; rfl
theorem seg_set {X : Type} (D : X → List Dat) (xs : List X) (k : Nat) (hk : k < xs.length) (y : X) : (xs.set k y).flatMap D = seg D xs k (D y) := by
  rw [seg_self D (xs.set k y) k (by simpa using hk)]
  unfold seg
  rw [List.take_set, List.set_eq_of_length_le (by simp; omega), List.drop_set, if_pos (by omega), List.getElem_set_self]
theorem seg_put {X : Type} (D : X → List Dat) (S : Nat) (hS : ∀ x, (D x).length = S) (xs : List X) (k j : Nat) (hk : k < xs.length) (m : List Dat) (hm : m.length = S) (hj : j < S) (d : Dat) : (seg D xs k m).set (k * S + j) d = seg D xs k (m.set j d) := by
  unfold seg
  have h1 : ((xs.take k).flatMap D).length = k * S := by rw [flat_len D S hS, List.length_take, Nat.min_eq_left (by omega)]
  rw [List.set_append_right _ _ (by omega), h1, Nat.add_sub_cancel_left, List.set_append_left _ _ (by omega)]
theorem seg_get {X : Type} (D : X → List Dat) (S : Nat) (hS : ∀ x, (D x).length = S) (xs : List X) (k j : Nat) (hk : k < xs.length) (m : List Dat) (hm : m.length = S) (hj : j < S) : (seg D xs k m)[k * S + j]? = m[j]? := by
  unfold seg
  have h1 : ((xs.take k).flatMap D).length = k * S := by rw [flat_len D S hS, List.length_take, Nat.min_eq_left (by omega)]
  rw [List.getElem?_append_right (by omega), h1, Nat.add_sub_cancel_left, List.getElem?_append_left (by omega)]
/-- the same value stored into its cell -/
theorem keepCell {w : World} {B E S n g cap : Nat} {items : List Dat} {bk : List Nat} {x : Value} (h : Lies w B (.row E S n items) (.slice (some ⟨g, 0, none⟩) n cap) bk) (hnd : bk.Nodup) {j : Nat} {d : Dat} (hj : items[j]? = some d) (hx : w.cell? ⟨g, j, none⟩ = some x) :
    Lies (w.setCell ⟨g, j, none⟩ x) B (.row E S n items) (.slice (some ⟨g, 0, none⟩) n cap) bk := by
  obtain ⟨g', cap', y, b2, hv, _, _, _, hd, hy, _, _, _, _, _, _, hB⟩ := h.at hnd j hj
  cases hv
  obtain rfl : y = x := Option.some.inj (hy.symm.trans hx)
  have := hB d y hd
  have e : items.set j d = items := by
    apply List.ext_getElem?
    intro k
    rw [List.getElem?_set]
    split
    · rename_i hk; subst hk; rw [hj]; simp [(List.getElem?_eq_some_iff.1 hj).1]
    · rfl
  rwa [e] at this
theorem putLit {w : World} {B E S n g cap : Nat} {items : List Dat} {bk : List Nat} {u : Value} (h : Lies w B (.row E S n items) (.slice (some ⟨g, 0, none⟩) n cap) bk) (hnd : bk.Nodup) {j : Nat} (hj : items[j]? = some (.lit u)) (u' : Value) :
    Lies (w.setCell ⟨g, j, none⟩ u') B (.row E S n (items.set j (.lit u'))) (.slice (some ⟨g, 0, none⟩) n cap) bk := by
  obtain ⟨g', cap', y, b2, hv, _, _, _, hd, hy, _, _, _, _, _, _, hB⟩ := h.at hnd j hj
  cases hv
  have hd' := (Lies.lit_iff.1 hd).2
  exact hB (.lit u') u' (Lies.lit_iff.2 ⟨rfl, hd'⟩)
theorem litAt {w : World} {B E S n g cap : Nat} {items : List Dat} {bk : List Nat} {u : Value} (h : Lies w B (.row E S n items) (.slice (some ⟨g, 0, none⟩) n cap) bk) (hnd : bk.Nodup) {j : Nat} (hj : items[j]? = some (.lit u)) : w.cell? ⟨g, j, none⟩ = some u := by
  obtain ⟨g', cap', y, b2, hv, _, _, _, hd, hy, _⟩ := h.at hnd j hj
  cases hv
  rw [hy, (Lies.lit_iff.1 hd).1]
theorem setCell_cell {w : World} {b i j : Nat} {u x : Value} (hij : i ≠ j) (h : w.cell? ⟨b, j, none⟩ = some x) : (w.setCell ⟨b, i, none⟩ u).cell? ⟨b, j, none⟩ = some x :=
  (World.cell?_setCell_other w ⟨b, i, none⟩ ⟨b, j, none⟩ _ (fun e => hij (by cases e; rfl))).trans h

/-- a word of a row of words, that may be turned where it lies -/
theorem word_at {w : World} {B N : Nat} {l : List Wd} {v : Value} {bk : List Nat} (h : Lies w B (.row 54 3 N (wdsD l)) v bk) (hnd : bk.Nodup) {k : Nat} (hk : k < l.length) {n : List UInt8} {ws : List Wd} {z : Int} (hx : l[k] = .mk n ws z) :
    ∃ g cap a c b2, v = .slice (some ⟨g, 0, none⟩) N cap ∧ B ≤ g ∧ g < w.heap.size ∧ N ≤ maxLen ∧ w.cell? ⟨g, k * 3, none⟩ = some (.string (bs n)) ∧ w.cell? ⟨g, k * 3 + 1, none⟩ = some (.slice a ws.length c) ∧ w.cell? ⟨g, k * 3 + 2, none⟩ = some (.int .i64 (z : Int)) ∧ (∀ j, w.frozen? ⟨g, j, none⟩ = false) ∧
      Lies w B (.row 54 3 ws.length (wdsD ws)) (.slice a ws.length c) b2 ∧ b2.Nodup ∧ g ∈ bk ∧ g ∉ b2 ∧ (∀ i ∈ b2, i ∈ bk) ∧
      ∀ (w2 : World) (ws' : List Wd), ws'.length = ws.length → (∀ i ∈ bk, i ∉ b2 → w2.heap[i]? = w.heap[i]?) → Lies w2 B (.row 54 3 ws.length (wdsD ws')) (.slice a ws.length c) b2 →
        Lies (((w2.setCell ⟨g, k * 3, none⟩ (.string (bs n))).setCell ⟨g, k * 3 + 1, none⟩ (.slice a ws.length c)).setCell ⟨g, k * 3 + 2, none⟩ (.int .i64 0)) B (.row 54 3 N (wdsD (l.set k (.mk n ws' 0)))) v bk := by
  have e0 : wdsD l = seg wdD l k [.lit (.string (bs n)), .row 54 3 ws.length (wdsD ws), .lit (.int .i64 (z : Int))] := by rw [wdsD_flat, seg_self wdD l k hk, hx]; simp only [wdD]
  rw [e0] at h
  have q := fun (m : List Dat) (hm : m.length = 3) (j : Nat) (hj : j < 3) => seg_get wdD 3 wdD_len l k j hk m hm hj
  have p := fun (m : List Dat) (hm : m.length = 3) (j : Nat) (hj : j < 3) (d : Dat) => seg_put wdD 3 wdD_len l k j hk m hm hj d
  obtain ⟨g, cap, x, b2, rfl, hB, hgl, hN, hd, hc1, hf1, hg2, hgb, hsub, hnd2, hA, _⟩ := h.at hnd (k * 3 + 1) (q _ rfl 1 (by omega))
  obtain ⟨a, c, rfl⟩ := row_slice hd
  have hfr : ∀ j, w.frozen? ⟨g, j, none⟩ = false := fun j => by
    rw [Lies.row_iff] at h
    rcases h.2 with ⟨_, h, _⟩ | ⟨g', cap', xs, bs', h, ho, _⟩
    · cases h
    · cases h; exact ho.frozenAt j
  refine ⟨g, cap, a, c, b2, rfl, hB, hgl, hN, litAt h hnd (q _ rfl 0 (by omega)), hc1, litAt h hnd (q _ rfl 2 (by omega)), hfr, hd, hnd2, hgb, hg2, hsub, fun w2 ws' hl hs hw2 => ?_⟩
  have h2 := hA w2 _ hs hw2
  rw [p _ rfl 1 (by omega)] at h2
  simp only [List.set_cons_succ, List.set_cons_zero] at h2
  have hg2' := hs g hgb hg2
  have hc1' : w2.cell? ⟨g, k * 3 + 1, none⟩ = some (.slice a ws.length c) := (World.cell?_of_block hg2').trans hc1
  have h3 := keepCell h2 hnd (q _ rfl 0 (by omega)) (litAt h2 hnd (q _ rfl 0 (by omega)))
  have h4 := keepCell h3 hnd (q _ rfl 1 (by omega)) (setCell_cell (by omega) hc1')
  have h5 := putLit h4 hnd (q _ rfl 2 (by omega)) (.int .i64 0)
  rw [p _ rfl 2 (by omega)] at h5
  simp only [List.set_cons_succ, List.set_cons_zero] at h5
  have e1 : wdsD (l.set k (.mk n ws' 0)) = seg wdD l k [.lit (.string (bs n)), .row 54 3 ws.length (wdsD ws'), .lit (.int .i64 0)] := by rw [wdsD_flat, seg_set wdD l k hk]; simp only [wdD]; rw [hl]
  rw [e1]
  exact h5
/-- a declaration's place -/
theorem decl_put {w : World} {B N : Nat} {l : List De} {v : Value} {bk : List Nat} (h : Lies w B (.row 45 4 N (desD l)) v bk) (hnd : bk.Nodup) {k : Nat} (hk : k < l.length) :
    ∃ g cap, v = .slice (some ⟨g, 0, none⟩) N cap ∧ B ≤ g ∧ g < w.heap.size ∧ N ≤ maxLen ∧ g ∈ bk ∧ (∃ u, w.cell? ⟨g, k * 4 + 3, none⟩ = some u) ∧ w.frozen? ⟨g, k * 4 + 3, none⟩ = false ∧
      Lies (w.setCell ⟨g, k * 4 + 3, none⟩ (.int .i64 0)) B (.row 45 4 N (desD (l.set k (plainD (l[k]))))) v bk := by
  have e0 : desD l = seg deD l k (deD (l[k])) := by rw [desD_flat, seg_self deD l k hk]
  rw [e0] at h
  have q := fun (m : List Dat) (hm : m.length = 4) (j : Nat) (hj : j < 4) => seg_get deD 4 deD_len l k j hk m hm hj
  have p := fun (m : List Dat) (hm : m.length = 4) (j : Nat) (hj : j < 4) (d : Dat) => seg_put deD 4 deD_len l k j hk m hm hj d
  obtain ⟨g, cap, x, b2, rfl, hB, hgl, hN, hd, hc1, hf1, hg2, hgb, hsub, hnd2, hA, _⟩ := h.at hnd (k * 4 + 3) (q _ rfl 3 (by omega))
  refine ⟨g, cap, rfl, hB, hgl, hN, hgb, ⟨x, hc1⟩, hf1, ?_⟩
  have h5 := putLit h hnd (q _ rfl 3 (by omega)) (.int .i64 0)
  rw [p _ rfl 3 (by omega)] at h5
  rw [desD_flat, seg_set deD l k hk]
  exact h5
/-- a rule of a row of rules: its place, its alternatives -/
theorem rule_at {w : World} {B N : Nat} {l : List Ru} {v : Value} {bk : List Nat} (h : Lies w B (.row 48 4 N (rusD l)) v bk) (hnd : bk.Nodup) {k : Nat} (hk : k < l.length) :
    ∃ g cap a c b2, v = .slice (some ⟨g, 0, none⟩) N cap ∧ B ≤ g ∧ g < w.heap.size ∧ N ≤ maxLen ∧ g ∈ bk ∧ g ∉ b2 ∧ (∀ i ∈ b2, i ∈ bk) ∧ b2.Nodup ∧ (∃ u, w.cell? ⟨g, k * 4 + 3, none⟩ = some u) ∧ w.cell? ⟨g, k * 4 + 2, none⟩ = some (.slice a (l[k]).alts.length c) ∧ w.frozen? ⟨g, k * 4 + 3, none⟩ = false ∧
      Lies w B (.row 51 6 (l[k]).alts.length (alsD (l[k]).alts)) (.slice a (l[k]).alts.length c) b2 ∧
      Lies (w.setCell ⟨g, k * 4 + 3, none⟩ (.int .i64 0)) B (.row 48 4 N (rusD (l.set k { l[k] with at_ := 0 }))) v bk ∧
      ∀ (w2 : World) (zs : List Al), zs.length = (l[k]).alts.length → (∀ i ∈ bk, i ∉ b2 → w2.heap[i]? = w.heap[i]?) → Lies w2 B (.row 51 6 (l[k]).alts.length (alsD zs)) (.slice a (l[k]).alts.length c) b2 →
        Lies w2 B (.row 48 4 N (rusD (l.set k { l[k] with alts := zs }))) v bk := by
  have e0 : rusD l = seg ruD l k (ruD (l[k])) := by rw [rusD_flat, seg_self ruD l k hk]
  rw [e0] at h
  have q := fun (m : List Dat) (hm : m.length = 4) (j : Nat) (hj : j < 4) => seg_get ruD 4 ruD_len l k j hk m hm hj
  have p := fun (m : List Dat) (hm : m.length = 4) (j : Nat) (hj : j < 4) (d : Dat) => seg_put ruD 4 ruD_len l k j hk m hm hj d
  obtain ⟨g, cap, x, b2, rfl, hB, hgl, hN, hd, hc1, hf1, hg2, hgb, hsub, hnd2, hA, _⟩ := h.at hnd (k * 4 + 2) (q _ rfl 2 (by omega))
  obtain ⟨a, c, rfl⟩ := row_slice hd
  obtain ⟨g', cap', y, b3, hv, _, _, _, _, hc3, hf3, _⟩ := h.at hnd (k * 4 + 3) (q _ rfl 3 (by omega))
  cases hv
  refine ⟨g, cap, a, c, b2, rfl, hB, hgl, hN, hgb, hg2, hsub, hnd2, ⟨y, hc3⟩, hc1, hf3, hd, ?_, fun w2 zs hl hs hw2 => ?_⟩
  · have h5 := putLit h hnd (q _ rfl 3 (by omega)) (.int .i64 0)
    rw [p _ rfl 3 (by omega)] at h5
    rw [rusD_flat, seg_set ruD l k hk]
    exact h5
  · have h2 := hA w2 _ hs hw2
    rw [p _ rfl 2 (by omega)] at h2
    have e1 : rusD (l.set k { l[k] with alts := zs }) = seg ruD l k ((ruD (l[k])).set 2 (.row 51 6 (l[k]).alts.length (alsD zs))) := by
      rw [rusD_flat, seg_set ruD l k hk]; simp only [ruD]; rw [hl]; rfl
    rw [e1]
    exact h2
/-- an alternative of a row of alternatives: its places, its words -/
theorem alt_at {w : World} {B N : Nat} {l : List Al} {v : Value} {bk : List Nat} (h : Lies w B (.row 51 6 N (alsD l)) v bk) (hnd : bk.Nodup) {k : Nat} (hk : k < l.length) :
    ∃ g cap a c b2, v = .slice (some ⟨g, 0, none⟩) N cap ∧ B ≤ g ∧ g < w.heap.size ∧ N ≤ maxLen ∧ g ∈ bk ∧ g ∉ b2 ∧ (∀ i ∈ b2, i ∈ bk) ∧ b2.Nodup ∧ (∃ u, w.cell? ⟨g, k * 6 + 4, none⟩ = some u) ∧ (∃ u, w.cell? ⟨g, k * 6 + 5, none⟩ = some u) ∧ w.cell? ⟨g, k * 6, none⟩ = some (.slice a (l[k]).words.length c) ∧ w.frozen? ⟨g, k * 6 + 4, none⟩ = false ∧ w.frozen? ⟨g, k * 6 + 5, none⟩ = false ∧
      Lies w B (.row 54 3 (l[k]).words.length (wdsD (l[k]).words)) (.slice a (l[k]).words.length c) b2 ∧
      Lies ((w.setCell ⟨g, k * 6 + 5, none⟩ (.int .i64 0)).setCell ⟨g, k * 6 + 4, none⟩ (.int .i64 0)) B (.row 51 6 N (alsD (l.set k { l[k] with at_ := 0, whr := 0 }))) v bk ∧
      ∀ (w2 : World) (zs : List Wd), zs.length = (l[k]).words.length → (∀ i ∈ bk, i ∉ b2 → w2.heap[i]? = w.heap[i]?) → Lies w2 B (.row 54 3 (l[k]).words.length (wdsD zs)) (.slice a (l[k]).words.length c) b2 →
        Lies w2 B (.row 51 6 N (alsD (l.set k { l[k] with words := zs }))) v bk := by
  have e0 : alsD l = seg alD l k (alD (l[k])) := by rw [alsD_flat, seg_self alD l k hk]
  rw [e0] at h
  have q := fun (m : List Dat) (hm : m.length = 6) (j : Nat) (hj : j < 6) => seg_get alD 6 alD_len l k j hk m hm hj
  have p := fun (m : List Dat) (hm : m.length = 6) (j : Nat) (hj : j < 6) (d : Dat) => seg_put alD 6 alD_len l k j hk m hm hj d
  obtain ⟨g, cap, x, b2, rfl, hB, hgl, hN, hd, hc1, hf1, hg2, hgb, hsub, hnd2, hA, _⟩ := h.at hnd (k * 6 + 0) (q _ rfl 0 (by omega))
  obtain ⟨a, c, rfl⟩ := row_slice hd
  obtain ⟨g', cap', y, b3, hv, _, _, _, _, hc3, hf3, _⟩ := h.at hnd (k * 6 + 4) (q _ rfl 4 (by omega))
  cases hv
  obtain ⟨g', cap', y5, b3, hv, _, _, _, _, hc5, hf5, _⟩ := h.at hnd (k * 6 + 5) (q _ rfl 5 (by omega))
  cases hv
  refine ⟨g, cap, a, c, b2, rfl, hB, hgl, hN, hgb, hg2, hsub, hnd2, ⟨y, hc3⟩, ⟨y5, hc5⟩, hc1, hf3, hf5, hd, ?_, fun w2 zs hl hs hw2 => ?_⟩
  · have h5 := putLit h hnd (q _ rfl 5 (by omega)) (.int .i64 0)
    rw [p _ rfl 5 (by omega)] at h5
    have h6 := putLit h5 hnd (q _ rfl 4 (by omega)) (.int .i64 0)
    rw [p _ rfl 4 (by omega)] at h6
    rw [alsD_flat, seg_set alD l k hk]
    exact h6
  · have h2 := hA w2 _ hs hw2
    rw [p _ rfl 0 (by omega)] at h2
    have e1 : alsD (l.set k { l[k] with words := zs }) = seg alD l k ((alD (l[k])).set 0 (.row 54 3 (l[k]).words.length (wdsD zs))) := by
      rw [alsD_flat, seg_set alD l k hk]; simp only [alD]; rw [hl]; rfl
    rw [e1]
    exact h2
end Go.Proofs.Ytelpkldlkpoioaa.PutTx
