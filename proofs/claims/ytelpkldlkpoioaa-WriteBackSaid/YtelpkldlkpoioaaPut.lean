/- Data in memory: a store into a row, and what lies deeper is turned. No function of a program. -/
import Derived.Test.YtelpkldlkpoioaaDat
import Derived.Laws.OwnMore
namespace Go.Proofs.Ytelpkldlkpoioaa.Dat
open Go.RowKit Go.Proofs.Ytelpkldlkpoioaa.Heap

theorem own_same {w w' : World} {B E S n : Nat} {v : Value} {xs : List Value} (h : w.ownsRow B E S v n xs) (hg : ∀ g, v.ownBlock = some g → w'.heap[g]? = w.heap[g]?) : w'.ownsRow B E S v n xs := by
  refine ⟨h.1, h.2.imp id ?_⟩
  rintro ⟨g, cap, cur, rfl, hb, hgg, rest⟩
  exact ⟨g, cap, cur, rfl, hb, (hg g rfl).trans hgg, rest⟩
mutual
theorem Lies.same {w w' : World} {B : Nat} : ∀ {d : Dat} {v : Value} {bs : List Nat}, Lies w B d v bs → (∀ b ∈ bs, w'.heap[b]? = w.heap[b]?) → Lies w' B d v bs
  | .lit u, v, bs, h, _ => by rw [Lies.lit_iff] at h ⊢; exact h
  | .row E S n items, v, bs, h, hr => by
    rw [Lies.row_iff] at h ⊢
    refine ⟨h.1, h.2.imp id ?_⟩
    rintro ⟨g, cap, xs, bs', rfl, ho, hl, rfl⟩
    exact ⟨g, cap, xs, bs', rfl, own_same ho (fun k hk => by cases hk; exact hr _ (List.mem_cons_self ..)), LiesL.same hl fun b hb => hr b (List.mem_cons_of_mem _ hb), rfl⟩
theorem LiesL.same {w w' : World} {B : Nat} : ∀ {ds : List Dat} {xs : List Value} {bs : List Nat}, LiesL w B ds xs bs → (∀ b ∈ bs, w'.heap[b]? = w.heap[b]?) → LiesL w' B ds xs bs
  | [], xs, bs, h, _ => by rw [LiesL.nil] at h ⊢; exact h
  | d :: ds, xs, bs, h, hr => by
    rw [LiesL.cons] at h ⊢
    obtain ⟨x, xs', b1, b2, rfl, rfl, h1, h2⟩ := h
    exact ⟨x, xs', b1, b2, rfl, rfl, Lies.same h1 fun b hb => hr b (List.mem_append_left _ hb), LiesL.same h2 fun b hb => hr b (List.mem_append_right _ hb)⟩
end
/-- one of a list of data, and what it may be turned into -/
theorem LiesL.at {w : World} {B : Nat} : ∀ {ds : List Dat} {xs : List Value} {bs : List Nat} (j : Nat) {d : Dat}, LiesL w B ds xs bs → ds[j]? = some d →
    ∃ x b1 b2 b3, xs[j]? = some x ∧ bs = b1 ++ (b2 ++ b3) ∧ Lies w B d x b2 ∧ ∀ (w' : World) (d' : Dat) (x' : Value), (∀ i ∈ b1 ++ b3, w'.heap[i]? = w.heap[i]?) → Lies w' B d' x' b2 → LiesL w' B (ds.set j d') (xs.set j x') bs
  | [], xs, bs, j, d, _, hj => by simp at hj
  | e :: ds, xs, bs, 0, d, h, hj => by
    obtain rfl : e = d := by simpa using hj
    rw [LiesL.cons] at h
    obtain ⟨x, xs', b1, b2, rfl, rfl, h1, h2⟩ := h
    refine ⟨x, [], b1, b2, rfl, rfl, h1, fun w' d' x' hs hd => ?_⟩
    simp only [List.set_cons_zero]
    rw [LiesL.cons]
    exact ⟨x', xs', b1, b2, rfl, rfl, hd, LiesL.same h2 fun i hi => hs i (by simpa using hi)⟩
  | e :: ds, xs, bs, j + 1, d, h, hj => by
    rw [LiesL.cons] at h
    obtain ⟨x, xs', b1, b2, rfl, rfl, h1, h2⟩ := h
    obtain ⟨y, c1, c2, c3, hy, rfl, hl, hm⟩ := LiesL.at j h2 (by simpa using hj)
    refine ⟨y, b1 ++ c1, c2, c3, by simpa using hy, by simp, hl, fun w' d' x' hs hd => ?_⟩
    simp only [List.set_cons_succ]
    rw [LiesL.cons]
    refine ⟨x, xs'.set j x', b1, c1 ++ (c2 ++ c3), rfl, rfl, Lies.same h1 fun i hi => hs i (by simp [hi]), hm w' d' x' (fun i hi => hs i ?_) hd⟩
    simp only [List.mem_append] at hi ⊢
    rcases hi with hi | hi
    · exact .inl (.inr hi)
    · exact .inr hi
/-- one of a row's cells: what may be turned beneath it (the first), or stored into it (the second) -/
theorem Lies.at {w : World} {B E S n : Nat} {items : List Dat} {v : Value} {bk : List Nat} (h : Lies w B (.row E S n items) v bk) (hnd : bk.Nodup) (j : Nat) {d : Dat} (hj : items[j]? = some d) :
    ∃ g cap x b2, v = .slice (some ⟨g, 0, none⟩) n cap ∧ B ≤ g ∧ g < w.heap.size ∧ n ≤ maxLen ∧ Lies w B d x b2 ∧ w.cell? ⟨g, j, none⟩ = some x ∧ w.frozen? ⟨g, j, none⟩ = false ∧ g ∉ b2 ∧ g ∈ bk ∧ (∀ i ∈ b2, i ∈ bk) ∧ b2.Nodup ∧
      (∀ (w' : World) (d' : Dat), (∀ i ∈ bk, i ∉ b2 → w'.heap[i]? = w.heap[i]?) → Lies w' B d' x b2 → Lies w' B (.row E S n (items.set j d')) v bk) ∧
      ∀ (d' : Dat) (x' : Value), Lies w B d' x' b2 → Lies (w.setCell ⟨g, j, none⟩ x') B (.row E S n (items.set j d')) v bk := by
  rw [Lies.row_iff] at h
  obtain ⟨hlen, h⟩ := h
  have hjl : j < items.length := (List.getElem?_eq_some_iff.1 hj).1
  rcases h with ⟨rfl, _, _⟩ | ⟨g, cap, xs, bs', rfl, ho, hl, rfl⟩
  · rw [Nat.zero_mul] at hlen; omega
  obtain ⟨x, b1, b2, b3, hx, rfl, hd, hm⟩ := hl.at j hj
  have hxl : xs.length = n * S := ho.1
  obtain ⟨hg, hnd'⟩ := List.nodup_cons.1 hnd
  have hg2 : g ∉ b2 := fun hh => hg (by simp [hh])
  have hcell := ho.cells rfl j x hx
  have hadd : (⟨g, 0, none⟩ : Addr).add j = ⟨g, j, none⟩ := by unfold Addr.add; split <;> simp_all
  rw [hadd] at hcell
  have hgl := own_lt ho
  have hb13 : ∀ i ∈ b1 ++ b3, i ∈ b1 ++ (b2 ++ b3) ∧ i ∉ b2 := fun i hi => by
    refine ⟨by simp only [List.mem_append] at hi ⊢; rcases hi with hi | hi <;> simp [hi], fun h2 => ?_⟩
    rcases List.mem_append.1 hi with h1 | h3
    · exact (List.nodup_append.1 hnd').2.2 i h1 i (List.mem_append_left _ h2) rfl
    · exact (List.nodup_append.1 (List.nodup_append.1 hnd').2.1).2.2 i h2 i h3 rfl
  obtain ⟨g', cap', cur, hv, hb, hgg, hn1, hn2, hcs, htk⟩ : ∃ g' cap' cur, (Value.slice (some ⟨g, 0, none⟩) n cap) = .slice (some ⟨g', 0, none⟩) n cap' ∧ B ≤ g' ∧ w.heap[g']? = some (.cells cur E (0, 0)) ∧ n ≤ cap' ∧ cap' ≤ maxLen ∧ cur.size = cap' * S ∧ cur.toList.take (n * S) = xs := by
    rcases ho.2 with ⟨h, _⟩ | h
    · cases h
    · exact h
  cases hv
  refine ⟨g, cap, x, b2, rfl, hgl.1, hgl.2, Nat.le_trans hn1 hn2, hd, hcell, frozen_of_row w g j _ _ hgg, hg2, List.mem_cons_self .., fun i hi => List.mem_cons_of_mem _ (by simp [hi]), (List.nodup_append.1 (List.nodup_append.1 hnd').2.1).1, fun w' d' hs hd' => ?_, fun d' x' hd' => ?_⟩
  · rw [Lies.row_iff]
    refine ⟨by simpa using hlen, .inr ⟨g, cap, xs, b1 ++ (b2 ++ b3), rfl, own_same ho (fun k hk => by cases hk; exact hs _ (List.mem_cons_self ..) hg2), ?_, rfl⟩⟩
    have := hm w' d' x (fun i hi => hs i (List.mem_cons_of_mem _ (hb13 i hi).1) (hb13 i hi).2) hd'
    have e : xs.set j x = xs := by
      apply List.ext_getElem?
      intro k
      rw [List.getElem?_set]
      split
      · rename_i hk; subst hk; rw [hx]; simp [(List.getElem?_eq_some_iff.1 hx).1]
      · rfl
    rwa [e] at this
  · have hfar : ∀ i, i ≠ g → (w.setCell ⟨g, j, none⟩ x').heap[i]? = w.heap[i]? := fun i hi => Below.heap_setCell _ _ _ _ hi
    have hne : ∀ i ∈ b1 ++ (b2 ++ b3), i ≠ g := fun i hi e => hg (e ▸ hi)
    rw [Lies.row_iff]
    refine ⟨by simpa using hlen, .inr ⟨g, cap, xs.set j x', b1 ++ (b2 ++ b3), rfl, (ho.stored j x').1, hm _ d' x' (fun i hi => hfar i (hne i (hb13 i hi).1)) (Lies.same hd' fun i hi => hfar i (hne i (by simp [hi]))), rfl⟩⟩
end Go.Proofs.Ytelpkldlkpoioaa.Dat
