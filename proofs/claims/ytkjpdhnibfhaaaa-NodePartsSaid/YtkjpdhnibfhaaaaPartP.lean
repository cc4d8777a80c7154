/- Trees: places turned, kids fewer, kids changed about. Plain. -/
import Derived.Test.YtkjpdhnibfhaaaaKitP
namespace Go.Proofs.Ytkjpdhnibfhaaaa.PartP
open Go.Proofs.Ytkjpdhnibfhaaaa.Nodey Go.Proofs.Ytkjpdhnibfhaaaa.KitP
mutual
/-- the places as far on -/
def movedN (c : Int) : Nd → Nd
  | .mk k t n a l => .mk k t n (max a 0 % 1000 + c) (movedL (c + 1) l)
def movedL (c : Int) : List Nd → List Nd
  | [] => []
  | x :: l => movedN c x :: movedL c l
end
theorem movedL_map (c : Int) : ∀ l : List Nd, movedL c l = l.map (movedN c)
  | [] => by rw [movedL]; rfl
  | x :: l => by rw [movedL, movedL_map c l]; rfl
mutual
theorem same_moved (c : Int) : ∀ x : Nd, sameN x (movedN c x) = true
  | .mk k t n a l => by rw [movedN, sameN, sames_moved (c + 1) l]; simp
theorem sames_moved (c : Int) : ∀ l : List Nd, sameL l (movedL c l) = true
  | [] => by rw [movedL, sameL]
  | x :: l => by rw [movedL, sameL, same_moved c x, sames_moved c l]; rfl
end
mutual
theorem moved_same (c : Int) : ∀ x : Nd, sameN (movedN c x) x = true
  | .mk k t n a l => by rw [movedN, sameN, moveds_same (c + 1) l]; simp
theorem moveds_same (c : Int) : ∀ l : List Nd, sameL (movedL c l) l = true
  | [] => by rw [movedL, sameL]
  | x :: l => by rw [movedL, sameL, moved_same c x, moveds_same c l]; rfl
end
mutual
theorem bare_moved (c : Int) : ∀ x : Nd, bareN (movedN c x) = bareN x
  | .mk k t n a l => by rw [movedN, bareN, bareN, bares_moved (c + 1) l]
theorem bares_moved (c : Int) : ∀ l : List Nd, bareL (movedL c l) = bareL l
  | [] => by rw [movedL]
  | x :: l => by rw [movedL, bareL, bareL, bare_moved c x, bares_moved c l]
end
mutual
theorem deep_moved (c : Int) : ∀ x : Nd, deepN (movedN c x) = deepN x
  | .mk k t n a l => by rw [movedN, deepN, deepN, deeps_moved (c + 1) l]
theorem deeps_moved (c : Int) : ∀ l : List Nd, deepL (movedL c l) = deepL l
  | [] => by rw [movedL]
  | x :: l => by rw [movedL, deepL, deepL, deep_moved c x, deeps_moved c l]
end
mutual
theorem size_moved (c : Int) : ∀ x : Nd, sizeN (movedN c x) = sizeN x
  | .mk k t n a l => by rw [movedN, sizeN, sizeN, sizes_moved (c + 1) l]
theorem sizes_moved (c : Int) : ∀ l : List Nd, sizeL (movedL c l) = sizeL l
  | [] => by rw [movedL]
  | x :: l => by rw [movedL, sizeL, sizeL, size_moved c x, sizes_moved c l]
end
mutual
theorem deep_bare : ∀ x : Nd, deepN (bareN x) = deepN x
  | .mk k t n a l => by rw [bareN, deepN, deepN, deeps_bare l]
theorem deeps_bare : ∀ l : List Nd, deepL (bareL l) = deepL l
  | [] => by rw [bareL]
  | x :: l => by rw [bareL, deepL, deepL, deep_bare x, deeps_bare l]
end
mutual
theorem size_bare : ∀ x : Nd, sizeN (bareN x) = sizeN x
  | .mk k t n a l => by rw [bareN, sizeN, sizeN, sizes_bare l]
theorem sizes_bare : ∀ l : List Nd, sizeL (bareL l) = sizeL l
  | [] => by rw [bareL]
  | x :: l => by rw [bareL, sizeL, sizeL, size_bare x, sizes_bare l]
end
/-- what a node is on its own hangs on its kids' kinds and places alone -/
theorem shape_of {d : Bool} {k : Nat} {t : ByteArray} {n a b : Int} {l l' : List Nd} (hk : l'.map Nd.kind = l.map Nd.kind) (hp : l'.map placeN = l.map placeN) : shapeB d (.mk k t n a l') = shapeB d (.mk k t n b l) := by
  have key : ∀ m : List Nd, ∀ j : Nat, (m.take j).all placeN = ((m.map placeN).take j).all id := fun m j => by
    rw [← List.map_take, List.all_map]; rfl
  unfold shapeB
  simp only [Nd.text, Nd.num, Nd.kind, Nd.kids, hk, key, hp]
  try rfl
theorem kind_moved (c : Int) : ∀ x : Nd, (movedN c x).kind = x.kind
  | .mk k t n a l => by rw [movedN]; rfl
theorem kind_bare : ∀ x : Nd, (bareN x).kind = x.kind
  | .mk k t n a l => by rw [bareN]; rfl
theorem place_moved (c : Int) : ∀ x : Nd, placeN (movedN c x) = placeN x
  | .mk k t n a [] => by rw [movedN, movedL, placeN, placeN]
  | .mk k t n a (x :: l) => by rw [movedN, movedL, placeN, placeN, place_moved (c + 1) x]
theorem place_bare : ∀ x : Nd, placeN (bareN x) = placeN x
  | .mk k t n a [] => by rw [bareN, bareL, placeN, placeN]
  | .mk k t n a (x :: l) => by rw [bareN, bareL, placeN, placeN, place_bare x]
theorem kinds_moved (c : Int) : ∀ l : List Nd, (movedL c l).map Nd.kind = l.map Nd.kind
  | [] => by rw [movedL]
  | x :: l => by rw [movedL, List.map_cons, List.map_cons, kind_moved, kinds_moved c l]
theorem places_moved (c : Int) : ∀ l : List Nd, (movedL c l).map placeN = l.map placeN
  | [] => by rw [movedL]
  | x :: l => by rw [movedL, List.map_cons, List.map_cons, place_moved, places_moved c l]
theorem kinds_bare : ∀ l : List Nd, (bareL l).map Nd.kind = l.map Nd.kind
  | [] => by rw [bareL]
  | x :: l => by rw [bareL, List.map_cons, List.map_cons, kind_bare, kinds_bare l]
theorem places_bare : ∀ l : List Nd, (bareL l).map placeN = l.map placeN
  | [] => by rw [bareL]
  | x :: l => by rw [bareL, List.map_cons, List.map_cons, place_bare, places_bare l]
theorem tmod_pos (a : Int) : 0 ≤ max a 0 % 1000 ∧ max a 0 % 1000 ≤ 999 := by omega
mutual
theorem well_moved {d : Bool} {c : Int} (hc : 0 ≤ c) : ∀ x : Nd, wellN d x = true → wellN d (movedN c x) = true
  | .mk k t n a l, h => by
    rw [wellN] at h
    simp only [Bool.and_eq_true, decide_eq_true_eq] at h
    rw [movedN, wellN, shape_of (b := a) (kinds_moved _ l) (places_moved _ l), h.1.1, wells_moved (c := c + 1) (by omega) l h.2]
    have := (tmod_pos a).1
    simp; omega
theorem wells_moved {d : Bool} {c : Int} (hc : 0 ≤ c) : ∀ l : List Nd, wellL d l = true → wellL d (movedL c l) = true
  | [], _ => by rw [movedL, wellL]
  | x :: l, h => by
    rw [wellL] at h
    simp only [Bool.and_eq_true] at h
    rw [movedL, wellL, well_moved hc x h.1, wells_moved hc l h.2]; rfl
end
mutual
theorem well_bare {d : Bool} : ∀ x : Nd, wellN d x = true → wellN d (bareN x) = true
  | .mk k t n a l, h => by
    rw [wellN] at h
    simp only [Bool.and_eq_true, decide_eq_true_eq] at h
    rw [bareN, wellN, shape_of (b := a) (kinds_bare l) (places_bare l), h.1.1, wells_bare l h.2]
    rfl
theorem wells_bare {d : Bool} : ∀ l : List Nd, wellL d l = true → wellL d (bareL l) = true
  | [], _ => by rw [bareL, wellL]
  | x :: l, h => by
    rw [wellL] at h
    simp only [Bool.and_eq_true] at h
    rw [bareL, wellL, well_bare x h.1, wells_bare l h.2]; rfl
end
theorem right_moved {x : Nd} {c : Int} (hc : 0 ≤ c) (h : rightN x = true) : rightN (movedN c x) = true := by
  unfold rightN at h ⊢
  simp only [Bool.and_eq_true] at h
  rw [kind_moved, well_moved hc x h.1.1.2, deep_moved, size_moved, h.1.1.1, h.1.2, h.2]
  rfl
theorem right_bare {x : Nd} (h : rightN x = true) : rightN (bareN x) = true := by
  unfold rightN at h ⊢
  simp only [Bool.and_eq_true] at h
  rw [kind_bare, well_bare x h.1.1.2, deep_bare, size_bare, h.1.1.1, h.1.2, h.2]
  rfl
theorem right_deep {x : Nd} (h : rightN x = true) : deepN x ≤ 60 := by
  unfold rightN at h
  simp only [Bool.and_eq_true, decide_eq_true_eq] at h
  exact h.1.2
theorem wellL_iff {d : Bool} : ∀ {l : List Nd}, wellL d l = true ↔ ∀ x ∈ l, wellN d x = true
  | [] => by rw [wellL]; simp
  | x :: l => by rw [wellL, Bool.and_eq_true, wellL_iff]; simp
theorem deepL_le {m : Nat} : ∀ {l : List Nd}, deepL l ≤ m ↔ ∀ x ∈ l, deepN x ≤ m
  | [] => by rw [deepL]; simp
  | x :: l => by
    rw [deepL]
    have := deepL_le (m := m) (l := l)
    simp only [List.mem_cons, forall_eq_or_imp, ← this]
    omega
/-- fewer kids, or others in their stead -/
theorem right_sub {k : Nat} {t : ByteArray} {n a : Int} {l l' : List Nd} (h : rightN (.mk k t n a l) = true) (hs : ∀ x ∈ l', x ∈ l) (hz : sizeL l' ≤ sizeL l) : rightN (.mk k t n a l') = true := by
  unfold rightN at h ⊢
  rw [wellN, deepN, sizeN] at h ⊢
  simp only [Bool.and_eq_true, decide_eq_true_eq] at h ⊢
  obtain ⟨⟨⟨h1, ⟨h2, h2'⟩, h2''⟩, h3⟩, h4⟩ := h
  have hd : deepL l' ≤ deepL l := deepL_le.2 fun x hx => deepL_le.1 (Nat.le_refl _) x (hs x hx)
  refine ⟨⟨⟨h1, ⟨?_, h2'⟩, wellL_iff.2 fun x hx => wellL_iff.1 h2'' x (hs x hx)⟩, by omega⟩, by omega⟩
  have hall : ∀ p : Nat → Bool, (l.map Nd.kind).all p = true → (l'.map Nd.kind).all p = true := fun p hp => by
    rw [List.all_eq_true] at hp ⊢
    intro q hq
    obtain ⟨x, hx, rfl⟩ := List.mem_map.1 hq
    exact hp _ (List.mem_map_of_mem (hs x hx))
  have hk : k = 1 ∨ k = 9 := by simpa [Nd.kind] using h1
  rcases hk with rfl | rfl
  · unfold shapeB at h2 ⊢
    simp only [Nd.kind, Nd.text, Nd.num, Nd.kids, Bool.and_eq_true] at h2 ⊢
    exact ⟨h2.1, hall _ h2.2⟩
  · unfold shapeB at h2 ⊢
    simp only [Nd.kind, Nd.text, Nd.num, Nd.kids, Bool.and_eq_true] at h2 ⊢
    exact ⟨h2.1, hall _ h2.2⟩
theorem size_set : ∀ (l : List Nd) (i : Nat) (h : i < l.length) (y : Nd), sizeL (l.set i y) + sizeN l[i] = sizeL l + sizeN y
  | x :: l, 0, _, y => by simp [sizeL]; omega
  | x :: l, i + 1, h, y => by
    have := size_set l i (by simpa using h) y
    simp only [List.set_cons_succ, sizeL, List.getElem_cons_succ]; omega
theorem size_mem : ∀ {l : List Nd} {x : Nd}, x ∈ l → sizeN x ≤ sizeL l
  | y :: l, x, h => by
    rw [sizeL]
    rcases List.mem_cons.1 h with rfl | h
    · omega
    · have := size_mem h; omega
theorem size_append : ∀ l m : List Nd, sizeL (l ++ m) = sizeL l + sizeL m
  | [], m => by simp [sizeL]
  | x :: l, m => by simp [sizeL, size_append l m]; omega
/-- two changed about -/
def swapL (l : List Nd) (i k : Nat) (hi : i < l.length) (hk : k < l.length) : List Nd := (l.set i l[k]).set k l[i]
theorem right_swap {k : Nat} {t : ByteArray} {n a : Int} {l : List Nd} (h : rightN (.mk k t n a l) = true) (i j : Nat) (hi : i < l.length) (hj : j < l.length) : rightN (.mk k t n a (swapL l i j hi hj)) = true := by
  refine right_sub h (fun x hx => ?_) ?_
  · rcases List.mem_or_eq_of_mem_set hx with hx | rfl
    · rcases List.mem_or_eq_of_mem_set hx with hx | rfl
      · exact hx
      · exact List.getElem_mem hj
    · exact List.getElem_mem hi
  · unfold swapL
    have h1 := size_set l i hi l[j]
    have h2 := size_set (l.set i l[j]) j (by simpa using hj) l[i]
    have h3 : (l.set i l[j])[j]'(by simpa using hj) = l[j] := by
      rw [List.getElem_set]
      split
      · rfl
      · rfl
    rw [h3] at h2
    omega
theorem right_one {k : Nat} {t : ByteArray} {n a : Int} {l : List Nd} (h : rightN (.mk k t n a l) = true) (i : Nat) (hi : i < l.length) : rightN (.mk k t n a [l[i]]) = true := by
  refine right_sub h (fun x hx => ?_) ?_
  · rw [List.mem_singleton] at hx; rw [hx]; exact List.getElem_mem hi
  · have := size_mem (List.getElem_mem hi)
    simpa [sizeL] using this
/-- one left out -/
def lessL (l : List Nd) (i : Nat) : List Nd := l.take i ++ l.drop (i + 1)
theorem less_len {l : List Nd} {i : Nat} (hi : i < l.length) : (lessL l i).length = l.length - 1 := by
  unfold lessL; simp; omega
theorem right_less {k : Nat} {t : ByteArray} {n a : Int} {l : List Nd} (h : rightN (.mk k t n a l) = true) (i : Nat) : rightN (.mk k t n a (lessL l i)) = true := by
  refine right_sub h (fun x hx => ?_) ?_
  · rcases List.mem_append.1 hx with hx | hx
    · exact List.mem_of_mem_take hx
    · exact List.mem_of_mem_drop hx
  · have h1 := size_append (l.take (i + 1)) (l.drop (i + 1))
    rw [List.take_append_drop] at h1
    have h2 := size_append (l.take i) (l.drop (i + 1))
    have h3 : sizeL (l.take i) ≤ sizeL (l.take (i + 1)) := by
      rcases Nat.lt_or_ge i l.length with hi | hi
      · rw [List.take_succ_eq_append_getElem hi, size_append]; omega
      · rw [List.take_of_length_le hi, List.take_of_length_le (by omega)]; omega
    show sizeL (l.take i ++ l.drop (i + 1)) ≤ sizeL l
    omega
theorem same_lens : ∀ {l m : List Nd}, sameL l m = true → l.length = m.length
  | [], [], _ => rfl
  | x :: l, y :: m, h => by
    rw [sameL, Bool.and_eq_true] at h
    simp [same_lens h.2]
  | [], y :: m, h => by simp [sameL] at h
  | x :: l, [], h => by simp [sameL] at h
theorem same_less {k : Nat} {t : ByteArray} {n a : Int} {l : List Nd} {i : Nat} (hi : i < l.length) : sameN (.mk k t n a l) (.mk k t n a (lessL l i)) = false := by
  rw [sameN]
  cases hs : sameL l (lessL l i) with
  | false => simp
  | true => have := same_lens hs; rw [less_len hi] at this; omega
end Go.Proofs.Ytkjpdhnibfhaaaa.PartP
