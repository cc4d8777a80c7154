/- Data in memory: rows within rows, each row the call's own, no two in one block; data that is read alone. No function of a program. -/
import Derived.Test.YtelpkldlkpoioaaHeap
import Derived.Lib.Hide
namespace Go.Proofs.Ytelpkldlkpoioaa.Dat
open Go.RowKit Go.Proofs.Ytelpkldlkpoioaa.Heap

/-- data: what a cell holds, or a row of so many elements, each of so many cells -/
inductive Dat
  | lit (v : Value)
  | row (E : TypeId) (S n : Nat) (items : List Dat)

mutual
/-- a value is data whose rows are the call's own: their blocks -/
def Lies (w : World) (B : Nat) : Dat → Value → List Nat → Prop
  | .lit u, v, bs => v = u ∧ bs = []
  | .row E S n items, v, bs => items.length = n * S ∧ ((n = 0 ∧ v = .slice none 0 0 ∧ bs = []) ∨
      ∃ g cap xs bs', v = .slice (some ⟨g, 0, none⟩) n cap ∧ w.ownsRow B E S v n xs ∧ LiesL w B items xs bs' ∧ bs = g :: bs')
def LiesL (w : World) (B : Nat) : List Dat → List Value → List Nat → Prop
  | [], xs, bs => xs = [] ∧ bs = []
  | d :: ds, xs, bs => ∃ x xs' b1 b2, xs = x :: xs' ∧ bs = b1 ++ b2 ∧ Lies w B d x b1 ∧ LiesL w B ds xs' b2
end
mutual
/-- a value is read as data -/
def Reads (w : World) : Dat → Value → Prop
  | .lit u, v => v = u
  | .row _ S n items, v => items.length = n * S ∧ n ≤ maxLen ∧ ∃ a cap, v = .slice a n cap ∧ ((a = none ∧ n = 0 ∧ cap = 0) ∨ (∃ b o, a = some ⟨b, o, none⟩ ∧ ReadsL w b o items) ∨ ∃ ad, a = some ad ∧ n = 0)
def ReadsL (w : World) : Nat → Nat → List Dat → Prop
  | _, _, [] => True
  | b, o, d :: ds => (∃ u, w.cell? ⟨b, o, none⟩ = some u ∧ Reads w d u) ∧ ReadsL w b (o + 1) ds
end

theorem LiesL.nil {w : World} {B : Nat} {xs : List Value} {bs : List Nat} : LiesL w B [] xs bs ↔ xs = [] ∧ bs = [] := by unfold LiesL; exact Iff.rfl
theorem LiesL.cons {w : World} {B : Nat} {d : Dat} {ds : List Dat} {xs : List Value} {bs : List Nat} : LiesL w B (d :: ds) xs bs ↔ ∃ x xs' b1 b2, xs = x :: xs' ∧ bs = b1 ++ b2 ∧ Lies w B d x b1 ∧ LiesL w B ds xs' b2 := by
  conv => lhs; unfold LiesL
theorem Lies.lit_iff {w : World} {B : Nat} {u v : Value} {bs : List Nat} : Lies w B (.lit u) v bs ↔ v = u ∧ bs = [] := by unfold Lies; exact Iff.rfl
theorem Lies.row_iff {w : World} {B : Nat} {E : TypeId} {S n : Nat} {items : List Dat} {v : Value} {bs : List Nat} : Lies w B (.row E S n items) v bs ↔ items.length = n * S ∧ ((n = 0 ∧ v = .slice none 0 0 ∧ bs = []) ∨
      ∃ g cap xs bs', v = .slice (some ⟨g, 0, none⟩) n cap ∧ w.ownsRow B E S v n xs ∧ LiesL w B items xs bs' ∧ bs = g :: bs') := by
  conv => lhs; unfold Lies

theorem own_lt {w : World} {B E S n c g : Nat} {xs : List Value} (h : w.ownsRow B E S (.slice (some ⟨g, 0, none⟩) n c) n xs) : B ≤ g ∧ g < w.heap.size := h.lt g rfl

mutual
theorem Lies.lt {w : World} {B : Nat} : ∀ {d : Dat} {v : Value} {bs : List Nat}, Lies w B d v bs → ∀ b ∈ bs, B ≤ b ∧ b < w.heap.size
  | .lit u, v, bs, h, b, hb => by rw [Lies.lit_iff] at h; rw [h.2] at hb; cases hb
  | .row E S n items, v, bs, h, b, hb => by
    rw [Lies.row_iff] at h
    rcases h.2 with ⟨_, _, rfl⟩ | ⟨g, cap, xs, bs', rfl, ho, hl, rfl⟩
    · cases hb
    · rcases List.mem_cons.1 hb with rfl | hb
      · exact own_lt ho
      · exact LiesL.lt hl b hb
theorem LiesL.lt {w : World} {B : Nat} : ∀ {ds : List Dat} {xs : List Value} {bs : List Nat}, LiesL w B ds xs bs → ∀ b ∈ bs, B ≤ b ∧ b < w.heap.size
  | [], xs, bs, h, b, hb => by rw [LiesL.nil] at h; rw [h.2] at hb; cases hb
  | d :: ds, xs, bs, h, b, hb => by
    rw [LiesL.cons] at h
    obtain ⟨x, xs', b1, b2, _, rfl, h1, h2⟩ := h
    rcases List.mem_append.1 hb with hb | hb
    · exact Lies.lt h1 b hb
    · exact LiesL.lt h2 b hb
end
mutual
/-- what was written is none of its rows -/
theorem Lies.kept {w w' : World} {B : Nat} {r : Option Nat} (hg : w.grownBy w' r) : ∀ {d : Dat} {v : Value} {bs : List Nat}, Lies w B d v bs → (∀ b ∈ bs, some b ≠ r) → Lies w' B d v bs
  | .lit u, v, bs, h, _ => by rw [Lies.lit_iff] at h ⊢; exact h
  | .row E S n items, v, bs, h, hr => by
    rw [Lies.row_iff] at h ⊢
    refine ⟨h.1, h.2.imp id ?_⟩
    rintro ⟨g, cap, xs, bs', rfl, ho, hl, rfl⟩
    exact ⟨g, cap, xs, bs', rfl, ho.kept hg (.inr (hr g (List.mem_cons_self ..))), LiesL.kept hg hl fun b hb => hr b (List.mem_cons_of_mem _ hb), rfl⟩
theorem LiesL.kept {w w' : World} {B : Nat} {r : Option Nat} (hg : w.grownBy w' r) : ∀ {ds : List Dat} {xs : List Value} {bs : List Nat}, LiesL w B ds xs bs → (∀ b ∈ bs, some b ≠ r) → LiesL w' B ds xs bs
  | [], xs, bs, h, _ => by rw [LiesL.nil] at h ⊢; exact h
  | d :: ds, xs, bs, h, hr => by
    rw [LiesL.cons] at h ⊢
    obtain ⟨x, xs', b1, b2, rfl, rfl, h1, h2⟩ := h
    exact ⟨x, xs', b1, b2, rfl, rfl, Lies.kept hg h1 fun b hb => hr b (List.mem_append_left _ hb), LiesL.kept hg h2 fun b hb => hr b (List.mem_append_right _ hb)⟩
end
mutual
theorem Lies.base {w : World} {B B' : Nat} (hB : B' ≤ B) : ∀ {d : Dat} {v : Value} {bs : List Nat}, Lies w B d v bs → Lies w B' d v bs
  | .lit u, v, bs, h => by rw [Lies.lit_iff] at h ⊢; exact h
  | .row E S n items, v, bs, h => by
    rw [Lies.row_iff] at h ⊢
    refine ⟨h.1, h.2.imp id ?_⟩
    rintro ⟨g, cap, xs, bs', rfl, ho, hl, rfl⟩
    exact ⟨g, cap, xs, bs', rfl, Heap.own_base ho hB, LiesL.base hB hl, rfl⟩
theorem LiesL.base {w : World} {B B' : Nat} (hB : B' ≤ B) : ∀ {ds : List Dat} {xs : List Value} {bs : List Nat}, LiesL w B ds xs bs → LiesL w B' ds xs bs
  | [], xs, bs, h => by rw [LiesL.nil] at h ⊢; exact h
  | d :: ds, xs, bs, h => by
    rw [LiesL.cons] at h ⊢
    obtain ⟨x, xs', b1, b2, rfl, rfl, h1, h2⟩ := h
    exact ⟨x, xs', b1, b2, rfl, rfl, Lies.base hB h1, LiesL.base hB h2⟩
end
/-- what is old is as it was -/
theorem Lies.below {w w' : World} {B B' : Nat} {d : Dat} {v : Value} {bs : List Nat} (h : Lies w B d v bs) (hb : Below B' w w') (hlt : ∀ b ∈ bs, b < B') : Lies w' B d v bs := by
  have key : ∀ (d : Dat) (v : Value) (bs : List Nat), Lies w B d v bs → (∀ b ∈ bs, b < B') → Lies w' B d v bs := by
    intro d
    refine Dat.rec (motive_1 := fun d => ∀ v bs, Lies w B d v bs → (∀ b ∈ bs, b < B') → Lies w' B d v bs) (motive_2 := fun ds => ∀ xs bs, LiesL w B ds xs bs → (∀ b ∈ bs, b < B') → LiesL w' B ds xs bs) ?_ ?_ ?_ ?_ d
    · intro u v bs h _; rw [Lies.lit_iff] at h ⊢; exact h
    · intro E S n items ih v bs h hr
      rw [Lies.row_iff] at h ⊢
      refine ⟨h.1, h.2.imp id ?_⟩
      rintro ⟨g, cap, xs, bs', rfl, ho, hl, rfl⟩
      refine ⟨g, cap, xs, bs', rfl, Heap.own_below ho hb (fun k hk => ?_), ih _ _ hl fun b hb => hr b (List.mem_cons_of_mem _ hb), rfl⟩
      obtain rfl : g = k := by simpa [Value.ownBlock] using hk
      exact hr g (List.mem_cons_self ..)
    · intro xs bs h _; rw [LiesL.nil] at h ⊢; exact h
    · intro d ds ih1 ih2 xs bs h hr
      rw [LiesL.cons] at h ⊢
      obtain ⟨x, xs', b1, b2, rfl, rfl, h1, h2⟩ := h
      exact ⟨x, xs', b1, b2, rfl, rfl, ih1 _ _ h1 fun b hb => hr b (List.mem_append_left _ hb), ih2 _ _ h2 fun b hb => hr b (List.mem_append_right _ hb)⟩
  exact key d v bs h hlt
theorem Lies.new {w w' : World} {B : Nat} {d : Dat} {v : Value} {bs : List Nat} (h : Lies w B d v bs) (hb : Below w.heap.size w w') : Lies w' B d v bs := h.below hb fun b hm => (Lies.lt h b hm).2
theorem LiesL.below {w w' : World} {B B' : Nat} (hb : Below B' w w') : ∀ {ds : List Dat} {xs : List Value} {bs : List Nat}, LiesL w B ds xs bs → (∀ b ∈ bs, b < B') → LiesL w' B ds xs bs
  | [], xs, bs, h, _ => by rw [LiesL.nil] at h ⊢; exact h
  | d :: ds, xs, bs, h, hr => by
    rw [LiesL.cons] at h ⊢
    obtain ⟨x, xs', b1, b2, rfl, rfl, h1, h2⟩ := h
    exact ⟨x, xs', b1, b2, rfl, rfl, h1.below hb fun b hb => hr b (List.mem_append_left _ hb), LiesL.below hb h2 fun b hb => hr b (List.mem_append_right _ hb)⟩
theorem LiesL.new {w w' : World} {B : Nat} {ds : List Dat} {xs : List Value} {bs : List Nat} (h : LiesL w B ds xs bs) (hb : Below w.heap.size w w') : LiesL w' B ds xs bs := LiesL.below hb h fun b hm => (LiesL.lt h b hm).2
theorem Lies.nil (w : World) (B E S : Nat) : Lies w B (.row E S 0 []) (.slice none 0 0) [] := by rw [Lies.row_iff]; exact ⟨by simp, .inl ⟨rfl, rfl, rfl⟩⟩
theorem Lies.lit (w : World) (B : Nat) (u : Value) : Lies w B (.lit u) u [] := by rw [Lies.lit_iff]; exact ⟨rfl, rfl⟩
/-- for the law of append: the cells of a row -/
theorem Lies.own {w : World} {B : Nat} {E : TypeId} {S n : Nat} {items : List Dat} {v : Value} {bs : List Nat} (h : Lies w B (.row E S n items) v bs) :
    ∃ xs bs', w.ownsRow B E S v n xs ∧ LiesL w B items xs bs' ∧ (v.ownBlock = none ∧ bs = [] ∧ bs' = [] ∨ ∃ g, v.ownBlock = some g ∧ bs = g :: bs') ∧ items.length = n * S := by
  rw [Lies.row_iff] at h
  rcases h.2 with ⟨rfl, rfl, rfl⟩ | ⟨g, cap, xs, bs', rfl, ho, hl, rfl⟩
  · obtain rfl : items = [] := List.eq_nil_of_length_eq_zero (by rw [h.1]; simp)
    exact ⟨[], [], World.ownsRow_nil _ _ _ _, LiesL.nil.2 ⟨rfl, rfl⟩, .inl ⟨rfl, rfl, rfl⟩, by simp⟩
  · exact ⟨xs, bs', ho, hl, .inr ⟨g, rfl, rfl⟩, h.1⟩
theorem LiesL.append {w : World} {B : Nat} : ∀ {ds es : List Dat} {xs ys : List Value} {b1 b2 : List Nat}, LiesL w B ds xs b1 → LiesL w B es ys b2 → LiesL w B (ds ++ es) (xs ++ ys) (b1 ++ b2)
  | [], es, xs, ys, b1, b2, h, k => by rw [LiesL.nil] at h; rw [h.1, h.2]; exact k
  | d :: ds, es, xs, ys, b1, b2, h, k => by
    rw [LiesL.cons] at h
    obtain ⟨x, xs', c1, c2, rfl, rfl, h1, h2⟩ := h
    show LiesL w B (d :: (ds ++ es)) _ _
    rw [LiesL.cons]
    exact ⟨x, xs' ++ ys, c1, c2 ++ b2, by simp, by simp, h1, LiesL.append h2 k⟩
theorem LiesL.one {w : World} {B : Nat} {d : Dat} {x : Value} {b : List Nat} (h : Lies w B d x b) : LiesL w B [d] [x] b := by
  rw [LiesL.cons]; exact ⟨x, [], b, [], rfl, by simp, h, LiesL.nil.2 ⟨rfl, rfl⟩⟩
theorem LiesL.more {w : World} {B : Nat} {d : Dat} {ds : List Dat} {x : Value} {xs : List Value} {b1 b2 : List Nat} (h : Lies w B d x b1) (k : LiesL w B ds xs b2) : LiesL w B (d :: ds) (x :: xs) (b1 ++ b2) := by
  rw [LiesL.cons]; exact ⟨x, xs, b1, b2, rfl, rfl, h, k⟩
theorem LiesL.lit {w : World} {B : Nat} {u : Value} {ds : List Dat} {xs : List Value} {b2 : List Nat} (k : LiesL w B ds xs b2) : LiesL w B (.lit u :: ds) (u :: xs) b2 := LiesL.more (Lies.lit w B u) k
theorem LiesL.len {w : World} {B : Nat} : ∀ {ds : List Dat} {xs : List Value} {bs : List Nat}, LiesL w B ds xs bs → xs.length = ds.length
  | [], xs, bs, h => by rw [LiesL.nil] at h; rw [h.1]; rfl
  | d :: ds, xs, bs, h => by
    rw [LiesL.cons] at h
    obtain ⟨x, xs', b1, b2, rfl, rfl, h1, h2⟩ := h
    simp [LiesL.len h2]
/-- AN APPEND of one element, whose cells lie apart from the row -/
theorem Lies.snoc {w w' : World} {B : Nat} {E : TypeId} {S n : Nat} {items ds : List Dat} {v : Value} {bs bs' b2 : List Nat} {xs us : List Value} {g cap : Nat}
    (hl : LiesL w B items xs bs') (hi : items.length = n * S) (hd : LiesL w B ds us b2) (hs : ds.length = S) (hbs : v.ownBlock = none ∧ bs = [] ∧ bs' = [] ∨ ∃ g, v.ownBlock = some g ∧ bs = g :: bs') (hnd : (bs ++ b2).Nodup)
    (ho : w'.ownsRow B E S (.slice (some ⟨g, 0, none⟩) (n + 1) cap) (n + 1) (xs ++ us)) (hg : w.grownBy w' v.ownBlock) (hat : v.ownBlock = some g ∨ g = w.heap.size) :
    Lies w' B (.row E S (n + 1) (items ++ ds)) (.slice (some ⟨g, 0, none⟩) (n + 1) cap) (g :: (bs' ++ b2)) ∧ (g :: (bs' ++ b2)).Nodup ∧ (∀ b ∈ g :: (bs' ++ b2), b ∈ bs ++ b2 ∨ b = w.heap.size) := by
  have hne : ∀ b ∈ bs' ++ b2, some b ≠ v.ownBlock := by
    intro b hb e
    rcases hbs with ⟨h0, _, _⟩ | ⟨r, hr, rfl⟩
    · rw [h0] at e; cases e
    · rw [hr] at e
      have hbr : b = r := Option.some.inj e
      have := (List.nodup_cons.1 (show (r :: (bs' ++ b2)).Nodup by simpa using hnd)).1
      exact this (hbr ▸ hb)
  have hl' := LiesL.kept hg hl fun b hb => hne b (List.mem_append_left _ hb)
  have hd' := LiesL.kept hg hd fun b hb => hne b (List.mem_append_right _ hb)
  have hold : ∀ b ∈ bs' ++ b2, b < w.heap.size := fun b hb => by
    rcases List.mem_append.1 hb with hb | hb
    · exact (LiesL.lt hl b hb).2
    · exact (LiesL.lt hd b hb).2
  have hnd' : (bs' ++ b2).Nodup := by
    rcases hbs with ⟨_, rfl, rfl⟩ | ⟨r, hr, rfl⟩
    · exact hnd
    · exact (List.nodup_cons.1 (show (r :: (bs' ++ b2)).Nodup by simpa using hnd)).2
  refine ⟨?_, List.nodup_cons.2 ⟨fun hm => ?_, hnd'⟩, fun b hb => ?_⟩
  · rw [Lies.row_iff]
    exact ⟨by rw [List.length_append, hi, hs, Nat.succ_mul], .inr ⟨g, cap, xs ++ us, bs' ++ b2, rfl, ho, hl'.append hd', rfl⟩⟩
  · rcases hat with hat | hat
    · exact hne g hm hat.symm
    · have := hold g hm; omega
  · rcases List.mem_cons.1 hb with rfl | hb
    · rcases hat with hat | hat
      · left
        rcases hbs with ⟨h0, _, _⟩ | ⟨r, hr, rfl⟩
        · rw [h0] at hat; cases hat
        · rw [hr] at hat; cases hat; simp
      · exact .inr hat
    · left
      rcases hbs with ⟨_, rfl, rfl⟩ | ⟨r, hr, rfl⟩
      · exact hb
      · simp only [List.cons_append]; exact List.mem_cons_of_mem _ hb

/-! reading -/
theorem ReadsL.nil {w : World} {b o : Nat} : ReadsL w b o [] ↔ True := by unfold ReadsL; exact Iff.rfl
theorem ReadsL.cons {w : World} {b o : Nat} {d : Dat} {ds : List Dat} : ReadsL w b o (d :: ds) ↔ (∃ u, w.cell? ⟨b, o, none⟩ = some u ∧ Reads w d u) ∧ ReadsL w b (o + 1) ds := by conv => lhs; unfold ReadsL
theorem Reads.lit_iff {w : World} {u v : Value} : Reads w (.lit u) v ↔ v = u := by unfold Reads; exact Iff.rfl
theorem Reads.row_iff {w : World} {E : TypeId} {S n : Nat} {items : List Dat} {v : Value} : Reads w (.row E S n items) v ↔ items.length = n * S ∧ n ≤ maxLen ∧ ∃ a cap, v = .slice a n cap ∧ ((a = none ∧ n = 0 ∧ cap = 0) ∨ (∃ b o, a = some ⟨b, o, none⟩ ∧ ReadsL w b o items) ∨ ∃ ad, a = some ad ∧ n = 0) := by conv => lhs; unfold Reads
theorem ReadsL.get {w : World} {b : Nat} : ∀ {ds : List Dat} {o k : Nat} {d : Dat}, ReadsL w b o ds → ds[k]? = some d → ∃ u, w.cell? ⟨b, o + k, none⟩ = some u ∧ Reads w d u
  | [], o, k, d, _, hk => by simp at hk
  | e :: ds, o, 0, d, h, hk => by
    rw [ReadsL.cons] at h
    have : e = d := by simpa using hk
    subst this
    exact h.1
  | e :: ds, o, k + 1, d, h, hk => by
    rw [ReadsL.cons] at h
    have := ReadsL.get (k := k) h.2 (by simpa using hk)
    rwa [show o + 1 + k = o + (k + 1) by omega] at this
theorem ReadsL.drop {w : World} {b : Nat} : ∀ {ds : List Dat} {o : Nat} (k : Nat), ReadsL w b o ds → ReadsL w b (o + k) (ds.drop k)
  | ds, o, 0, h => by simpa using h
  | [], o, k + 1, h => by simp [ReadsL.nil]
  | e :: ds, o, k + 1, h => by
    rw [ReadsL.cons] at h
    have := ReadsL.drop (o := o + 1) k h.2
    rw [show o + 1 + k = o + (k + 1) by omega] at this
    simpa using this
mutual
theorem Reads.below {w w' : World} (hb : Below w.heap.size w w') : ∀ {d : Dat} {v : Value}, Reads w d v → Reads w' d v
  | .lit u, v, h => by rw [Reads.lit_iff] at h ⊢; exact h
  | .row E S n items, v, h => by
    rw [Reads.row_iff] at h ⊢
    obtain ⟨h1, h0, a, cap, rfl, h2⟩ := h
    refine ⟨h1, h0, a, cap, rfl, h2.imp id fun h2 => h2.imp ?_ id⟩
    rintro ⟨b, o, rfl, h3⟩
    exact ⟨b, o, rfl, ReadsL.below hb h3⟩
theorem ReadsL.below {w w' : World} (hb : Below w.heap.size w w') : ∀ {ds : List Dat} {b o : Nat}, ReadsL w b o ds → ReadsL w' b o ds
  | [], b, o, _ => by rw [ReadsL.nil]; trivial
  | d :: ds, b, o, h => by
    rw [ReadsL.cons] at h ⊢
    obtain ⟨⟨u, hu, hr⟩, h2⟩ := h
    exact ⟨⟨u, (hb.cell (p := ⟨b, o, none⟩) (World.block_lt_of_cell? _ _ hu)).trans hu, Reads.below hb hr⟩, ReadsL.below hb h2⟩
end
theorem own_len {w : World} {B : Nat} {E : TypeId} {S n : Nat} {v : Value} {xs : List Value} (h : w.ownsRow B E S v n xs) : n ≤ maxLen := by
  rcases h.2 with ⟨_, rfl⟩ | ⟨g, cap, cur, _, _, _, h1, h2, _⟩
  · exact Nat.zero_le _
  · exact Nat.le_trans h1 h2
mutual
/-- what lies is read -/
theorem Lies.reads {w : World} {B : Nat} : ∀ {d : Dat} {v : Value} {bs : List Nat}, Lies w B d v bs → Reads w d v
  | .lit u, v, bs, h => by rw [Lies.lit_iff] at h; rw [Reads.lit_iff]; exact h.1
  | .row E S n items, v, bs, h => by
    rw [Lies.row_iff] at h
    rw [Reads.row_iff]
    refine ⟨h.1, ?_⟩
    rcases h.2 with ⟨rfl, rfl, rfl⟩ | ⟨g, cap, xs, bs', rfl, ho, hl, rfl⟩
    · exact ⟨Nat.zero_le _, none, 0, rfl, .inl ⟨rfl, rfl, rfl⟩⟩
    · refine ⟨own_len ho, some ⟨g, 0, none⟩, cap, rfl, .inr (.inl ⟨g, 0, rfl, LiesL.reads hl fun k u hu => ?_⟩)⟩
      have hk : k < n * S := by rw [← ho.1]; exact (List.getElem?_eq_some_iff.1 hu).1
      rw [Nat.zero_add, ho.cellAt k hk]; exact hu
theorem LiesL.reads {w : World} {B : Nat} : ∀ {ds : List Dat} {xs : List Value} {bs : List Nat} {b o : Nat}, LiesL w B ds xs bs → (∀ k u, xs[k]? = some u → w.cell? ⟨b, o + k, none⟩ = some u) → ReadsL w b o ds
  | [], xs, bs, b, o, _, _ => by rw [ReadsL.nil]; trivial
  | d :: ds, xs, bs, b, o, h, hc => by
    rw [LiesL.cons] at h
    obtain ⟨x, xs', b1, b2, rfl, rfl, h1, h2⟩ := h
    rw [ReadsL.cons]
    refine ⟨⟨x, by have := hc 0 x rfl; simpa using this, Lies.reads h1⟩, LiesL.reads h2 fun k u hu => ?_⟩
    have := hc (k + 1) u (by simpa using hu)
    rwa [show o + (k + 1) = o + 1 + k by omega] at this
end
end Go.Proofs.Ytelpkldlkpoioaa.Dat
