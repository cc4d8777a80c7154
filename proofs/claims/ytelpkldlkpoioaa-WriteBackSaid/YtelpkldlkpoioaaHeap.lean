/- Rows of the call's own in memory: an append that says whether the row was shared; parts of rows; rows that lie apart. -/
import Derived.Deep.AppendLies
import Derived.Laws.OwnMore
import Derived.Below
import Derived.WalkKit
import Derived.Deep.QuietTactic
import Derived.BigQuiet
namespace Go.Proofs.Ytelpkldlkpoioaa.Heap
open Go.RowKit

/-- one value is the other's row, grown: the same block, the same room; or it lies in a new block, and nothing else is written -/
def Grew (w w' : World) (v v' : Value) (n' : Nat) : Prop :=
  (∃ g n cap, v = .slice (some ⟨g, 0, none⟩) n cap ∧ v' = .slice (some ⟨g, 0, none⟩) n' cap) ∨ (∃ g cap, v' = .slice (some ⟨g, 0, none⟩) n' cap ∧ w.heap.size ≤ g ∧ w.grownBy w' none)

section
variable {P : Program} (w : World)
/-- an append, and whether the row was shared -/
theorem run_append_grew (base : Nat) (t ty e : TypeId) (i : TypeInfo) (z : Value) (size bytes : Nat) (ht : P.underlying t = some (.slice e)) (hi : P.info? e = some i) (hz : i.zero = some z)
    (hsize : i.size = size) (hby : i.bytes = bytes) (hzs : z.cells.size = size) (hsz : 0 < size)
    (v : Value) (n : Nat) (xs : List Value) (hown : w.ownsRow base e size v n xs)
    (a : Addr) (m c : Nat) (news : List Value) (hl : news.length = m * size) (hnews : ∀ j u, news[j]? = some u → w.cell? (a.add j) = some u) (h1 : ∀ u ∈ news, u.oneCell' = true)
    (hm : 0 < m) (h63 : n + m ≤ maxLen) (hbytes : (n + m) * bytes ≤ 140737488355328) (hbase : base ≤ w.heap.size) :
    ∃ v' w', (Builtin.append_ #[t, t] ty #[v, .slice (some a) m c]).run P w = .ok v' w' ∧ w'.ownsRow base e size v' (n + m) (xs ++ news) ∧ w.grownBy w' v.ownBlock ∧
      Grew w w' v v' (n + m) := by
  by_cases hroom : ∃ g cap, v = .slice (some ⟨g, 0, none⟩) n cap ∧ n + m ≤ cap
  · obtain ⟨g, cap, rfl, hr⟩ := hroom
    subst hsize
    have hlen : (xs ++ news).length = (n + m) * i.size := by rw [List.length_append, hown.1, hl, Nat.add_mul]
    rcases hown.2 with ⟨h0, _⟩ | ⟨g', cap', cur, hv, hbg, hg, hnc, hcm, hcs, htake⟩
    · cases h0
    · cases hv
      have hfit : n * i.size + news.length ≤ cur.size := by rw [hl, hcs, ← Nat.add_mul]; exact Nat.mul_le_mul_right _ hr
      have hrun := run_append_room (P := P) w t ty e i ht hi g n cap cur hg a m c news hl hnews h1 hr hfit
      refine ⟨_, _, hrun, ⟨hlen, .inr ⟨g, cap, _, rfl, hbg, setRow_heap w g cur _ e _ hg, hr, hcm, ?_, ?_⟩⟩, ⟨rfl, rfl, rfl, by simp, fun k _ hk => setRow_other w g k _ (fun e => hk (by simp [Value.ownBlock, e]))⟩, .inl ⟨g, n, cap, rfl, rfl⟩⟩
      · simp only [List.size_toArray, List.length_append, List.length_take, List.length_drop, Array.length_toList]
        omega
      · rw [htake, ← hlen]
        exact List.take_left
  · subst hsize
    subst hby
    have hsmall : n + m ≤ 9223372036854775807 := by simp only [maxLen] at h63; omega
    have hlen : (xs ++ news).length = (n + m) * i.size := by rw [List.length_append, hown.1, hl, Nat.add_mul]
    have grown : ∀ (old : Nat), old < n + m → ∀ (row : Option Nat),
        (w.drew.alloc (.cells (xs.toArray ++ news.toArray ++ Builtin.zeroCells z.cells (grownCap w (n + m) old e - (n + m))) e)).ownsRow base e i.size
          (.slice (some ⟨w.heap.size, 0, none⟩) (n + m) (grownCap w (n + m) old e)) (n + m) (xs ++ news) ∧
        w.grownBy (w.drew.alloc (.cells (xs.toArray ++ news.toArray ++ Builtin.zeroCells z.cells (grownCap w (n + m) old e - (n + m))) e)) row := by
      intro old ho row
      have hge := grownCap_ge w (n + m) old e
      have hcm : grownCap w (n + m) old e ≤ maxLen := grownCap_le_maxLen w (n + m) old e h63
      refine ⟨⟨hlen, .inr ⟨w.heap.size, _, _, rfl, hbase, heap_alloc_new w.drew _, hge, hcm, ?_, ?_⟩⟩, ⟨rfl, rfl, rfl, by simp, fun k hk _ => Below.heap_alloc w.drew _ k hk⟩⟩
      · simp only [Array.size_append, List.size_toArray, size_zeroCells, hzs, hown.1, hl, ← Nat.add_mul]
        congr 1
        omega
      · simp only [Array.toList_append, List.append_assoc]
        rw [← List.append_assoc, ← hlen]
        exact List.take_left
    rcases hown.2 with ⟨rfl, rfl⟩ | ⟨g, cap, cur, rfl, hbg, hg, hnc, hcm, hcs, htake⟩
    · have hx : xs = [] := List.eq_nil_of_length_eq_zero (by simpa using hown.1)
      subst hx
      have hr := run_append_nil (P := P) w t ty e i z ht hi hz a m c news hl hnews (by omega) (by omega) (by have hb := hbytes; simp only [Nat.zero_add] at hb; omega)
      have hgr := grown 0 (by omega) (Value.ownBlock (.slice none 0 0))
      have hgn := (grown 0 (by omega) none).2
      simp only [Nat.zero_add, List.nil_append, Array.empty_append] at hgr hgn ⊢
      exact ⟨_, _, hr, hgr.1, hgr.2, .inr ⟨_, _, rfl, Nat.le_refl _, hgn⟩⟩
    · have hnr : ¬ (n + m ≤ cap) := fun h => hroom ⟨g, cap, rfl, h⟩
      have holds : ∀ j u, xs[j]? = some u → w.cell? ((⟨g, 0, none⟩ : Addr).add j) = some u := hown.cells (g := g) rfl
      have hr := run_append_grow (P := P) w t ty e i z ht hi hz ⟨g, 0, none⟩ n cap xs hown.1 holds a m c news hl hnews (by omega) (by omega) (growslice_fits (by omega) hbytes)
      have hgr := grown cap (by omega) (Value.ownBlock (.slice (some ⟨g, 0, none⟩) n cap))
      exact ⟨_, _, hr, hgr.1, hgr.2, .inr ⟨_, _, rfl, Nat.le_refl _, (grown cap (by omega) none).2⟩⟩

theorem wp_append_grew {o : Oper} {a : Act} {K : Act → World → Prop} {Q : Exit → Act → World → Prop} (s x : Operand) (t : TypeId)
    (ho : o.op = .call { callee := .builtin .append, args := #[s, x], argTypes := #[t, t] })
    (base : Nat) (e : TypeId) (i : TypeInfo) (z : Value) (size bytes : Nat) (ht : P.underlying t = some (.slice e)) (hi : P.info? e = some i) (hz : i.zero = some z)
    (hsize : i.size = size) (hby : i.bytes = bytes) (hzs : z.cells.size = size) (hsz : 0 < size)
    (v : Value) (n : Nat) (xs : List Value) (hs : a.eval s = v) (hown : w.ownsRow base e size v n xs)
    (ad : Addr) (m c : Nat) (news : List Value) (hx : a.eval x = .slice (some ad) m c) (hl : news.length = m * size) (hnews : ∀ j u, news[j]? = some u → w.cell? (ad.add j) = some u) (h1 : ∀ u ∈ news, u.oneCell' = true)
    (hm : 0 < m) (h63 : n + m ≤ maxLen) (hbytes : (n + m) * bytes ≤ 140737488355328) (hbase : base ≤ w.heap.size)
    (h : ∀ v' w', w'.ownsRow base e size v' (n + m) (xs ++ news) → w.grownBy w' v.ownBlock → Grew w w' v v' (n + m) → K (a.put o.dst v') w') : o.wp P a w K Q := by
  obtain ⟨v', w', hr, h2, h3, h4⟩ := run_append_grew (P := P) w base t o.type e i z size bytes ht hi hz hsize hby hzs hsz v n xs hown ad m c news hl hnews h1 hm h63 hbytes hbase
  unfold Oper.wp execOp
  simp only [ho, resolve, invoke, builtin, Sem.run_bind, Sem.run_pure, Result.andThen_ok, List.map_toArray, List.map_cons, List.map_nil, hs, hx, hr]
  exact h v' w' h2 h3 h4

theorem wpList_append_grew {ops : Array Oper} {rest : List Oper} {o : Oper} {a : Act} {Q : Exit → Act → World → Prop} (hgd : o.guard = none) (s x : Operand) (t : TypeId)
    (ho : o.op = .call { callee := .builtin .append, args := #[s, x], argTypes := #[t, t] })
    (base : Nat) (e : TypeId) (i : TypeInfo) (z : Value) (size bytes : Nat) (ht : P.underlying t = some (.slice e)) (hi : P.info? e = some i) (hz : i.zero = some z)
    (hsize : i.size = size) (hby : i.bytes = bytes) (hzs : z.cells.size = size) (hsz : 0 < size)
    (v : Value) (n : Nat) (xs : List Value) (hs : a.eval s = v) (hown : w.ownsRow base e size v n xs)
    (ad : Addr) (m c : Nat) (news : List Value) (hx : a.eval x = .slice (some ad) m c) (hl : news.length = m * size) (hnews : ∀ j u, news[j]? = some u → w.cell? (ad.add j) = some u) (h1 : ∀ u ∈ news, u.oneCell' = true)
    (hm : 0 < m) (h63 : n + m ≤ maxLen) (hbytes : (n + m) * bytes ≤ 140737488355328) (hbase : base ≤ w.heap.size)
    (h : ∀ v' w', w'.ownsRow base e size v' (n + m) (xs ++ news) → w.grownBy w' v.ownBlock → Grew w w' v v' (n + m) → wpList P ops Q rest (a.put o.dst v') w') : wpList P ops Q (o :: rest) a w :=
  wpList_plain hgd fun _ hK => wp_append_grew w s x t ho base e i z size bytes ht hi hz hsize hby hzs hsz v n xs hs hown ad m c news hx hl hnews h1 hm h63 hbytes hbase fun v' w' h2 h3 h4 => hK _ _ (h v' w' h2 h3 h4)
end

section
variable {w : World} {base : Nat} {e : TypeId} {size : Nat} {v v' : Value} {n n' : Nat} {xs ys : List Value}
/-- a row whose elder part is another value's -/
theorem own_part {g cap : Nat} (h : w.ownsRow base e size (.slice (some ⟨g, 0, none⟩) n' cap) n' xs) (hn : n ≤ n') : w.ownsRow base e size (.slice (some ⟨g, 0, none⟩) n cap) n (xs.take (n * size)) := by
  rcases h.2 with ⟨h0, _⟩ | ⟨g', cap', cur, hv, hbg, hg, hnc, hcm, hcs, htake⟩
  · cases h0
  · cases hv
    have hle : n * size ≤ n' * size := Nat.mul_le_mul_right _ hn
    refine ⟨by rw [List.length_take, h.1]; omega, .inr ⟨g, cap, cur, rfl, hbg, hg, Nat.le_trans hn hnc, hcm, hcs, ?_⟩⟩
    rw [← htake, List.take_take, Nat.min_eq_left hle]
theorem own_base {base' : Nat} (h : w.ownsRow base e size v n xs) (hb : base' ≤ base) : w.ownsRow base' e size v n xs :=
  ⟨h.1, h.2.imp id fun ⟨g, cap, cur, hv, hg, r⟩ => ⟨g, cap, cur, hv, Nat.le_trans hb hg, r⟩⟩
theorem own_below {w' : World} {B : Nat} (h : w.ownsRow base e size v n xs) (hb : Below B w w') (hlt : ∀ k, v.ownBlock = some k → k < B) : w'.ownsRow base e size v n xs := by
  refine ⟨h.1, h.2.imp id fun ⟨g, cap, cur, hv, hg, hh, r⟩ => ⟨g, cap, cur, hv, hg, ?_, r⟩⟩
  rw [hb.block g (hlt g (by rw [hv]; rfl))]; exact hh
theorem own_new {w' : World} (h : w.ownsRow base e size v n xs) (hb : Below w.heap.size w w') : w'.ownsRow base e size v n xs :=
  own_below h hb fun k hk => (h.lt k hk).2
theorem own_far {w' : World} {row : Option Nat} (h : w.ownsRow base e size v n xs) (hg : w.grownBy w' row) (hne : v.ownBlock = none ∨ v.ownBlock ≠ row) : w'.ownsRow base e size v n xs := h.kept hg hne
end

theorem grown_trans {w w1 w2 : World} {r : Option Nat} (h : w.grownBy w1 r) (k : w1.grownBy w2 r) : w.grownBy w2 r :=
  ⟨k.os.trans h.os, k.tape.trans h.tape, k.output.trans h.output, Nat.le_trans h.size k.size, fun i hi hr => (k.block i (Nat.lt_of_lt_of_le hi h.size) hr).trans (h.block i hi hr)⟩
theorem grown_refl (w : World) (r : Option Nat) : w.grownBy w r := ⟨rfl, rfl, rfl, Nat.le_refl _, fun _ _ _ => rfl⟩
theorem grown_none {w w' : World} (h : w.grownBy w' none) (r : Option Nat) : w.grownBy w' r := ⟨h.os, h.tape, h.output, h.size, fun i hi _ => h.block i hi (by simp)⟩
theorem grown_below {w w' : World} (h : Below w.heap.size w w') (r : Option Nat) : w.grownBy w' r := ⟨h.os, h.tape, h.output, h.size, fun i hi _ => h.block i hi⟩
/-- what is written is new -/
theorem grown_new {w w1 w2 : World} {r : Option Nat} {k : Nat} (h : w.grownBy w1 r) (g : w1.grownBy w2 (some k)) (hk : w.heap.size ≤ k) : w.grownBy w2 r :=
  ⟨g.os.trans h.os, g.tape.trans h.tape, g.output.trans h.output, Nat.le_trans h.size g.size, fun i hi hr => (g.block i (Nat.lt_of_lt_of_le hi h.size) (by simp; omega)).trans (h.block i hi hr)⟩
theorem below_grown {w w' : World} {B : Nat} {r : Option Nat} (h : w.grownBy w' r) (hB : B ≤ w.heap.size) (hr : ∀ k, r = some k → B ≤ k) : Below B w w' :=
  ⟨h.os, h.tape, h.output, h.size, fun k hk => h.block k (by omega) (fun e => by have := hr k e.symm; omega)⟩

/-- a list's block -/
def bl (A : Option Addr) : Option Nat := A.map (·.block)
theorem bl_own (a : Option Addr) (n c : Nat) : (Value.slice a n c).ownBlock = bl a := by cases a <;> rfl
theorem own_addr {w : World} {base e size : Nat} {a : Option Addr} {n c : Nat} {xs : List Value} (h : w.ownsRow base e size (.slice a n c) n xs) (hn : 0 < n) : ∃ g, a = some ⟨g, 0, none⟩ := by
  rcases h.2 with ⟨_, h0⟩ | ⟨g, cap, cur, hv, _⟩
  · omega
  · cases hv; exact ⟨g, rfl⟩
theorem own_cap {w : World} {base e size : Nat} {a : Option Addr} {n c : Nat} {xs : List Value} (h : w.ownsRow base e size (.slice a n c) n xs) : n ≤ c := by
  rcases h.2 with ⟨h0, _⟩ | ⟨g, cap, cur, hv, _, _, h1, _⟩
  · cases h0; omega
  · cases hv; exact h1

/-- LISTS THAT LIE APART: row L names K lists, each the call's own; none is L, no two are one -/
structure LS (E S : Nat) (w : World) (B L K : Nat) (A : Nat → Option Addr) (n C : Nat → Nat) (X : Nat → List Value) : Prop where
  row : ∀ k, k < K → w.cell? ⟨L, k, none⟩ = some (.slice (A k) (n k) (C k))
  own : ∀ k, k < K → w.ownsRow B E S (.slice (A k) (n k) (C k)) (n k) (X k)
  neL : ∀ k, k < K → bl (A k) ≠ some L
  ap : ∀ j k, j < K → k < K → j ≠ k → bl (A j) = none ∨ bl (A j) ≠ bl (A k)
  lt : L < w.heap.size
  le : B ≤ L

section
variable {E S : Nat} {w w' : World} {B L K : Nat} {A : Nat → Option Addr} {n C : Nat → Nat} {X : Nat → List Value}
theorem LS.ne_lt (h : LS E S w B L K A n C X) {k b : Nat} (hk : k < K) (hb : bl (A k) = some b) : B ≤ b ∧ b < w.heap.size :=
  (h.own k hk).lt b (by rw [bl_own]; exact hb)
/-- list k was written, and nothing else -/
theorem LS.step (h : LS E S w B L K A n C X) {k : Nat} (hk : k < K) (hg : w.grownBy w' (bl (A k))) {Y : List Value} (ho : w'.ownsRow B E S (.slice (A k) (n k) (C k)) (n k) Y) :
    LS E S w' B L K A n C (fun j => if j = k then Y else X j) where
  row j hj := (World.cell?_of_block (a := ⟨L, j, none⟩) (hg.block L h.lt (Ne.symm (h.neL k hk)))).trans (h.row j hj)
  own j hj := by
    by_cases e : j = k
    · subst e; simpa using ho
    · rw [if_neg e]
      exact (h.own j hj).kept hg (by rw [bl_own]; exact h.ap j k hj hk e)
  neL := h.neL
  ap := h.ap
  lt := Nat.lt_of_lt_of_le h.lt hg.size
  le := h.le
theorem LS.far (h : LS E S w B L K A n C X) {r : Option Nat} (hg : w.grownBy w' r) (hL : some L ≠ r) (hr : ∀ k, k < K → bl (A k) = none ∨ bl (A k) ≠ r) : LS E S w' B L K A n C X where
  row j hj := (World.cell?_of_block (a := ⟨L, j, none⟩) (hg.block L h.lt hL)).trans (h.row j hj)
  own j hj := (h.own j hj).kept hg (by rw [bl_own]; exact hr j hj)
  neL := h.neL
  ap := h.ap
  lt := Nat.lt_of_lt_of_le h.lt hg.size
  le := h.le
theorem LS.none (h : LS E S w B L K A n C X) (hg : w.grownBy w' none) : LS E S w' B L K A n C X :=
  h.far hg (by simp) fun k _ => by cases bl (A k) <;> simp
theorem LS.congr (h : LS E S w B L K A n C X) {Y : Nat → List Value} (hXY : ∀ k, k < K → X k = Y k) : LS E S w B L K A n C Y :=
  { h with own := fun k hk => hXY k hk ▸ h.own k hk }

/-- THE LISTS GROWN: row G names for each j below m a list that has grown out of list j, or is new -/
structure GS (E S T : Nat) (w : World) (B K : Nat) (A : Nat → Option Addr) (G m : Nat) (N : Nat → Nat) (Y : Nat → List Value) : Prop where
  blk : ∃ gc, w.heap[G]? = some (.cells gc T (0, 0)) ∧ gc.size = K
  own : ∀ j, j < m → ∃ a c, w.cell? ⟨G, j, .none⟩ = some (.slice (some ⟨a, 0, .none⟩) (N j) c) ∧ w.ownsRow B E S (.slice (some ⟨a, 0, .none⟩) (N j) c) (N j) (Y j) ∧ a ≠ G ∧ ∀ k, k < K → k ≠ j → bl (A k) ≠ some a
  le : B ≤ G
theorem GS.lt {T G m : Nat} {N : Nat → Nat} {Y : Nat → List Value} (h : GS E S T w B K A G m N Y) : G < w.heap.size := by
  obtain ⟨gc, hg, _⟩ := h.blk
  exact (Array.getElem?_eq_some_iff.1 hg).1
theorem GS.far {T G m : Nat} {N : Nat → Nat} {Y : Nat → List Value} (h : GS E S T w B K A G m N Y) {r : Option Nat} (hg : w.grownBy w' r) (hG : some G ≠ r) (hr : ∀ a j, j < m → (∀ k, k < K → k ≠ j → bl (A k) ≠ some a) → r ≠ some a) : GS E S T w' B K A G m N Y where
  blk := by obtain ⟨gc, h1, h2⟩ := h.blk; exact ⟨gc, (hg.block G h.lt hG).trans h1, h2⟩
  own j hj := by
    obtain ⟨a, c, h1, h2, h3, h4⟩ := h.own j hj
    exact ⟨a, c, (World.cell?_of_block (a := ⟨G, j, .none⟩) (hg.block G h.lt hG)).trans h1, h2.kept hg (.inr (by simpa [Value.ownBlock] using (hr a j hj h4).symm)), h3, h4⟩
  le := h.le
theorem GS.none {T G m : Nat} {N : Nat → Nat} {Y : Nat → List Value} (h : GS E S T w B K A G m N Y) (hg : w.grownBy w' .none) : GS E S T w' B K A G m N Y :=
  h.far hg (by simp) fun _ _ _ _ => by simp
/-- one more is stored -/
theorem GS.put {T G m : Nat} {N : Nat → Nat} {Y : Nat → List Value} (h : GS E S T w B K A G m N Y) {g c : Nat} (ho : w.ownsRow B E S (.slice (some ⟨g, 0, .none⟩) (N m) c) (N m) (Y m)) (hm : m < K) (hgG : g ≠ G) (ha : ∀ k, k < K → k ≠ m → bl (A k) ≠ some g) :
    GS E S T (w.setCell ⟨G, m, .none⟩ (.slice (some ⟨g, 0, .none⟩) (N m) c)) B K A G (m + 1) N Y := by
  obtain ⟨gc, h1, h2⟩ := h.blk
  have hb := heap_setCell_same w G m _ _ (.slice (some ⟨g, 0, .none⟩) (N m) c) h1
  have hgr : w.grownBy (w.setCell ⟨G, m, .none⟩ (.slice (some ⟨g, 0, .none⟩) (N m) c)) (some G) := ⟨rfl, rfl, rfl, by simp [World.setCell], fun k _ hr => Below.heap_setCell _ _ _ _ (fun e => hr (by rw [e]))⟩
  refine ⟨⟨_, hb, by simpa using h2⟩, fun j hj => ?_, h.le⟩
  by_cases e : j = m
  · subst e
    refine ⟨g, c, ?_, ho.kept hgr (.inr (by simpa [Value.ownBlock] using hgG)), hgG, ha⟩
    rw [cell_of_row _ G j _ _ _ hb, Array.getElem?_setIfInBounds_self_of_lt (by omega)]
  · obtain ⟨a, c', q1, q2, q3, q4⟩ := h.own j (by omega)
    refine ⟨a, c', ?_, q2.kept hgr (.inr (by simpa [Value.ownBlock] using q3)), q3, q4⟩
    rw [cell_of_row _ G j _ _ _ hb]
    rw [cell_of_row _ G j _ _ _ h1] at q1
    rw [Array.getElem?_setIfInBounds_ne (by omega)]; exact q1
end

/-- of what was there only these lists were written -/
structure Only (K : Nat) (A : Nat → Option Addr) (w w' : World) : Prop where
  os : w'.os = w.os
  tape : w'.tape = w.tape
  output : w'.output = w.output
  size : w.heap.size ≤ w'.heap.size
  block : ∀ b, b < w.heap.size → (∀ k, k < K → bl (A k) ≠ some b) → w'.heap[b]? = w.heap[b]?
theorem Only.refl (K : Nat) (A : Nat → Option Addr) (w : World) : Only K A w w := ⟨rfl, rfl, rfl, Nat.le_refl _, fun _ _ _ => rfl⟩
theorem Only.grown {K : Nat} {A : Nat → Option Addr} {w w1 w2 : World} {r : Option Nat} (h : Only K A w w1) (g : w1.grownBy w2 r) (hr : ∀ b, r = some b → w.heap.size ≤ b ∨ ∃ k, k < K ∧ bl (A k) = some b) : Only K A w w2 :=
  ⟨g.os.trans h.os, g.tape.trans h.tape, g.output.trans h.output, Nat.le_trans h.size g.size, fun b hb hne => (g.block b (Nat.lt_of_lt_of_le hb h.size) (fun e => (hr b e.symm).elim (fun h => by omega) (fun ⟨k, hk, e⟩ => hne k hk e))).trans (h.block b hb hne)⟩
theorem Only.below {K : Nat} {A : Nat → Option Addr} {w w' : World} {B : Nat} (h : Only K A w w') (hB : B ≤ w.heap.size) (hA : ∀ k b, k < K → bl (A k) = some b → B ≤ b) : Below B w w' :=
  ⟨h.os, h.tape, h.output, h.size, fun b hb => h.block b (by omega) (fun k hk e => by have := hA k b hk e; omega)⟩

theorem grown_set (w : World) (p : Addr) (v : Value) : w.grownBy (w.setCell p v) (some p.block) :=
  ⟨rfl, rfl, rfl, by simp, fun k _ hr => Below.heap_setCell _ _ _ _ (fun e => hr (by rw [e]))⟩
theorem set3_grown (w : World) (g i : Nat) (u0 u1 u2 : Value) (i1 i2 : Nat) : w.grownBy (((w.setCell ⟨g, i, none⟩ u0).setCell ⟨g, i1, none⟩ u1).setCell ⟨g, i2, none⟩ u2) (some g) :=
  grown_trans (grown_trans (grown_set w ⟨g, i, none⟩ u0) (grown_set _ ⟨g, i1, none⟩ u1)) (grown_set _ ⟨g, i2, none⟩ u2)
theorem set3_own {w : World} {base e S : Nat} {g n c : Nat} {xs : List Value} (h : w.ownsRow base e S (.slice (some ⟨g, 0, none⟩) n c) n xs) (i i1 i2 : Nat) (u0 u1 u2 : Value) :
    (((w.setCell ⟨g, i, none⟩ u0).setCell ⟨g, i1, none⟩ u1).setCell ⟨g, i2, none⟩ u2).ownsRow base e S (.slice (some ⟨g, 0, none⟩) n c) n (((xs.set i u0).set i1 u1).set i2 u2) :=
  ((((h.stored i u0).1).stored i1 u1).1.stored i2 u2).1
theorem take_set3 (xs : List Value) (i : Nat) (u0 u1 u2 : Value) (h : i + 2 < xs.length) : (((xs.set i u0).set (i + 1) u1).set (i + 2) u2).take (i + 3) = xs.take i ++ [u0, u1, u2] := by
  apply List.ext_getElem?
  intro j
  rw [List.getElem?_take]
  by_cases hj : j < i + 3
  · rw [if_pos hj]
    by_cases h0 : j < i
    · rw [List.getElem?_append_left (by simp; omega), List.getElem?_take, if_pos h0]
      rw [List.getElem?_set_ne (by omega), List.getElem?_set_ne (by omega), List.getElem?_set_ne (by omega)]
    · rw [List.getElem?_append_right (by simp; omega)]
      rw [List.length_take, Nat.min_eq_left (by omega)]
      rcases (show j = i ∨ j = i + 1 ∨ j = i + 2 by omega) with rfl | rfl | rfl
      · rw [List.getElem?_set_ne (by omega), List.getElem?_set_ne (by omega), List.getElem?_set_self (by omega)]; simp
      · rw [List.getElem?_set_ne (by omega), List.getElem?_set_self (by simp; omega)]; simp
      · rw [List.getElem?_set_self (by simp; omega)]; simp
  · rw [if_neg hj, List.getElem?_eq_none (by simp; omega)]

/-- a place's mark -/
def mkI (k i : Int) : Int := 1000003 * (k + 7) + i
section
/-- marks one behind the other -/
def marks (f : Int → Int → List Value) (k : Int) (n : Nat) : List Value := (List.range n).flatMap fun (i : Nat) => f k (i : Int)
variable {f : Int → Int → List Value}
theorem marks_zero (k : Int) : marks f k 0 = [] := rfl
theorem marks_succ (k : Int) (n : Nat) : marks f k (n + 1) = marks f k n ++ f k (n : Int) := by simp [marks, List.range_succ]
theorem marks_len {S : Nat} (hS : ∀ k i, (f k i).length = S) (k : Int) (n : Nat) : (marks f k n).length = n * S := by
  induction n with
  | zero => simp [marks]
  | succ n ih => rw [marks_succ, List.length_append, ih, hS, Nat.succ_mul]
theorem marks_take {S : Nat} (hS : ∀ k i, (f k i).length = S) (k : Int) {n m : Nat} (h : n ≤ m) : (marks f k m).take (n * S) = marks f k n := by
  induction m with
  | zero => obtain rfl : n = 0 := by omega
            simp [marks]
  | succ m ih =>
    by_cases e : n = m + 1
    · subst e; rw [List.take_of_length_le (by rw [marks_len hS]; exact Nat.le_refl _)]
    · rw [marks_succ, List.take_append_of_le_length (by rw [marks_len hS]; exact Nat.mul_le_mul_right _ (by omega)), ih (by omega)]
theorem marks_get {S : Nat} (hS : ∀ k i, (f k i).length = S) (k : Int) {n i j : Nat} (h : i < n) (hj : j < S) : (marks f k n)[i * S + j]? = (f k (i : Int))[j]? := by
  have h1 := marks_take hS k (show i + 1 ≤ n from h)
  have h2 : (marks f k n)[i * S + j]? = ((marks f k n).take ((i + 1) * S))[i * S + j]? := by
    rw [List.getElem?_take, if_pos (by rw [Nat.succ_mul]; omega)]
  rw [h2, h1, marks_succ, List.getElem?_append_right (by rw [marks_len hS]; omega), marks_len hS]
  congr 1; omega
end
/-- what a grown list begins with -/
theorem own_elder {w w1 : World} {B E S : Nat} {a : Option Addr} {n c : Nat} {xs : List Value} {v v' : Value} {N N' : Nat} {ys : List Value} (h0 : w.ownsRow B E S (.slice a n c) n xs)
    (hv : v = .slice a N c ∨ bl a = none ∨ v.ownBlock ≠ bl a) (hn : n ≤ N') (h' : w1.ownsRow B E S v' N' ys) (hg : w.grownBy w1 v.ownBlock) (hG : Grew w w1 v v' N') (hy : ys.take (n * S) = xs) : w1.ownsRow B E S (.slice a n c) n xs := by
  by_cases hne : bl a = none ∨ v.ownBlock ≠ bl a
  · exact h0.kept hg (by rw [bl_own]; exact hne.imp id Ne.symm)
  · have hv := hv.resolve_right hne
    subst hv
    rcases hG with ⟨g, m, cap, e1, rfl⟩ | ⟨g, cap, rfl, h1, h2⟩
    · cases e1
      rw [← hy]; exact own_part h' hn
    · exact h0.kept h2 (Classical.em _)
end Go.Proofs.Ytelpkldlkpoioaa.Heap
/- A region that draws its order, whose operations read and whose callees keep what is known of the world (they may make memory): walked once, in the order of the text. -/
namespace Go.Proofs.Ytelpkldlkpoioaa.Heap
open Go.RowKit

/-- a world of which I is known -/
def Ext (I : World → Prop) : Type := { u : World // I u }
def Ext.w {I : World → Prop} (x : Ext I) : World := x.1
theorem Ext.i {I : World → Prop} (x : Ext I) : I x.w := x.2
instance (B : Nat) (W : World) : Nonempty (Ext (Below B W)) := ⟨⟨W, Below.refl _ _⟩⟩
theorem wp_region_ext {P : Program} (I : World → Prop) {id : Nat} {Q : Exit → Act → World → Prop} {a : Act} {w : World} {l : List Oper} (hI : I { w with drawn := w.drawn + 1 }) (hm : P.follows .mixedOrders = true) (hB : Region.lexB .any l.toArray = true)
    (h : wpQuiet P l.toArray (fun w' => ∃ x : Ext I, w' = x.w) (fun a' => ∀ w', (∃ x : Ext I, w' = x.w) → Q .normal a' w') l a) : (Code.region id l.toArray true).wp P Q a w :=
  wp_region_quiet (C := fun w' => ∃ x : Ext I, w' = x.w) hm hB ⟨⟨_, hI⟩, rfl⟩ (by simpa using h)
theorem ext_call {P : Program} {f : FuncId} {args : Array Value} {I : World → Prop} {x : Ext I} {v : Value} {R : World → Prop} (h : Calls P f args x.w fun e w' => e = .returned v ∧ R w') (hR : ∀ w', R w' → I w') :
    Calls P f args x.w fun e w'' => e = .returned v ∧ ∃ y : Ext I, w'' = y.w :=
  h.mono fun _ w' ⟨he, hr⟩ => ⟨he, ⟨w', hR w' hr⟩, rfl⟩
/-- .. where all that is old is as it was -/
theorem ext_new {P : Program} {f : FuncId} {args : Array Value} {B : Nat} {W : World} (hB : B ≤ W.heap.size) {x : Ext (Below B W)} {v : Value} (h : Calls P f args x.w fun e w' => e = .returned v ∧ Below x.w.heap.size x.w w') :
    Calls P f args x.w fun e w'' => e = .returned v ∧ ∃ y : Ext (Below B W), w'' = y.w :=
  ext_call h fun _ hr => x.i.trans (hr.mono (Nat.le_trans hB x.i.size))
theorem ext_same {P : Program} {f : FuncId} {args : Array Value} {I : World → Prop} {x : Ext I} {v : Value} (h : Calls P f args x.w fun e w' => e = .returned v ∧ x.w = w') :
    Calls P f args x.w fun e w'' => e = .returned v ∧ ∃ y : Ext I, w'' = y.w :=
  ext_call h fun _ hr => hr ▸ x.i
theorem ext_cell {W : World} {p : Addr} {v : Value} (h : W.cell? p = some v) (x : Ext (Below W.heap.size W)) : x.w.cell? p = some v := (x.i.cell (World.block_lt_of_cell? _ _ h)).trans h
end Go.Proofs.Ytelpkldlkpoioaa.Heap
