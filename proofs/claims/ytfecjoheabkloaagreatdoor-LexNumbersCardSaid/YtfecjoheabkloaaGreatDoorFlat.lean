/- Lists of tokens are found to lie apart: gristmillkit.flatTokens, walked. -/
import Derived.Test.YtfecjoheabkloaaGreatDoorHeap
import Derived.Test.YtfecjoheabkloaaGreatDoorExt
import Derived.Test.YtfecjoheabkloaaGreatDoorChecked
import Derived.WalkKit
import Derived.Outline
import Derived.WalkLawsBesides
import Derived.WalkSpells
import Derived.Lib.Hide
import Derived.Deep.QuietTactic
import Derived.BigQuiet
import Derived.Deep.RegionWith
import Derived.Deep.RegionHeld3
import Derived.Deep.LoopGhost
import Derived.Deep.OwnRows
import Derived.Deep.DeepMust
import Derived.Handy
namespace Go.Proofs.YtfecjoheabkloaaGreatDoor.Flat
open Go.RowKit Go.Proofs.YtfecjoheabkloaaGreatDoor.Heap

theorem ret_int {k : IntKind} {a b : Int} (h : a = b) : Ending.returned (.int k a) = .returned (.int k b) := by rw [h]
theorem mark_any (k i : Int) (w : World) (hk : 0 ≤ k) (hk' : k ≤ 10000000) (hi : 0 ≤ i) (hi' : i ≤ 10000000) :
    Calls Tryz.prog 98 #[.int .i64 k, .int .i64 i] w fun e w' => e = .returned (.int .i64 (mkI k i)) ∧ w = w' := by
  go_enter Tryz.func98, Tryz.ntmps98
  go_wp2
  go_ret
  exact ⟨ret_int (by unfold mkI; omega), rfl⟩

/-- a token's mark -/
def mkC (k i : Int) : List Value := [.int .u8 0, .string { data := #[] }, .int .i64 (mkI k i)]
theorem mkC_len (k i : Int) : (mkC k i).length = 3 := rfl
theorem markToken_any (k i : Int) (w : World) (hk : 0 ≤ k) (hk' : k ≤ 10000000) (hi : 0 ≤ i) (hi' : i ≤ 10000000) :
    Calls Tryz.prog 101 #[.int .i64 k, .int .i64 i] w fun e w' => e = .returned (.agg #[.int .u8 0, .string { data := #[] }, .int .i64 (mkI k i)]) ∧ Below w.heap.size w w' := by
  go_enter Tryz.func101, Tryz.ntmps101
  go_wp2_with (go_at_call 98; refine (mark_any _ _ _ hk hk' hi hi').mono ?_; rintro e w' ⟨rfl, rfl⟩)
  exact bodyPost_ret (v := .agg #[.int .u8 0, .string { data := #[] }, .int .i64 (mkI k i)]) (by simp [results, Tryz.results101, go_sem]) rfl ⟨rfl, (Below.refl _ _).alloc (Nat.le_refl _) _⟩
theorem markToken_is {k i x : Int} {w : World} (h : x = mkI k i) (hk : 0 ≤ k) (hk' : k ≤ 10000000) (hi : 0 ≤ i) (hi' : i ≤ 10000000) :
    Calls Tryz.prog 101 #[.int .i64 k, .int .i64 i] w fun e w' => e = .returned (.agg #[.int .u8 0, .string { data := #[] }, .int .i64 x]) ∧ Below w.heap.size w w' := by
  rw [h]; exact markToken_any k i w hk hk' hi hi'

theorem tokInfo : (Tryz.prog.info? 57).map (fun i => (i.zero, i.size, i.bytes)) = some (some (.agg #[.int .u8 0, .string { data := #[] }, .int .i64 0]), 3, 32) := by kernel_rfl
theorem rowInfo : (Tryz.prog.info? 29).map (fun i => (i.zero, i.size, i.bytes)) = some (some (.slice none 0 0), 1, 24) := by kernel_rfl

theorem keep7 {W w3 : World} (hb : Below W.heap.size W w3) {p q0 q1 q2 : Addr} {l y0 y1 y2 : Value} (a : W.cell? p = some l) (b0 : W.cell? q0 = some y0) (b1 : W.cell? q1 = some y1) (b2 : W.cell? q2 = some y2)
    (f0 : W.frozen? q0 = false) (f1 : W.frozen? q1 = false) (f2 : W.frozen? q2 = false) :
    w3.cell? p = some l ∧ w3.cell? q0 = some y0 ∧ w3.cell? q1 = some y1 ∧ w3.cell? q2 = some y2 ∧ w3.frozen? q0 = false ∧ w3.frozen? q1 = false ∧ w3.frozen? q2 = false :=
  ⟨(hb.cell (World.block_lt_of_cell? _ _ a)).trans a, (hb.cell (World.block_lt_of_cell? _ _ b0)).trans b0, (hb.cell (World.block_lt_of_cell? _ _ b1)).trans b1, (hb.cell (World.block_lt_of_cell? _ _ b2)).trans b2,
    (hb.frozen (World.block_lt_of_cell? _ _ b0)).trans f0, (hb.frozen (World.block_lt_of_cell? _ _ b1)).trans f1, (hb.frozen (World.block_lt_of_cell? _ _ b2)).trans f2⟩
theorem three {w : World} {base e g n c i : Nat} {xs : List Value} (h : w.ownsRow base e 3 (.slice (some ⟨g, 0, none⟩) n c) n xs) (hi : i < n) :
    ∃ y0 y1 y2, w.cell? ⟨g, i * 3, none⟩ = some y0 ∧ w.cell? ⟨g, i * 3 + 1, none⟩ = some y1 ∧ w.cell? ⟨g, i * 3 + 2, none⟩ = some y2 := by
  have hl := h.1
  refine ⟨xs[i * 3]'(by omega), xs[i * 3 + 1]'(by omega), xs[i * 3 + 2]'(by omega), ?_, ?_, ?_⟩
  all_goals rw [h.cellAt _ (by omega)]; exact List.getElem?_eq_getElem _
theorem keep8 {W w3 : World} (hb : Below W.heap.size W w3) {p0 p1 q0 q1 q2 r0 r1 r2 : Addr} {l0 l1 y0 y1 y2 z0 z1 z2 : Value} (a0 : W.cell? p0 = some l0) (a1 : W.cell? p1 = some l1) (b0 : W.cell? q0 = some y0) (b1 : W.cell? q1 = some y1) (b2 : W.cell? q2 = some y2)
    (d0 : W.cell? r0 = some z0) (d1 : W.cell? r1 = some z1) (d2 : W.cell? r2 = some z2) :
    w3.cell? p0 = some l0 ∧ w3.cell? p1 = some l1 ∧ w3.cell? q0 = some y0 ∧ w3.cell? q1 = some y1 ∧ w3.cell? q2 = some y2 ∧ w3.cell? r0 = some z0 ∧ w3.cell? r1 = some z1 ∧ w3.cell? r2 = some z2 :=
  ⟨(hb.cell (World.block_lt_of_cell? _ _ a0)).trans a0, (hb.cell (World.block_lt_of_cell? _ _ a1)).trans a1, (hb.cell (World.block_lt_of_cell? _ _ b0)).trans b0, (hb.cell (World.block_lt_of_cell? _ _ b1)).trans b1, (hb.cell (World.block_lt_of_cell? _ _ b2)).trans b2,
    (hb.cell (World.block_lt_of_cell? _ _ d0)).trans d0, (hb.cell (World.block_lt_of_cell? _ _ d1)).trans d1, (hb.cell (World.block_lt_of_cell? _ _ d2)).trans d2⟩
theorem keep5 {W w3 : World} (hb : Below W.heap.size W w3) {p0 p1 q0 q1 q2 : Addr} {l0 l1 y0 y1 y2 : Value} (a0 : W.cell? p0 = some l0) (a1 : W.cell? p1 = some l1) (b0 : W.cell? q0 = some y0) (b1 : W.cell? q1 = some y1) (b2 : W.cell? q2 = some y2) :
    w3.cell? p0 = some l0 ∧ w3.cell? p1 = some l1 ∧ w3.cell? q0 = some y0 ∧ w3.cell? q1 = some y1 ∧ w3.cell? q2 = some y2 :=
  ⟨(hb.cell (World.block_lt_of_cell? _ _ a0)).trans a0, (hb.cell (World.block_lt_of_cell? _ _ a1)).trans a1, (hb.cell (World.block_lt_of_cell? _ _ b0)).trans b0, (hb.cell (World.block_lt_of_cell? _ _ b1)).trans b1, (hb.cell (World.block_lt_of_cell? _ _ b2)).trans b2⟩
theorem mark_cells {w : World} {base e g N c m i : Nat} {k : Int} {ys : List Value} (h : w.ownsRow base e 3 (.slice (some ⟨g, 0, none⟩) N c) N ys) (hy : ys.take (m * 3) = marks mkC k m) (hi : i < m) :
    w.cell? ⟨g, i * 3, none⟩ = some (.int .u8 0) ∧ w.cell? ⟨g, i * 3 + 1, none⟩ = some (.string { data := #[] }) ∧ w.cell? ⟨g, i * 3 + 2, none⟩ = some (.int .i64 (mkI k (i : Int))) := by
  have hl := marks_len mkC_len k m
  rw [← hy, List.length_take, h.1] at hl
  have hm : m ≤ N := by omega
  have key : ∀ j, j < 3 → w.cell? ⟨g, i * 3 + j, none⟩ = (mkC k (i : Int))[j]? := by
    intro j hj
    rw [h.cellAt (i * 3 + j) (by omega)]
    have h2 := marks_get mkC_len k hi hj
    rw [← hy, List.getElem?_take, if_pos (by omega)] at h2
    exact h2
  exact ⟨key 0 (by omega), key 1 (by omega), key 2 (by omega)⟩
theorem marks_one (k : Int) (n : Nat) : ∀ u ∈ marks mkC k n, u.oneCell' = true := by
  intro u hu
  simp only [marks, List.mem_flatMap] at hu
  obtain ⟨i, _, hi⟩ := hu
  simp only [mkC, List.mem_cons, List.not_mem_nil, or_false] at hi
  rcases hi with rfl | rfl | rfl <;> rfl

theorem grew_form {w w1 : World} {a : Option Addr} {n c N H : Nat} {v' : Value} (hG : Grew w w1 (.slice a n c) v' N) (hH : H ≤ w.heap.size) : ∃ g c', v' = .slice (some ⟨g, 0, none⟩) N c' ∧ (bl a = some g ∨ H ≤ g) := by
  rcases hG with ⟨g, n0, cap, e1, e2⟩ | ⟨g, cap, e2, h1, _⟩
  · cases e1; exact ⟨g, _, e2, .inl rfl⟩
  · exact ⟨g, cap, e2, .inr (by omega)⟩
/-- after so many lists are marked -/
def R1 (w wr : World) (B L K : Nat) (A : Nat → Option Addr) (n C : Nat → Nat) (k : Nat) : Prop :=
  ∃ X, LS 57 3 wr B L K A n C X ∧ (∀ j, j < k → X j = marks mkC j (n j)) ∧ Only K A w wr
/-- all are marked, so many grown -/
def R3 (w wr : World) (B L K : Nat) (A : Nat → Option Addr) (n C : Nat → Nat) (G k : Nat) : Prop :=
  LS 57 3 wr B L K A n C (fun j => marks mkC j (n j)) ∧ GS 57 3 29 wr B K A G k (fun j => n j + 64) (fun j => marks mkC j (n j + 64)) ∧ Only K A w wr
/-- all are marked, so many grown by many -/
def R7 (w wr : World) (B L K : Nat) (A : Nat → Option Addr) (n C : Nat → Nat) (G k : Nat) : Prop :=
  LS 57 3 wr B L K A n C (fun j => marks mkC j (n j)) ∧ GS 57 3 29 wr B K A G k (fun j => n j + 64) (fun j => marks mkC j (n j) ++ marks mkC ((j : Int) + (K : Int)) 64) ∧ Only K A w wr
/-- a list that has grown out of another, or is new -/
def Sh (w0 : World) (a : Option Addr) (c : Nat) (v : Value) (N : Nat) : Prop := v = .slice a N c ∨ ∃ g c', v = .slice (some ⟨g, 0, none⟩) N c' ∧ w0.heap.size ≤ g
theorem Sh.form {w0 w : World} {a : Option Addr} {B E S c N : Nat} {v : Value} {ys : List Value} (h : Sh w0 a c v N) (ho : w.ownsRow B E S v N ys) (hN : 0 < N) :
    ∃ g c', v = .slice (some ⟨g, 0, none⟩) N c' ∧ (bl a = some g ∨ w0.heap.size ≤ g) := by
  rcases h with rfl | ⟨g, c', rfl, hg⟩
  · obtain ⟨g, rfl⟩ := own_addr ho hN
    exact ⟨g, c, rfl, .inl rfl⟩
  · exact ⟨g, c', rfl, .inr hg⟩
theorem Sh.grew {w0 w w1 : World} {a : Option Addr} {c N N' : Nat} {v v' : Value} (h : Sh w0 a c v N) (hs : w0.heap.size ≤ w.heap.size) (hG : Grew w w1 v v' N') : Sh w0 a c v' N' := by
  rcases hG with ⟨g, n, cap, rfl, rfl⟩ | ⟨g, cap, rfl, h1, _⟩
  · rcases h with h | ⟨g', c', h, hg⟩
    · cases h; exact .inl rfl
    · cases h; exact .inr ⟨_, _, rfl, hg⟩
  · exact .inr ⟨g, cap, rfl, by omega⟩
theorem Sh.own {w0 : World} {a : Option Addr} {c N : Nat} {v : Value} (h : Sh w0 a c v N) : v.ownBlock = bl a ∨ ∃ g, v.ownBlock = some g ∧ w0.heap.size ≤ g := by
  rcases h with rfl | ⟨g, c', rfl, hg⟩
  · exact .inl (bl_own _ _ _)
  · exact .inr ⟨g, rfl, hg⟩
theorem Sh.grown {w0 w w1 : World} {a : Option Addr} {c N : Nat} {v : Value} (h : Sh w0 a c v N) (hg : w0.grownBy w (bl a)) (g1 : w.grownBy w1 v.ownBlock) : w0.grownBy w1 (bl a) := by
  rcases h.own with e | ⟨g, e, hs⟩
  · rw [e] at g1; exact grown_trans hg g1
  · rw [e] at g1; exact grown_new hg g1 hs
/-- the elder list stays, when the grown one is appended to -/
theorem Sh.elder {w0 w w1 : World} {B E S : Nat} {a : Option Addr} {n c N N' : Nat} {xs ys : List Value} {v v' : Value} (h : Sh w0 a c v N) (hs : ∀ b, bl a = some b → b < w0.heap.size) (h0 : w.ownsRow B E S (.slice a n c) n xs)
    (hn : n ≤ N') (h' : w1.ownsRow B E S v' N' ys) (hg : w.grownBy w1 v.ownBlock) (hG : Grew w w1 v v' N') (hy : ys.take (n * S) = xs) : w1.ownsRow B E S (.slice a n c) n xs := by
  refine own_elder (N := N) h0 ?_ hn h' hg hG hy
  rcases h with rfl | ⟨g, c', rfl, hgs⟩
  · exact .inl rfl
  · refine .inr ?_
    cases hb : bl a with
    | none => exact .inl rfl
    | some b => have := hs b hb; refine .inr ?_; simp [Value.ownBlock]; omega
theorem GS.zero {E S T : Nat} {w : World} {B K : Nat} {A : Nat → Option Addr} {G m : Nat} {N N' : Nat → Nat} {Y Y' : Nat → List Value} (h : GS E S T w B K A G m N Y) : GS E S T w B K A G 0 N' Y' :=
  ⟨h.blk, fun j hj => absurd hj (by omega), h.le⟩

set_option maxRecDepth 100000 in
set_option maxHeartbeats 8000000 in
theorem flat_any {w : World} {B L K c : Nat} {A : Nat → Option Addr} {n C : Nat → Nat} {X : Nat → List Value} (h : LS 57 3 w B L K A n C X) (hK : K ≤ 1000000) (hn : ∀ k, k < K → n k ≤ 1000000) :
    Calls Tryz.prog 60 #[.slice (some ⟨L, 0, none⟩) K c] w fun e w' => e = .returned (.bool true) ∧ Only K A w w' := by
  have HN := Lib.hid hn; clear hn
  obtain ⟨ti0, hi0, hz0, hz1, hz2⟩ := info_parts tokInfo
  obtain ⟨r0, hr0, hrz0, hrz1, hrz2⟩ := info_parts rowInfo
  have hBw : B ≤ w.heap.size := by have := h.lt; have := h.le; omega
  go_enter Tryz.func60, Tryz.ntmps60
  go_wp2
  go_loopg [3] K (fun gk t3 wr => ∃ k : Nat, k ≤ K ∧ gk = K - k ∧ t3 = .int .i64 (k : Int) ∧ R1 w wr B L K A n C k)
  case atStart => exact ⟨0, by omega, by omega, rfl, X, h, by omega, Only.refl _ _ _⟩
  case round =>
    obtain ⟨k, hk, rfl, rfl, X1, hLS, hX1, hon⟩ := hrel
    obtain ⟨wo, rfl⟩ : ∃ wo : World, wo = wr := ⟨_, rfl⟩
    have HX := Lib.hid hX1; clear hX1
    by_cases hlt : k < K
    case pos =>
      have hrow := hLS.row k hlt
      have hown := hLS.own k hlt
      have hneL := hLS.neL k hlt
      have hnk := HN.out k hlt
      have hblk : ∀ b, bl (A k) = some b → b < wo.heap.size := fun b hb => (hLS.ne_lt hlt hb).2
      have HLS := Lib.hid hLS; clear hLS
      obtain ⟨a, ha⟩ : ∃ a, A k = a := ⟨_, rfl⟩
      obtain ⟨nk, hnn⟩ : ∃ x, n k = x := ⟨_, rfl⟩
      obtain ⟨ck, hcc⟩ : ∃ x, C k = x := ⟨_, rfl⟩
      rw [ha, hnn, hcc] at hrow hown
      rw [ha] at hneL hblk
      rw [hnn] at hnk
      have HA := Lib.hid ha; have HNN := Lib.hid hnn; have HCC := Lib.hid hcc; clear ha hnn hcc
      have j0 : (0 : Int) ≤ (k : Int) := by omega
      have j1 : (k : Int) < (K : Int) := by omega
      go_wp2
      go_loopg [4] nk (fun gk t4 w2 => ∃ (i : Nat) (Y : List Value), i ≤ nk ∧ gk = nk - i ∧ t4 = .int .i64 (i : Int) ∧ wo.grownBy w2 (bl a) ∧ w2.ownsRow B 57 3 (.slice a nk ck) nk Y ∧ Y.take (i * 3) = marks mkC k i)
      case atStart => exact ⟨0, X1 k, by omega, by omega, rfl, grown_refl _ _, hown, by simp [marks]⟩
      case round =>
        obtain ⟨i, Y, hi, rfl, rfl, hg, ho, hY⟩ := hrel
        have HY := Lib.hid hY; clear hY
        have hrow2 := (World.cell?_of_block (a := ⟨L, k, none⟩) (hg.block L HLS.out.lt (Ne.symm hneL))).trans hrow
        by_cases hli : i < nk
        case pos =>
          obtain ⟨g, rfl⟩ := own_addr ho (by omega)
          have i0 : (0 : Int) ≤ (i : Int) := by omega
          have i1 : (i : Int) < (nk : Int) := by omega
          have hlen := ho.1
          go_wp2
          obtain ⟨y0, y1, y2, b0, b1, b2⟩ := three ho hli
          have f0 := ho.frozenAt (i * 3); have f1 := ho.frozenAt (i * 3 + 1); have f2 := ho.frozenAt (i * 3 + 2)
          go_region_with ((go_at_call 101; refine (markToken_any _ _ _ (by omega) (by omega) (by omega) (by omega)).mono ?_; rintro e w3 ⟨rfl, hb3⟩; obtain ⟨d, d0, d1, d2, d3, d4, d5⟩ := keep7 hb3 (by exact hrow2) (by exact b0) (by exact b1) (by exact b2) (by exact f0) (by exact f1) (by exact f2)))
          all_goals
            have hb4 := ((Below.refl _ _).drew).trans hb3
            go_wp2
            go_roundg (nk - (i + 1))
            case measure => omega
            case rel =>
              refine ⟨i + 1, _, by omega, rfl, by go_num, (grown_trans (grown_trans hg (grown_below hb4 _)) (set3_grown w3 g _ _ _ _ _ _)), set3_own (own_new ho hb4) _ _ _ _ _ _, ?_⟩
              rw [Nat.succ_mul, take_set3 _ _ _ _ _ (by omega), HY.out, marks_succ]; rfl
        case neg =>
          obtain rfl : i = nk := by omega
          go_wp2
          go_roundg (K - (k + 1))
          case measure => omega
          case rel =>
            have hs := HLS.out.step hlt (by rw [HA.out]; exact hg) (by rw [HA.out, HNN.out, HCC.out]; exact ho)
            refine ⟨k + 1, by omega, rfl, by go_num, _, hs, ?_, hon.grown hg fun b hb => .inr ⟨k, hlt, by rw [HA.out]; exact hb⟩⟩
            intro j hj
            have hfull := HY.out
            rw [List.take_of_length_le (by rw [ho.1]; exact Nat.le_refl _)] at hfull
            by_cases e : j = k
            · subst e; simp only [if_pos]; rw [HNN.out]; exact hfull
            · rw [if_neg e]; exact HX.out j (by omega)
    case neg =>
      obtain rfl : k = K := by omega
      have hL3 := hLS.congr (Y := fun j => marks mkC j (n j)) (fun j hj => HX.out j hj)
      clear hLS HX
      have hwo := hon.size
      have hGL : wo.heap.size ≠ L := by have := hL3.lt; omega
      have hGA : ∀ j, j < k → bl (A j) ≠ some wo.heap.size := fun j hj e => by have := (hL3.ne_lt hj e).2; omega
      have hblt : ∀ j b, j < k → bl (A j) = some b → b < wo.heap.size := fun j b hj e => (hL3.ne_lt hj e).2
      have hL4 := hL3.none (World.grownBy_alloc wo (.cells (madeCells #[.slice none 0 0] k) 29) none)
      have hG4 : GS 57 3 29 (wo.alloc (.cells (madeCells #[.slice none 0 0] k) 29)) B k A wo.heap.size 0 (fun j => n j + 64) (fun j => marks mkC j (n j + 64)) :=
        ⟨⟨_, heap_alloc_new wo _, by simp [madeCells]⟩, fun j hj => absurd hj (by omega), by omega⟩
      have hO4 := hon.grown (World.grownBy_alloc wo (.cells (madeCells #[.slice none 0 0] k) 29) none) (by simp)
      have HLT := Lib.hid hblt; have HGA := Lib.hid hGA; clear hblt hGA
      go_wp2_with (at_make; refine wpList_make_row _ rfl _ _ _ rfl 29 r0 (.slice none 0 0) Tryz.underlying37 hr0 hrz0 hrz1 rfl .i64 .i64 k rfl rfl (by rw [hrz2]; omega) (by omega) ?_)
      generalize (wo.alloc (.cells (madeCells #[.slice none 0 0] k) 29)) = W4 at *
      have hGle : w.heap.size ≤ wo.heap.size := hwo
      generalize wo.heap.size = G at *
      clear hon hwo hL3 wo h X
      go_loopg [6] k (fun gk t6 wr => ∃ q : Nat, q ≤ k ∧ gk = k - q ∧ t6 = .int .i64 (q : Int) ∧ R3 w wr B L k A n C G q)
      case atStart => exact ⟨0, by omega, by omega, rfl, hL4, hG4, hO4⟩
      case round =>
        obtain ⟨q, hq, rfl, rfl, hLS, hGS, hon⟩ := hrel
        obtain ⟨wo, rfl⟩ : ∃ wo : World, wo = wr := ⟨_, rfl⟩
        by_cases hlt : q < k
        case pos =>
          have hrow := hLS.row q hlt
          have hown := hLS.own q hlt
          have hneL := hLS.neL q hlt
          have hnk := HN.out q hlt
          have hblk : ∀ b, bl (A q) = some b → b < wo.heap.size := fun b hb => (hLS.ne_lt hlt hb).2
          have hgaq := HGA.out q hlt
          have hGlt := hGS.lt
          have hLlt := hLS.lt
          obtain ⟨a, ha⟩ : ∃ a, A q = a := ⟨_, rfl⟩
          obtain ⟨nk, hnn⟩ : ∃ x, n q = x := ⟨_, rfl⟩
          obtain ⟨ck, hcc⟩ : ∃ x, C q = x := ⟨_, rfl⟩
          rw [ha, hnn, hcc] at hrow hown
          rw [ha] at hneL hblk hgaq
          rw [hnn] at hnk
          have HA := Lib.hid ha; have HNN := Lib.hid hnn; have HCC := Lib.hid hcc; clear ha hnn hcc
          have HB := Lib.hid hblk; clear hblk
          have j0 : (0 : Int) ≤ (q : Int) := by omega
          have j1 : (q : Int) < (k : Int) := by omega
          go_wp2
          go_loopg [7, 8] 64 (fun gk t7 t8 w2 => ∃ (i : Nat) (v : Value), i ≤ 64 ∧ gk = 64 - i ∧ t8 = .int .i64 (i : Int) ∧ v = t7 ∧ wo.grownBy w2 (bl a) ∧ w2.ownsRow B 57 3 v (nk + i) (marks mkC q (nk + i)) ∧ w2.ownsRow B 57 3 (.slice a nk ck) nk (marks mkC q nk) ∧ Sh wo a ck v (nk + i))
          case atStart => exact ⟨0, _, by omega, by omega, rfl, rfl, grown_refl _ _, hown, hown, .inl rfl⟩
          case round =>
            obtain ⟨i, v, hi, rfl, rfl, rfl, hg, ho, ho0, hsh⟩ := hrel
            have hrow2 := (World.cell?_of_block (a := ⟨L, q, none⟩) (hg.block L hLlt (Ne.symm hneL))).trans hrow
            by_cases hli : i < 64
            case pos =>
              have i0 : (0 : Int) ≤ (i : Int) := by omega
              have i1 : (i : Int) < 64 := by omega
              have hBo : B ≤ wr.heap.size := by have := hon.size; have := hg.size; omega
              go_wp2_with (first
                | (go_at_call 101; refine (markToken_any _ _ _ (by omega) (by omega) (by omega) (by omega)).mono ?_; rintro e w3 ⟨rfl, hb3⟩)
                | (at_builtin
                   have hown3 := (own_new ho hb3).alloc (.cells #[.int .u8 0, .string { data := #[] }, .int .i64 (mkI (q : Int) ((nk : Int) + (i : Int)))] 57)
                   have hown30 := (own_new ho0 hb3).alloc (.cells #[.int .u8 0, .string { data := #[] }, .int .i64 (mkI (q : Int) ((nk : Int) + (i : Int)))] 57)
                   have hg3 := grown_trans (grown_trans hg (grown_below hb3 _)) (World.grownBy_alloc w3 (.cells #[.int .u8 0, .string { data := #[] }, .int .i64 (mkI (q : Int) ((nk : Int) + (i : Int)))] 57) _)
                   have hs5 := hg3.size
                   go_must (refine wpList_append_grew _ rfl _ _ _ rfl B 57 ti0 _ 3 32 Tryz.underlying29 hi0 hz0 hz1 hz2 rfl (by omega) v (nk + i) (marks mkC q (nk + i)) rfl hown3 ⟨w3.heap.size, 0, none⟩ 1 1 (mkC q ((nk : Int) + (i : Int))) rfl rfl (World.news_of_block (cs := #[.int .u8 0, .string { data := #[] }, .int .i64 (mkI (q : Int) ((nk : Int) + (i : Int)))]) (heap_alloc_new w3 _)) (by simp [mkC, Value.oneCell']) (by omega) (by unfold maxLen; omega) (by omega) (by have := hb3.size; simp; omega) ?_)
                   intro v' w6 hown6 hgr6 hG6))
              go_roundg (64 - (i + 1))
              case measure => omega
              case rel =>
                have hmk : marks mkC (q : Int) (nk + i) ++ mkC q ((nk : Int) + (i : Int)) = marks mkC q (nk + (i + 1)) := by
                  rw [show nk + (i + 1) = (nk + i) + 1 from rfl, marks_succ]; simp
                rw [hmk] at hown6
                exact ⟨i + 1, v', by omega, rfl, by go_num, rfl, hsh.grown hg3 hgr6, hown6, hsh.elder HB.out hown30 (by omega) hown6 hgr6 hG6 (marks_take mkC_len _ (by omega)), hsh.grew hs5 hG6⟩
            case neg =>
              obtain rfl : i = 64 := by omega
              obtain ⟨g, c', rfl, hgb⟩ := hsh.form ho (by omega)
              obtain ⟨gc, hG1, hG2⟩ := hGS.blk
              have hG3 := (hg.block G hGlt (Ne.symm hgaq)).trans hG1
              have z1 : ∃ u, wr.cell? ⟨G, q, none⟩ = some u := ⟨gc[q]'(by omega), by rw [cell_of_row wr G q gc _ _ hG3]; exact Array.getElem?_eq_getElem _⟩
              obtain ⟨u, z1⟩ := z1
              have z2 : wr.frozen? ⟨G, q, none⟩ = false := frozen_of_row wr G q gc _ hG3
              have HG3 := Lib.hid hG3; have HGG := Lib.hid hG1; clear hG3 hG1
              go_wp2
              go_roundg (k - (q + 1))
              case measure => omega
              case rel =>
                have hgG : g ≠ G := by
                  rintro rfl
                  rcases hgb with e | e
                  · exact hgaq e
                  · omega
                have hga : ∀ m, m < k → m ≠ q → bl (A m) ≠ some g := by
                  intro m hm hmq e
                  rcases hgb with e1 | e1
                  · rcases hLS.ap m q hm hlt hmq with e2 | e2
                    · rw [e] at e2; cases e2
                    · rw [HA.out, e, e1] at e2; exact e2 rfl
                  · have := (hLS.ne_lt hm e).2; omega
                have hL6 : LS 57 3 wr B L k A n C (fun j => marks mkC j (n j)) := (hLS.step hlt (by rw [HA.out]; exact hg) (by rw [HA.out, HNN.out, HCC.out]; exact ho0)).congr fun j hj => by
                  by_cases e : j = q
                  · subst e; rw [if_pos rfl, HNN.out]
                  · rw [if_neg e]
                have hG6 : GS 57 3 29 wr B k A G q (fun j => n j + 64) (fun j => marks mkC j (n j + 64)) := hGS.far hg (Ne.symm hgaq) fun a' j hj hne => by rw [← HA.out]; exact hne q hlt (by omega)
                have hset := grown_set wr ⟨G, q, none⟩ (.slice (some ⟨g, 0, none⟩) (nk + 64) c')
                refine ⟨q + 1, by omega, rfl, by go_num, hL6.far hset (by simp; omega) (fun j hj => .inr (HGA.out j hj)), ?_, ?_⟩
                · have := hG6.put (g := g) (c := c') (by simp only [HNN.out]; exact ho) hlt hgG hga
                  simp only [HNN.out] at this
                  exact this
                · exact (hon.grown hg fun b hb => .inr ⟨q, hlt, by rw [HA.out]; exact hb⟩).grown hset fun b hb => .inl (by simp at hb; omega)
        case neg =>
          obtain rfl : q = k := by omega
          have hL5 := hLS; have hG5 := hGS; have hO5 := hon
          clear hLS hGS hon hL4 hG4 hO4
          go_wp2
          go_loopg [9] q (fun gk t9 wr => ∃ p : Nat, p ≤ q ∧ gk = q - p ∧ t9 = .int .i64 (p : Int) ∧ R3 w wr B L q A n C G q)
          case atStart => exact ⟨0, by omega, by omega, rfl, hL5, hG5, hO5⟩
          case round =>
            clear hL5 hG5 hO5
            obtain ⟨p, hp, rfl, rfl, hLS, hGS, hon⟩ := hrel
            obtain ⟨wo, rfl⟩ : ∃ wo : World, wo = wr := ⟨_, rfl⟩
            by_cases hlt : p < q
            case pos =>
              have hrow := hLS.row p hlt
              have hown := hLS.own p hlt
              have hnk := HN.out p hlt
              obtain ⟨g, c', hgc, hgo, _, _⟩ := hGS.own p hlt
              have HLS := Lib.hid hLS; have HGS := Lib.hid hGS; clear hLS hGS
              obtain ⟨a, ha⟩ : ∃ a, A p = a := ⟨_, rfl⟩
              obtain ⟨nk, hnn⟩ : ∃ x, n p = x := ⟨_, rfl⟩
              obtain ⟨ck, hcc⟩ : ∃ x, C p = x := ⟨_, rfl⟩
              rw [ha, hnn, hcc] at hrow hown
              rw [hnn] at hnk hgc hgo
              clear ha hnn hcc
              have j0 : (0 : Int) ≤ (p : Int) := by omega
              have j1 : (p : Int) < (q : Int) := by omega
              go_wp2
              go_loopg [10] (nk + 64) (fun gk t10 w2 => ∃ i : Nat, i ≤ nk + 64 ∧ gk = nk + 64 - i ∧ t10 = .int .i64 (i : Int) ∧ wo.grownBy w2 none)
              case atStart => exact ⟨0, by omega, by omega, rfl, grown_refl _ _⟩
              case round =>
                obtain ⟨i, hi, rfl, rfl, hg⟩ := hrel
                have d0 := hg.cell hrow (by simp)
                have d1 := hg.cell hgc (by simp)
                by_cases hli : i < nk + 64
                case pos =>
                  have i0 : (0 : Int) ≤ (i : Int) := by omega
                  have i1 : (i : Int) < (nk : Int) + 64 := by omega
                  have i2 : (i : Int) < ((nk + 64 : Nat) : Int) := by omega
                  obtain ⟨mi, hmi⟩ : ∃ x, x = mkI (p : Int) (i : Int) := ⟨_, rfl⟩
                  obtain ⟨b0, b1, b2⟩ := mark_cells (i := i) (m := nk + 64) hgo (List.take_of_length_le (by rw [marks_len mkC_len]; exact Nat.le_refl _)) hli
                  rw [← hmi] at b2
                  have d2 := hg.cell b0 (by simp); have d3 := hg.cell b1 (by simp); have d4 := hg.cell b2 (by simp)
                  have e0 := ext_cell d0; have e1 := ext_cell d1; have e2 := ext_cell d2; have e3 := ext_cell d3; have e4 := ext_cell d4
                  clear b0 b1 b2
                  by_cases hin : i < nk
                  case pos =>
                    have hin' : (i : Int) < (nk : Int) := by omega
                    obtain ⟨g2, rfl⟩ := own_addr hown (by omega)
                    obtain ⟨b0, b1, b2⟩ := mark_cells (i := i) (m := nk) hown (List.take_of_length_le (by rw [marks_len mkC_len]; exact Nat.le_refl _)) hin
                    rw [← hmi] at b2
                    have HM := Lib.hid hmi; clear hmi
                    have d5 := hg.cell b0 (by simp); have d6 := hg.cell b1 (by simp); have d7 := hg.cell b2 (by simp)
                    clear b0 b1 b2
                    have e5 := ext_cell d5; have e6 := ext_cell d6; have e7 := ext_cell d7
                    go_wp2
                    refine wp_region_ext (Below wr.heap.size wr) ((Below.refl _ _).drew) (by kernel_rfl) (by kernel_rfl) ?_
                    repeat (go_big_quiet_step ((go_at_call 101; exact ext_new (Nat.le_refl _) (markToken_is HM.out (by omega) (by omega) (by omega) (by omega)))))
                    refine wpQuiet_nil ?_
                    intro _ hw'
                    obtain ⟨x, hw''⟩ := hw'
                    subst hw''
                    go_wp2
                    go_roundg (nk + 64 - (i + 1))
                    case measure => omega
                    case rel => exact ⟨i + 1, by omega, rfl, by go_num, grown_trans hg (grown_below x.i _)⟩
                  case neg =>
                    have hin' : decide ((i : Int) < (nk : Int)) = false := by simp; omega
                    have HM := Lib.hid hmi; clear hmi
                    go_wp2
                    refine wp_region_ext (Below wr.heap.size wr) ((Below.refl _ _).drew) (by kernel_rfl) (by kernel_rfl) ?_
                    repeat (go_big_quiet_step ((go_at_call 101; exact ext_new (Nat.le_refl _) (markToken_is HM.out (by omega) (by omega) (by omega) (by omega)))))
                    refine wpQuiet_nil ?_
                    intro _ hw'
                    obtain ⟨x, hw''⟩ := hw'
                    subst hw''
                    go_wp2
                    go_roundg (nk + 64 - (i + 1))
                    case measure => omega
                    case rel => exact ⟨i + 1, by omega, rfl, by go_num, grown_trans hg (grown_below x.i _)⟩
                case neg =>
                  obtain rfl : i = nk + 64 := by omega
                  go_wp2
                  go_roundg (q - (p + 1))
                  case measure => omega
                  case rel => exact ⟨p + 1, by omega, rfl, by go_num, HLS.out.none hg, HGS.out.none hg, hon.grown hg (by simp)⟩
            case neg =>
              obtain rfl : p = q := by omega
              have hL7 := hLS
              have hG7 := GS.zero hGS (N' := fun j => n j + 64) (Y' := fun j => marks mkC j (n j) ++ marks mkC ((j : Int) + (p : Int)) 64)
              have hO7 := hon
              clear hLS hGS hon
              go_wp2
              go_loopg [11] p (fun gk t11 wr => ∃ k : Nat, k ≤ p ∧ gk = p - k ∧ t11 = .int .i64 (k : Int) ∧ R7 w wr B L p A n C G k)
              case atStart => exact ⟨0, by omega, by omega, rfl, hL7, hG7, hO7⟩
              case round =>
                clear hL7 hG7 hO7
                obtain ⟨k, hk, rfl, rfl, hLS, hGS, hon⟩ := hrel
                obtain ⟨wo, rfl⟩ : ∃ wo : World, wo = wr := ⟨_, rfl⟩
                by_cases hlt : k < p
                case pos =>
                  have hrow := hLS.row k hlt
                  have hown := hLS.own k hlt
                  have hneL := hLS.neL k hlt
                  have hnk := HN.out k hlt
                  have hblk : ∀ b, bl (A k) = some b → b < wo.heap.size := fun b hb => (hLS.ne_lt hlt hb).2
                  have hgaq := HGA.out k hlt
                  have hGlt := hGS.lt
                  have hLlt := hLS.lt
                  have hBle := hLS.le
                  obtain ⟨gc, hG1, hG2⟩ := hGS.blk
                  have HLS := Lib.hid hLS; have HGS := Lib.hid hGS; clear hLS hGS
                  obtain ⟨a, ha⟩ : ∃ a, A k = a := ⟨_, rfl⟩
                  obtain ⟨nk, hnn⟩ : ∃ x, n k = x := ⟨_, rfl⟩
                  obtain ⟨ck, hcc⟩ : ∃ x, C k = x := ⟨_, rfl⟩
                  rw [ha, hnn, hcc] at hrow hown
                  rw [ha] at hneL hblk hgaq
                  rw [hnn] at hnk
                  have HA := Lib.hid ha; have HNN := Lib.hid hnn; have HCC := Lib.hid hcc; clear ha hnn hcc
                  have HB := Lib.hid hblk; have HG1 := Lib.hid hG1; clear hblk hG1
                  have j0 : (0 : Int) ≤ (k : Int) := by omega
                  have j1 : (k : Int) < (p : Int) := by omega
                  obtain ⟨M, hM⟩ : ∃ M, M = wo.heap.size := ⟨_, rfl⟩
                  have HM := Lib.hid hM; clear hM
                  go_wp2_with (at_make; go_must (refine wpList_make_full _ rfl _ _ _ rfl B 57 ti0 _ 3 Tryz.underlying29 hi0 hz0 hz1 .i64 .i64 64 64 64 rfl rfl rfl rfl (by rw [hz2]; omega) (by unfold maxLen; omega) (by omega) ?_; rw [← HM.out]; intro w5 hown5 hgr5))
                  go_loopg [13] 64 (fun gk t13 w2 => ∃ (i : Nat) (Z : List Value), i ≤ 64 ∧ gk = 64 - i ∧ t13 = .int .i64 (i : Int) ∧ wo.grownBy w2 none ∧ w2.ownsRow B 57 3 (.slice (some ⟨M, 0, none⟩) 64 64) 64 Z ∧ Z.take (i * 3) = marks mkC ((k : Int) + (p : Int)) i)
                  case atStart => exact ⟨0, _, by omega, by omega, rfl, hgr5, hown5, by simp [marks]⟩
                  case round =>
                    clear hown5 hgr5
                    obtain ⟨i, Z, hi, rfl, rfl, hg, ho, hZ⟩ := hrel
                    have HZ := Lib.hid hZ; clear hZ
                    have d0 := hg.cell hrow (by simp)
                    have hzl := ho.1
                    by_cases hli : i < 64
                    case pos =>
                      have i0 : (0 : Int) ≤ (i : Int) := by omega
                      have i1 : (i : Int) < 64 := by omega
                      obtain ⟨y0, y1, y2, b0, b1, b2⟩ := three ho hli
                      have f0 := ho.frozenAt (i * 3); have f1 := ho.frozenAt (i * 3 + 1); have f2 := ho.frozenAt (i * 3 + 2)
                      go_wp2_with (go_at_call 101; refine (markToken_any _ _ _ (by omega) (by omega) (by omega) (by omega)).mono ?_; rintro e w3 ⟨rfl, hb3⟩; obtain ⟨d, d0, d1, d2, d3, d4, d5⟩ := keep7 hb3 (by exact d0) (by exact b0) (by exact b1) (by exact b2) (by exact f0) (by exact f1) (by exact f2))
                      go_roundg (64 - (i + 1))
                      case measure => omega
                      case rel =>
                        refine ⟨i + 1, _, by omega, rfl, by go_num, grown_new (grown_trans hg (grown_below hb3 _)) (set3_grown w3 M _ _ _ _ _ _) (by rw [HM.out]; omega), set3_own (own_new ho hb3) _ _ _ _ _ _, ?_⟩
                        rw [Nat.succ_mul, take_set3 _ _ _ _ _ (by omega), HZ.out, marks_succ]; rfl
                    case neg =>
                      obtain rfl : i = 64 := by omega
                      have hZ := HZ.out
                      rw [List.take_of_length_le (by omega)] at hZ
                      subst hZ
                      have hMl := ho.lt M rfl
                      have hown2 := hown.kept hg (Classical.em _)
                      have hs2 := hg.size
                      have hne : ∀ b, bl a = some b → b ≠ G := fun b hb e => hgaq (by rw [hb, e])
                      have hG3 := (hg.block G hGlt (by simp)).trans HG1.out
                      go_wp2_with (at_builtin; go_must (refine wpList_append_grew _ rfl _ _ _ rfl B 57 ti0 _ 3 32 Tryz.underlying29 hi0 hz0 hz1 hz2 rfl (by omega) (.slice a nk ck) nk (marks mkC k nk) rfl hown2 ⟨M, 0, none⟩ 64 64 (marks mkC ((k : Int) + (p : Int)) 64) rfl (by omega) (ho.cells rfl) (marks_one _ _) (by omega) (by unfold maxLen; omega) (by omega) (by omega) ?_; intro v' w6 hown6 hgr6 hG6; obtain ⟨g, c', rfl, hgb⟩ := grew_form (H := wo.heap.size) hG6 hs2; have hG7 := (hgr6.block G (by omega) (by rw [bl_own]; exact Ne.symm hgaq)).trans hG3; have z1 : w6.cell? ⟨G, k, none⟩ = some (gc[k]'(by omega)) := (by rw [cell_of_row w6 G k gc _ _ hG7]; exact Array.getElem?_eq_getElem _); have z2 : w6.frozen? ⟨G, k, none⟩ = false := frozen_of_row w6 G k gc _ hG7; clear hG7))
                      go_roundg (p - (k + 1))
                      case measure => omega
                      case rel =>
                        have hfull : (marks mkC (k : Int) nk ++ marks mkC ((k : Int) + (p : Int)) 64).take (nk * 3) = marks mkC k nk := by
                          rw [List.take_append_of_le_length (by rw [marks_len mkC_len]; exact Nat.le_refl _), List.take_of_length_le (by rw [marks_len mkC_len]; exact Nat.le_refl _)]
                        have hel := own_elder (N := nk) hown2 (.inl rfl) (by omega) hown6 hgr6 hG6 hfull
                        rw [bl_own] at hgr6
                        have hgw := grown_trans (grown_none hg (bl a)) hgr6
                        have hgG : g ≠ G := by
                          rintro rfl
                          rcases hgb with e | e
                          · exact hgaq e
                          · omega
                        have hga : ∀ m, m < p → m ≠ k → bl (A m) ≠ some g := by
                          intro m hm hmq e
                          rcases hgb with e1 | e1
                          · rcases HLS.out.ap m k hm hlt hmq with e2 | e2
                            · rw [e] at e2; cases e2
                            · rw [HA.out, e, e1] at e2; exact e2 rfl
                          · have := (HLS.out.ne_lt hm e).2; omega
                        have hL8 : LS 57 3 w6 B L p A n C (fun j => marks mkC j (n j)) := (HLS.out.step hlt (by rw [HA.out]; exact hgw) (by rw [HA.out, HNN.out, HCC.out]; exact hel)).congr fun j hj => by
                          by_cases e : j = k
                          · subst e; rw [if_pos rfl, HNN.out]
                          · rw [if_neg e]
                        have hG8 := HGS.out.far hgw (Ne.symm hgaq) fun a' j hj hne => by rw [← HA.out]; exact hne k hlt (by omega)
                        have hset := grown_set w6 ⟨G, k, none⟩ (.slice (some ⟨g, 0, none⟩) (nk + 64) c')
                        refine ⟨k + 1, by omega, rfl, by go_num, hL8.far hset (by simp; omega) (fun j hj => .inr (HGA.out j hj)), ?_, ?_⟩
                        · have := hG8.put (g := g) (c := c') (by simp only [HNN.out]; exact hown6) hlt hgG hga
                          simp only [HNN.out] at this
                          exact this
                        · exact (hon.grown hgw fun b hb => .inr ⟨k, hlt, by rw [HA.out]; exact hb⟩).grown hset fun b hb => .inl (by simp at hb; omega)
                case neg =>
                  obtain rfl : k = p := by omega
                  have hL9 := hLS; have hG9 := hGS; have hO9 := hon
                  clear hLS hGS hon
                  go_wp2
                  go_loopg [14] k (fun gk t14 wr => ∃ m : Nat, m ≤ k ∧ gk = k - m ∧ t14 = .int .i64 (m : Int) ∧ R7 w wr B L k A n C G k)
                  case atStart => exact ⟨0, by omega, by omega, rfl, hL9, hG9, hO9⟩
                  case round =>
                    clear hL9 hG9 hO9
                    obtain ⟨m, hm, rfl, rfl, hLS, hGS, hon⟩ := hrel
                    obtain ⟨wo, rfl⟩ : ∃ wo : World, wo = wr := ⟨_, rfl⟩
                    by_cases hlt : m < k
                    case pos =>
                      have hrow := hLS.row m hlt
                      have hown := hLS.own m hlt
                      have hnk := HN.out m hlt
                      obtain ⟨g, c', hgc, hgo, _, _⟩ := hGS.own m hlt
                      have HLS := Lib.hid hLS; have HGS := Lib.hid hGS; clear hLS hGS
                      obtain ⟨a, ha⟩ : ∃ a, A m = a := ⟨_, rfl⟩
                      obtain ⟨nk, hnn⟩ : ∃ x, n m = x := ⟨_, rfl⟩
                      obtain ⟨ck, hcc⟩ : ∃ x, C m = x := ⟨_, rfl⟩
                      rw [ha, hnn, hcc] at hrow hown
                      rw [hnn] at hnk hgc hgo
                      clear ha hnn hcc
                      have j0 : (0 : Int) ≤ (m : Int) := by omega
                      have j1 : (m : Int) < (k : Int) := by omega
                      go_wp2
                      go_loopg [15] nk (fun gk t15 w2 => ∃ i : Nat, i ≤ nk ∧ gk = nk - i ∧ t15 = .int .i64 (i : Int) ∧ wo.grownBy w2 none)
                      case atStart => exact ⟨0, by omega, by omega, rfl, grown_refl _ _⟩
                      case round =>
                        obtain ⟨i, hi, rfl, rfl, hg⟩ := hrel
                        have d0 := hg.cell hrow (by simp)
                        have d1 := hg.cell hgc (by simp)
                        by_cases hli : i < nk
                        case pos =>
                          have i0 : (0 : Int) ≤ (i : Int) := by omega
                          have i1 : (i : Int) < (nk : Int) := by omega
                          have i2 : (i : Int) < ((nk + 64 : Nat) : Int) := by omega
                          have i3 : (i : Int) < (nk : Int) + 64 := by omega
                          obtain ⟨mi, hmi⟩ : ∃ x, x = mkI (m : Int) (i : Int) := ⟨_, rfl⟩
                          obtain ⟨g2, rfl⟩ := own_addr hown (by omega)
                          obtain ⟨b0, b1, b2⟩ := mark_cells (i := i) (m := nk) hgo (by rw [List.take_append_of_le_length (by rw [marks_len mkC_len]; exact Nat.le_refl _), List.take_of_length_le (by rw [marks_len mkC_len]; exact Nat.le_refl _)]) hli
                          obtain ⟨b3, b4, b5⟩ := mark_cells (i := i) (m := nk) hown (List.take_of_length_le (by rw [marks_len mkC_len]; exact Nat.le_refl _)) hli
                          rw [← hmi] at b2 b5
                          have HM := Lib.hid hmi; clear hmi
                          have e0 := ext_cell d0; have e1 := ext_cell d1
                          have e2 := ext_cell (hg.cell b0 (by simp)); have e3 := ext_cell (hg.cell b1 (by simp)); have e4 := ext_cell (hg.cell b2 (by simp))
                          have e5 := ext_cell (hg.cell b3 (by simp)); have e6 := ext_cell (hg.cell b4 (by simp)); have e7 := ext_cell (hg.cell b5 (by simp))
                          clear b0 b1 b2 b3 b4 b5
                          go_wp2
                          refine wp_region_ext (Below wr.heap.size wr) ((Below.refl _ _).drew) (by kernel_rfl) (by kernel_rfl) ?_
                          repeat (go_big_quiet_step ((go_at_call 101; exact ext_new (Nat.le_refl _) (markToken_is HM.out (by omega) (by omega) (by omega) (by omega)))))
                          refine wpQuiet_nil ?_
                          intro _ hw'
                          obtain ⟨x, hw''⟩ := hw'
                          subst hw''
                          go_wp2
                          go_roundg (nk - (i + 1))
                          case measure => omega
                          case rel => exact ⟨i + 1, by omega, rfl, by go_num, grown_trans hg (grown_below x.i _)⟩
                        case neg =>
                          obtain rfl : i = nk := by omega
                          go_wp2
                          go_roundg (k - (m + 1))
                          case measure => omega
                          case rel => exact ⟨m + 1, by omega, rfl, by go_num, HLS.out.none hg, HGS.out.none hg, hon.grown hg (by simp)⟩
                    case neg =>
                      obtain rfl : m = k := by omega
                      go_wp2
                      go_ret
                      exact ⟨rfl, hon⟩
end Go.Proofs.YtfecjoheabkloaaGreatDoor.Flat
