/- The writer of grammars' texts: its builder, walked. -/
import Derived.Test.YtghebacphjglbaaGreatTxD
import Derived.Test.YtghebacphjglbaaGreatWrE
import Derived.Lib.OthersKept
namespace Go.Proofs.YtghebacphjglbaaGreat.WrF
open Go.RowKit Go.Proofs.YtghebacphjglbaaGreat.Lexy Go.Proofs.YtghebacphjglbaaGreat.LexA Go.Proofs.YtghebacphjglbaaGreat.LexB Go.Proofs.YtghebacphjglbaaGreat.LexC Go.Proofs.YtghebacphjglbaaGreat.LexD Go.Proofs.YtghebacphjglbaaGreat.LexE Go.Proofs.YtghebacphjglbaaGreat.LexF Go.Proofs.YtghebacphjglbaaGreat.LexG Go.Proofs.YtghebacphjglbaaGreat.Heap Go.Proofs.YtghebacphjglbaaGreat.Dat Go.Proofs.YtghebacphjglbaaGreat.Ready Go.Proofs.YtghebacphjglbaaGreat.ReadA Go.Proofs.YtghebacphjglbaaGreat.WrE

/-- what a text writes to, and what it holds; all that is older than B is not its own -/
abbrev IsW (B b : Nat) (l : List UInt8) (w : World) : Prop := Lib.IsBuilderF 80 5 B b (Lib.byteCells l) w
/-- what is no row of bytes, nor the writer, is as it was -/
structure Kb (B b : Nat) (w w' : World) : Prop where
  below : Below B w w'
  kept : Lib.OthersKept 5 (some b) w w'
theorem Kb.refl (B b : Nat) (w : World) : Kb B b w w := ⟨Below.refl _ _, .refl _ _ _⟩
theorem Kb.trans {B b : Nat} {w w1 w2 : World} (h : Kb B b w w1) (k : Kb B b w1 w2) : Kb B b w w2 := ⟨h.below.trans k.below, h.kept.trans k.kept⟩
theorem Kb.new {B b : Nat} {w w1 w2 : World} (h : Kb B b w w1) (hb : Below w1.heap.size w1 w2) (hB : B ≤ w1.heap.size) : Kb B b w w2 :=
  ⟨h.below.trans (hb.mono hB), fun k o hk h1 h2 => by
    have h3 := h.kept k o hk h1 h2
    exact (hb.block k (Array.getElem?_eq_some_iff.1 h3).1).trans h3⟩
theorem Kb.size {B b : Nat} {w w1 : World} (h : Kb B b w w1) : w.heap.size ≤ w1.heap.size := h.below.size
theorem Kb.heap {B b k : Nat} {w w1 : World} (h : Kb B b w w1) {cs : Array Value} {t : TypeId} {fz : Nat × Nat} (hk : w.heap[k]? = some (.cells cs t fz)) (hb : k ≠ b) (ht : t ≠ 5) : w1.heap[k]? = some (.cells cs t fz) :=
  h.kept k _ hk (by simpa using hb) (fun c fz e => ht (by injection e))
theorem IsW.lt {B b : Nat} {l : List UInt8} {w : World} (h : IsW B b l w) : b < w.heap.size := h.elim (fun x => x.lt) (fun x => x.lt)
theorem IsW.new {B b : Nat} {l : List UInt8} {w w' : World} (h : IsW B b l w) (hb : Below w.heap.size w w') : IsW B b l w' := by
  have key : ∀ p, Lib.BuilderAtF 80 5 B b p (Lib.byteCells l) w → Lib.BuilderAtF 80 5 B b p (Lib.byteCells l) w' := by
    intro p h
    have hlt := h.lt
    obtain ⟨hB, v, hv, hown, hne⟩ := h
    exact ⟨hB, v, (hb.block _ hlt).trans hv, hown.kept (grown_below hb none) (by cases v.ownBlock <;> simp), hne⟩
  exact h.imp (key _) (key _)
theorem bSize : (Tryz.prog.info? 47).map (·.size) = some 2 := by kernel_rfl
theorem wLies : liesAt Tryz.prog Tryz.prog.depth 80 (2 / Tryz.prog.cellsOf 80) 0 47 1 = true := by kernel_rfl
theorem u8Info : (Tryz.prog.info? 5).map (fun i => (i.zero, i.size, i.bytes)) = some (some (.int .u8 0), 1, 1) := by kernel_rfl
theorem u8Cells : Tryz.prog.cellsOf 5 = 1 := by kernel_rfl

set_option maxHeartbeats 1000000 in
set_option maxRecDepth 100000 in
theorem check_used {b : Nat} {w : World} (h0 : w.cell? ⟨b, 0, none⟩ = some (.pointer (some ⟨b, 0, none⟩))) :
    Calls Tryz.prog 24 #[.pointer (some ⟨b, 0, none⟩)] w fun e w' => e = .returned (.tuple #[]) ∧ w' = w := by
  obtain ⟨j, hj, _⟩ := Option.map_eq_some_iff.1 bSize
  have hne := Lib.run_neq_ptr_same (P := Tryz.prog) w ⟨b, 0, none⟩ Tryz.underlying44 hj
  go_enter Tryz.func24, Tryz.ntmps24
  go_wp2
  go_end0
  exact ⟨rfl, rfl⟩
set_option maxHeartbeats 1000000 in
set_option maxRecDepth 100000 in
theorem check_fresh {b : Nat} {w : World} (h0 : w.cell? ⟨b, 0, none⟩ = some (.pointer none)) (hsh : w.shape? b = some (80, 2)) (hfz : w.frozen? ⟨b, 0, none⟩ = false) :
    Calls Tryz.prog 24 #[.pointer (some ⟨b, 0, none⟩)] w fun e w' => e = .returned (.tuple #[]) ∧ w' = w.setCell ⟨b, 0, none⟩ (.pointer (some ⟨b, 0, none⟩)) := by
  obtain ⟨j, hj, hjs⟩ := Option.map_eq_some_iff.1 bSize
  have h1 := Lib.run_to_unsafe (P := Tryz.prog) w ⟨b, 0, none⟩ Tryz.underlying44 Tryz.underlying88 hj (by rw [hjs]; decide) hsh (Nat.zero_lt_succ 1)
  have h2 : (callFunc 42 #[.pointer (some ⟨b, 0, none⟩)]).run Tryz.prog w = .ok (.value (.pointer (some ⟨b, 0, none⟩))) w := by kernel_rfl
  have h3 := Lib.run_from_unsafe (P := Tryz.prog) w ⟨b, 0, none⟩ Tryz.underlying88 Tryz.underlying44 hj hsh wLies
  go_enter Tryz.func24, Tryz.ntmps24
  go_wp2
  go_end0
  exact ⟨rfl, rfl⟩
theorem check_any {B b : Nat} {l : List UInt8} {w : World} (h : IsW B b l w) :
    Calls Tryz.prog 24 #[.pointer (some ⟨b, 0, none⟩)] w fun e w' => e = .returned (.tuple #[]) ∧ Lib.BuilderAtF 80 5 B b (.pointer (some ⟨b, 0, none⟩)) (Lib.byteCells l) w' ∧ Kb B b w w' := by
  rcases h with h | h
  · refine (check_fresh h.cell0 h.shape h.frozen0).mono ?_
    rintro e w' ⟨rfl, rfl⟩
    exact ⟨rfl, h.used _, (Below.refl B w).setCell (p := ⟨b, 0, none⟩) h.1 _, (Lib.OthersKept.refl _ _ w).setCell ⟨b, 0, none⟩ rfl _⟩
  · refine (check_used h.cell0).mono ?_
    rintro e w' ⟨rfl, rfl⟩
    exact ⟨rfl, h, .refl _ _ _⟩
set_option maxHeartbeats 2000000 in
set_option maxRecDepth 100000 in
/-- a text is written behind -/
theorem write_any {B b : Nat} {l s : List UInt8} {w : World} (h : IsW B b l w) (hlen : l.length + s.length ≤ 140737488355328) (hBw : B ≤ w.heap.size) :
    Calls Tryz.prog 12 #[.pointer (some ⟨b, 0, none⟩), .string (bs s)] w fun e w' => e = .returned (.tuple #[.int .i64 (s.length : Int), .nilIface]) ∧ IsW B b (l ++ s) w' ∧ Kb B b w w' := by
  obtain ⟨i0, hi, hz0, hz1, hz2⟩ := info_parts u8Info
  have hss : (bs s).size = s.length := by simp [bs, ByteArray.size]
  have hcells : Lib.strCells (bs s) = Lib.byteCells s := rfl
  generalize bs s = z at hss hcells ⊢
  go_enter Tryz.func12, Tryz.ntmps12
  go_wp2_with (go_at_call 24; refine (check_any h).mono ?_)
  rintro e w1 ⟨rfl, h1, hk1⟩
  have hb1 := hk1.below
  obtain ⟨hB, v, hbk, hown, hne⟩ := h1
  have c0 : w1.cell? ⟨b, 0, none⟩ = some (.pointer (some ⟨b, 0, none⟩)) := by rw [Lib.cell_of_heap hbk]; rfl
  have c1 : w1.cell? ⟨b, 1, none⟩ = some v := by rw [Lib.cell_of_heap hbk]; rfl
  rw [Lib.byteCells_length] at hown
  go_wp2_with (at_builtin; refine Lib.wpList_append_own_stringF _ rfl _ _ 45 9 rfl B 5 i0 Tryz.underlying45 Tryz.underlying9 hi hz0 hz1 hz2 _ _ _ rfl hown z rfl ?c3 ?c4 ?c5 ?_)
  case c3 => unfold maxLen; omega
  case c4 => omega
  case c5 => have := hb1.size; omega
  intro v' w2 hown' hgrow _
  have hlt : b < w1.heap.size := (Array.getElem?_eq_some_iff.1 hbk).1
  have hb2 : w2.heap[b]? = some (.cells #[.pointer (some ⟨b, 0, none⟩), v] 80 (0, 0)) := by
    rw [hgrow.block b hlt (fun e => hne e.symm)]
    exact hbk
  have d0 : w2.cell? ⟨b, 0, none⟩ = some (.pointer (some ⟨b, 0, none⟩)) := by rw [Lib.cell_of_heap hb2]; rfl
  have d1 : w2.cell? ⟨b, 1, none⟩ = some v := by rw [Lib.cell_of_heap hb2]; rfl
  have f1 : w2.frozen? ⟨b, 1, none⟩ = false := Lib.frozen_of_heap hb2 1
  obtain ⟨ao, n', cap, rfl⟩ : ∃ ao n' cap, v' = .slice ao n' cap := by
    rcases hown'.2 with ⟨hv, _⟩ | ⟨g, cap, cur, fz, hv, _⟩
    · exact ⟨_, _, _, hv⟩
    · exact ⟨_, _, _, hv⟩
  have hput := Lib.BuilderAtF.put (T := 80) (e := 5) hB hb2 (bs' := Lib.byteCells (l ++ s)) (v' := .slice ao n' cap) (by rw [Lib.byteCells_length, List.length_append]; simpa [Lib.byteCells] using hown') (by decide)
  have hKb : Kb B b w (w2.setCell ⟨b, 1, none⟩ (.slice ao n' cap)) := ⟨(hb1.grown hgrow (by have := hb1.size; omega) (fun k hk => (hown.lt k hk).1)).setCell (p := ⟨b, 1, none⟩) hB _, (hk1.kept.grown hgrow (Lib.ownsRowF_kind hown)).setCell ⟨b, 1, none⟩ rfl _⟩
  clear hown hown' hgrow hb2 hbk hb1 hk1 hne hcells
  go_wp2
  go_ret2
  exact ⟨rfl, .inr hput, hKb⟩
set_option maxHeartbeats 1000000 in
set_option maxRecDepth 100000 in
/-- what it holds, as a text -/
theorem string_any {B b : Nat} {l : List UInt8} {w : World} (h : IsW B b l w) (h0 : l ≠ []) :
    Calls Tryz.prog 14 #[.pointer (some ⟨b, 0, none⟩)] w fun e w' => e = .returned (.string (bs l)) ∧ IsW B b l w' ∧ Kb B b w w' := by
  obtain ⟨p, hp, hAt⟩ : ∃ p, (p = .pointer none ∨ p = .pointer (some ⟨b, 0, none⟩)) ∧ Lib.BuilderAtF 80 5 B b p (Lib.byteCells l) w := by
    rcases h with h | h
    · exact ⟨_, .inl rfl, h⟩
    · exact ⟨_, .inr rfl, h⟩
  obtain ⟨hB, v, hbk, hown, hne⟩ := hAt
  have hl0 : l.length ≠ 0 := by simpa using h0
  rw [Lib.byteCells_length] at hown
  obtain ⟨g, cap, cur, fz, rfl, hbg, hg, hfz, hnc, hcm, hcs, htake⟩ : ∃ g cap cur fz, v = .slice (some ⟨g, 0, none⟩) l.length cap ∧ B ≤ g ∧ w.heap[g]? = some (.cells cur 5 fz) ∧ fz.2 ≤ l.length * 1 ∧ l.length ≤ cap ∧ cap ≤ maxLen ∧ cur.size = cap * 1 ∧ cur.toList.take (l.length * 1) = Lib.byteCells l := by
    rcases hown.2 with ⟨_, hz⟩ | ⟨g, cap, cur, fz, hv, r⟩
    · exact absurd hz hl0
    · exact ⟨g, cap, cur, fz, hv, r⟩
  have c1 : w.drew.cell? ⟨b, 1, none⟩ = some (.slice (some ⟨g, 0, none⟩) l.length cap) := by
    have : w.drew.heap[b]? = some (.cells #[p, .slice (some ⟨g, 0, none⟩) l.length cap] 80 (0, 0)) := hbk
    rw [Lib.cell_of_heap this]; rfl
  have hSD : (Builtin.unsafeSliceData_ #[45] 71 #[.slice (some ⟨g, 0, none⟩) l.length cap]).run Tryz.prog w.drew = .ok (.pointer (some ⟨g, 0, none⟩)) w.drew :=
    Lib.run_unsafeSliceData_row _ _ _ _ _ _ (by omega)
  have hUS : (Builtin.unsafeString_ #[71, 3] 9 #[.pointer (some ⟨g, 0, none⟩), .int .i64 l.length]).run Tryz.prog w.drew = .ok (.string (bs l)) (w.drew.freeze ⟨g, 0, none⟩ l.length) := by
    refine Lib.run_unsafeString_row w.drew 71 3 9 5 Tryz.underlying71 u8Cells g cur.size (by have hg' : w.drew.heap[g]? = some (.cells cur 5 fz) := hg; simp [World.shape?, hg']) l h0 (by omega) (by unfold maxLen at hcm; omega) ?_
    intro j x hx
    have := hown.cells (g := g) rfl j (.int .u8 x.toNat) (by simp [Lib.byteCells, hx])
    exact this
  have hkeep : IsW B b l (w.drew.freeze ⟨g, 0, none⟩ l.length) := by
    have hA : Lib.BuilderAtF 80 5 B b p (Lib.byteCells l) w.drew := ⟨hB, _, hbk, by rw [Lib.byteCells_length]; exact hown, hne⟩
    have hF := hA.froze (g := g) (cap := cap) (by rw [Lib.byteCells_length]; exact c1)
    rw [Lib.byteCells_length] at hF
    rcases hp with rfl | rfl
    · exact .inl hF
    · exact .inr hF
  have hKb : Kb B b w (w.drew.freeze ⟨g, 0, none⟩ l.length) := ⟨Lib.below_freeze (Below.drew (Below.refl B w)) (p := ⟨g, 0, none⟩) hbg _, ((Lib.OthersKept.refl _ _ w).drew).freeze ⟨g, 0, none⟩ _ ⟨cur, fz, hg⟩⟩
  generalize bs l = z at hUS ⊢
  clear h hown hbk hne htake hcs hg h0
  have hmix : Tryz.prog.follows Departure.mixedOrders = true := by kernel_rfl
  go_enter Tryz.func14, Tryz.ntmps14
  go_wp2
  go_region_o
  all_goals (go_wp2; go_ret; exact ⟨rfl, hkeep, hKb⟩)
end Go.Proofs.YtghebacphjglbaaGreat.WrF
/- The writer of grammars' texts: what is one token; what must be; texts put, walked. -/
namespace Go.Proofs.YtghebacphjglbaaGreat.WrG
open Go.RowKit Go.Proofs.YtghebacphjglbaaGreat.Lexy Go.Proofs.YtghebacphjglbaaGreat.LexA Go.Proofs.YtghebacphjglbaaGreat.LexB Go.Proofs.YtghebacphjglbaaGreat.LexC Go.Proofs.YtghebacphjglbaaGreat.LexD Go.Proofs.YtghebacphjglbaaGreat.LexE Go.Proofs.YtghebacphjglbaaGreat.LexF Go.Proofs.YtghebacphjglbaaGreat.LexG Go.Proofs.YtghebacphjglbaaGreat.Heap Go.Proofs.YtghebacphjglbaaGreat.Dat Go.Proofs.YtghebacphjglbaaGreat.Ready Go.Proofs.YtghebacphjglbaaGreat.ReadA Go.Proofs.YtghebacphjglbaaGreat.WrE Go.Proofs.YtghebacphjglbaaGreat.WrF

/-- what a call hangs on, but for its arguments -/
structure Env (B : Nat) (m : Int) (w : World) : Prop where
  cell : w.cell? ⟨0, 0, none⟩ = some (.int .i64 m)
  lt : 0 < B
  size : B ≤ w.heap.size
theorem Env.below {B : Nat} {m : Int} {w w' : World} (h : Env B m w) (hb : Below B w w') : Env B m w' := ⟨(hb.cell (p := ⟨0, 0, none⟩) h.lt).trans h.cell, h.lt, Nat.le_trans h.size hb.size⟩
theorem Env.kb {B b : Nat} {m : Int} {w w' : World} (h : Env B m w) (hb : Kb B b w w') : Env B m w' := h.below hb.below
theorem Env.new {B : Nat} {m : Int} {w w' : World} (h : Env B m w) (hb : Below w.heap.size w w') : Env B m w' := h.below (hb.mono h.size)
/-- a token's cells, behind a new block -/
theorem toks_at {w : World} {g : Nat} {l : List Tok} (h : IsToks w g l) (hg : g < w.heap.size) (i j : Nat) (hi : i < l.length) (hj : j = i * 3) (t : Tok) (ht : tk l i = t) :
    ∀ o, (w.alloc o).cell? ⟨g, j, none⟩ = some (.int .u8 (t.kind : Int)) ∧ (w.alloc o).cell? ⟨g, j + 1, none⟩ = some (.string (bs t.text)) ∧ (w.alloc o).cell? ⟨g, j + 2, none⟩ = some (.int .i64 (t.at_ : Int)) := by
  subst hj ht
  intro o
  obtain ⟨a, b, c⟩ := h i hi
  exact ⟨(World.cell?_alloc_past _ _ _ hg).trans a, (World.cell?_alloc_past _ _ _ hg).trans b, (World.cell?_alloc_past _ _ _ hg).trans c⟩
theorem strs_eq (l s : List UInt8) : ((bs l).toList == (bs s).toList) = decide (l = s) := by
  rw [bs_toList, bs_toList]
  by_cases h : l = s
  · rw [decide_eq_true h]; exact beq_iff_eq.2 h
  · rw [decide_eq_false h]; exact beq_eq_false_iff_ne.2 h
set_option maxRecDepth 100000 in
set_option maxHeartbeats 1000000 in
theorem one_any {s t : List UInt8} {k : Nat} {kz : Int} {v : Bool} {w : World} {m : Int} (hs : s.length ≤ 140737488351232) (hm : w.cell? ⟨0, 0, none⟩ = some (.int .i64 m)) (hz : kz = (k : Int)) (hv : oneB s k t = v) :
    Calls Tryz.prog 71 #[.string (bs s), .int .u8 kz, .string (bs t)] w fun e w' => e = .returned (.bool v) ∧ Below w.heap.size w w' := by
  subst hz hv
  have hsz : (bs s).size ≤ 140737488351232 := by simpa [bs, ByteArray.size] using hs
  have HB := Lib.hid (show (bs s).data.toList = s by simp [bs])
  cases ht : toks s with
  | bad x p =>
    have hx := toks_bad _ _ _ ht
    have hx0 : ((x : Int) == 0) = false := beq_eq_false_iff_ne.2 (by omega)
    have HT := Lib.hid ht; clear ht hx
    generalize bs s = sz at hsz HB ⊢
    generalize bs t = tz
    go_enter Tryz.func71, Tryz.ntmps71
    go_wp2_with (go_at_call 85; refine (tokens_bad hsz hm (by rw [HB.out]; exact HT.out)).mono ?_; rintro e w1 ⟨rfl, hb⟩)
    go_ret
    exact ⟨ret_bool (by unfold oneB; rw [HT.out]), hb.alloc hb.size _⟩
  | good l =>
    by_cases hl : l.length = 2
    · obtain ⟨u, e, rfl⟩ : ∃ t e, l = [t, e] := by
        match l, hl with
        | [t, e], _ => exact ⟨t, e, rfl⟩
      have HT := Lib.hid ht; clear ht hl
      by_cases hk : u.kind = k
      · have k1 : ((u.kind : Int) == (k : Int)) = true := by rw [hk]; exact beq_iff_eq.2 rfl
        have HK := Lib.hid hk; clear hk
        have k2 := strs_eq u.text t
        generalize hd : decide (u.text = t) = d at k2
        have HD := Lib.hid hd; clear hd
        generalize bs s = sz at hsz HB ⊢
        generalize bs t = tz at k2 ⊢
        cases d with
        | true =>
          go_enter Tryz.func71, Tryz.ntmps71
          go_wp2_with (go_at_call 85; refine (tokens_good hsz hm (by rw [HB.out]; exact HT.out)).mono ?_; rintro e w1 ⟨g, cap, rfl, hg1, hg2, hg3, hg4, hg5, hb⟩; have q0 := fun o => (toks_at hg5 hg2 0 0 (by simp) rfl u rfl o).1; have q1 := fun o => (toks_at hg5 hg2 0 0 (by simp) rfl u rfl o).2.1)
          go_ret
          exact ⟨ret_bool (by unfold oneB; rw [HT.out]; simp [HK.out, of_decide_eq_true HD.out, Ready.tok]), hb.alloc hb.size _⟩
        | false =>
          go_enter Tryz.func71, Tryz.ntmps71
          go_wp2_with (go_at_call 85; refine (tokens_good hsz hm (by rw [HB.out]; exact HT.out)).mono ?_; rintro e w1 ⟨g, cap, rfl, hg1, hg2, hg3, hg4, hg5, hb⟩; have q0 := fun o => (toks_at hg5 hg2 0 0 (by simp) rfl u rfl o).1; have q1 := fun o => (toks_at hg5 hg2 0 0 (by simp) rfl u rfl o).2.1)
          go_ret
          exact ⟨ret_bool (by unfold oneB; rw [HT.out]; simp [HK.out, of_decide_eq_false HD.out, Ready.tok]), hb.alloc hb.size _⟩
      · have k1 : ((u.kind : Int) == (k : Int)) = false := beq_eq_false_iff_ne.2 (by omega)
        have HK := Lib.hid hk; clear hk
        generalize bs s = sz at hsz HB ⊢
        generalize bs t = tz
        go_enter Tryz.func71, Tryz.ntmps71
        go_wp2_with (go_at_call 85; refine (tokens_good hsz hm (by rw [HB.out]; exact HT.out)).mono ?_; rintro e w1 ⟨g, cap, rfl, hg1, hg2, hg3, hg4, hg5, hb⟩; have q0 := fun o => (toks_at hg5 hg2 0 0 (by simp) rfl u rfl o).1; have q1 := fun o => (toks_at hg5 hg2 0 0 (by simp) rfl u rfl o).2.1)
        go_ret
        exact ⟨ret_bool (by unfold oneB; rw [HT.out]; simp [HK.out, Ready.tok]), hb.alloc hb.size _⟩
    · have hl0 : ((l.length : Int) == 2) = false := beq_eq_false_iff_ne.2 (by omega)
      have HL := Lib.hid hl; clear hl
      have HT := Lib.hid ht; clear ht
      generalize bs s = sz at hsz HB ⊢
      generalize bs t = tz
      go_enter Tryz.func71, Tryz.ntmps71
      go_wp2_with (go_at_call 85; refine (tokens_good hsz hm (by rw [HB.out]; exact HT.out)).mono ?_; rintro e w1 ⟨g, cap, rfl, hg1, hg2, hg3, hg4, hg5, hb⟩)
      go_ret
      refine ⟨ret_bool ?_, hb.alloc hb.size _⟩
      unfold oneB; rw [HT.out]
      simp [HL.out]
theorem name_any {s : List UInt8} {v : Bool} {w : World} {m : Int} (hs : s.length ≤ 140737488351232) (hm : w.cell? ⟨0, 0, none⟩ = some (.int .i64 m)) (hv : nameB s = v) :
    Calls Tryz.prog 69 #[.string (bs s)] w fun e w' => e = .returned (.bool v) ∧ Below w.heap.size w w' := by
  have ho := Lib.hid (one_any (kz := 2) hs hm rfl hv)
  generalize bs s = sz at ho ⊢
  clear hs hm hv
  go_enter Tryz.func69, Tryz.ntmps69
  go_wp2_with (go_at_call 71; refine (ho.out).mono ?_; rintro e w1 ⟨rfl, hb⟩)
  go_ret
  exact ⟨rfl, hb⟩
/-- the writer's own panic -/
def wrongP : List PanicEntry := [{ v := .iface 76 (.agg #[]), recovered := false }]
/-- how what must be ends -/
def Must (v : Bool) (e : Ending) : Prop := if v = true then e = .returned (.tuple #[]) else e = .panicked wrongP
set_option maxRecDepth 100000 in
set_option maxHeartbeats 1000000 in
theorem must_t {w : World} {g : Nat} (hg : g = w.heap.size) : Calls Tryz.prog 48 #[.slice (some ⟨g, 0, none⟩) 1 1] (w.alloc (.cells #[.bool true] 4)) fun e w' => e = .returned (.tuple #[]) ∧ w' = w.alloc (.cells #[.bool true] 4) := by
  subst hg
  have c0 : (w.alloc (.cells #[.bool true] 4)).cell? ⟨w.heap.size, 0, none⟩ = some (.bool true) := cell_of_row _ w.heap.size 0 _ _ (0, 0) (heap_alloc_new w _)
  generalize w.alloc (.cells #[.bool true] 4) = w1 at *
  generalize w.heap.size = g at *
  go_enter Tryz.func48, Tryz.ntmps48
  go_wp2
  go_loopg [6] 1 (fun gk i wr => ∃ k : Nat, k ≤ 1 ∧ gk = 1 - k ∧ i = .int .i64 (k : Int) ∧ wr = w1)
  case atStart => exact ⟨0, by omega, by omega, rfl, rfl⟩
  case round =>
    obtain ⟨k, hk, rfl, rfl, rfl⟩ := hrel
    rcases (by omega : k = 0 ∨ k = 1) with rfl | rfl
    · go_wp2
      go_roundg 0
      case measure => omega
      case rel => exact ⟨1, by omega, by omega, rfl, rfl⟩
    · go_wp2
      go_end0
      exact ⟨rfl, rfl⟩
set_option maxRecDepth 100000 in
set_option maxHeartbeats 1000000 in
theorem must_f {w : World} {g : Nat} (hg : g = w.heap.size) : Calls Tryz.prog 48 #[.slice (some ⟨g, 0, none⟩) 1 1] (w.alloc (.cells #[.bool false] 4)) fun e w' => e = .panicked wrongP ∧ w' = w.alloc (.cells #[.bool false] 4) := by
  subst hg
  have c0 : (w.alloc (.cells #[.bool false] 4)).cell? ⟨w.heap.size, 0, none⟩ = some (.bool false) := cell_of_row _ w.heap.size 0 _ _ (0, 0) (heap_alloc_new w _)
  generalize w.alloc (.cells #[.bool false] 4) = w1 at *
  generalize w.heap.size = g at *
  go_enter Tryz.func48, Tryz.ntmps48
  go_wp2
  go_loopg [6] 1 (fun gk i wr => gk = 1 ∧ i = .int .i64 0 ∧ wr = w1)
  case atStart => exact ⟨rfl, rfl, rfl⟩
  case round =>
    obtain ⟨rfl, rfl, rfl⟩ := hrel
    go_wp2
    exact ⟨rfl, rfl, rfl⟩
theorem flat_next {α : Type} {ts : List (List α)} {k : Nat} (h : k < ts.length) : (ts.take (k + 1)).flatten = (ts.take k).flatten ++ ts[k] := by
  have e : ts.take (k + 1) = ts.take k ++ [ts[k]] := by simp
  rw [e, List.flatten_append]
  simp
set_option maxRecDepth 100000 in
set_option maxHeartbeats 2000000 in
/-- texts put behind -/
theorem put_any {B b g c : Nat} {l : List UInt8} {ts : List (List UInt8)} {w : World} (h : IsW B b l w) (hB : B ≤ w.heap.size) (ht : ∀ w', Kb B b w w' → ∀ j (hj : j < ts.length), w'.cell? ⟨g, j, none⟩ = some (.string (bs (ts[j])))) (hlen : l.length + ts.flatten.length ≤ 140737488355328) (hts : ts.length ≤ 1000000) :
    Calls Tryz.prog 32 #[.pointer (some ⟨b, 0, none⟩), .slice (some ⟨g, 0, none⟩) ts.length c] w fun e w' => e = .returned (.tuple #[]) ∧ IsW B b (l ++ ts.flatten) w' ∧ Kb B b w w' := by
  have H := Lib.hid h; have HT := Lib.hid ht; have HL := Lib.hid hlen
  clear h ht hlen
  go_enter Tryz.func32, Tryz.ntmps32
  go_wp2
  go_loopg [8] ts.length (fun gk i wr => ∃ (k : Nat), k ≤ ts.length ∧ gk = ts.length - k ∧ i = .int .i64 (k : Int) ∧ IsW B b (l ++ (ts.take k).flatten) wr ∧ Kb B b w wr)
  case atStart => exact ⟨0, by omega, by omega, rfl, by simpa using H.out, .refl _ _ _⟩
  case round =>
    obtain ⟨k, hk, rfl, rfl, hW, hK⟩ := hrel
    by_cases hlt : k < ts.length
    · have d1 := HT.out _ hK k hlt
      have hnx : (ts.take (k + 1)).flatten = (ts.take k).flatten ++ ts[k] := flat_next hlt
      have hle : l.length + ((ts.take k).flatten ++ ts[k]).length ≤ 140737488355328 := by
        have h1 := HL.out
        have h2 : ts.flatten = (ts.take (k + 1)).flatten ++ (ts.drop (k + 1)).flatten := by rw [← List.flatten_append, List.take_append_drop]
        rw [h2, hnx, List.length_append] at h1
        omega
      have HN := Lib.hid hnx; clear hnx
      generalize ts[k] = x at d1 hle HN
      have j0 : (0 : Int) ≤ (k : Int) := by omega
      have j1 : (k : Int) < (ts.length : Int) := by omega
      have hsz := hK.size
      have HW := Lib.hid hW; have HK := Lib.hid hK; clear hW hK
      go_wp2_with (go_at_call 12; refine (write_any HW.out (by simp only [List.length_append] at hle ⊢; omega) (by omega)).mono ?_; rintro e w2 ⟨rfl, hW2, hK2⟩)
      have HW2 := Lib.hid hW2; have HK2 := Lib.hid hK2; clear hW2 hK2
      go_roundg (ts.length - (k + 1))
      case measure => omega
      case rel => exact ⟨k + 1, by omega, rfl, by go_num, by rw [HN.out, ← List.append_assoc]; exact HW2.out, HK.out.trans HK2.out⟩
    · have hke : ts.take k = ts := List.take_of_length_le (by omega)
      rw [hke] at hW
      have HW := Lib.hid hW; have HK := Lib.hid hK; clear hW hK
      go_wp2
      go_end0
      exact ⟨rfl, HW.out, HK.out⟩
end Go.Proofs.YtghebacphjglbaaGreat.WrG
