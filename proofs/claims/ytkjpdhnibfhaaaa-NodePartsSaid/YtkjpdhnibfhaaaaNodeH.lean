/- node's looks: are, all. -/
import Derived.Test.YtkjpdhnibfhaaaaNodeG
namespace Go.Proofs.Ytkjpdhnibfhaaaa.NodeH
open Go.RowKit Go.Proofs.Ytkjpdhnibfhaaaa.Nodey Go.Proofs.Ytkjpdhnibfhaaaa.NodeA Go.Proofs.Ytkjpdhnibfhaaaa.NodeB Go.Proofs.Ytkjpdhnibfhaaaa.NodeC Go.Proofs.Ytkjpdhnibfhaaaa.NodeD Go.Proofs.Ytkjpdhnibfhaaaa.NodeE Go.Proofs.Ytkjpdhnibfhaaaa.NodeF Go.Proofs.Ytkjpdhnibfhaaaa.Cut

/-- kids from one place to ahead of another -/
def areB (l : List Nd) (q : Nat → Bool) (fr to : Nat) : Bool := ((l.take to).drop fr).all fun x => q x.kind
theorem areB_end {l : List Nd} {q : Nat → Bool} {k to : Nat} (h : to ≤ k) : areB l q k to = true := by
  unfold areB
  rw [List.drop_eq_nil_of_le (by simp; omega)]; rfl
theorem areB_step {l : List Nd} {q : Nat → Bool} {k to : Nat} (h : k < to) (hl : to ≤ l.length) : areB l q k to = (q (l[k]'(by omega)).kind && areB l q (k + 1) to) := by
  unfold areB
  have hk : k < (l.take to).length := by simp; omega
  rw [List.drop_eq_getElem_cons hk]
  simp
set_option maxRecDepth 100000 in
set_option maxHeartbeats 4000000 in
theorem are_any {x : Nd} {p : Option Addr} {c : Nat} {d : Bool} {fr to : Nat} {v : Value} {q : Nat → Bool} {w : World} (hk : KidsV w p x.kids) (hq : IsP w v q) (hto : to ≤ x.kids.length) (hlen : x.kids.length ≤ 1000000) (hfr : fr ≤ 1000000) :
    Calls Try.prog 40 #[.agg (lookC x p c d), .int .i64 (fr : Int), .int .i64 (to : Int), v] w fun e w' => e = okOr (areB x.kids q fr to) ∧ Below w.heap.size w w' := by
  unfold lookC
  have HK := Lib.hid hk; have HQ := Lib.hid hq; clear hk hq
  have hnk : x.kids.length = x.kids.length := rfl
  generalize hnk2 : x.kids.length = nk at *
  generalize x.kids = l at *
  generalize x.kind = kk
  generalize x.at_ = aa
  generalize x.num = nn
  generalize x.text = tt at *
  obtain ⟨f, cap, rfl, hcf, hq⟩ := HQ.out
  have HQ2 := Lib.hid hq
  clear HQ hq hnk
  have HNK := Lib.hid hnk2; clear hnk2
  have hb := ((Below.refl w.heap.size w).alloc (Nat.le_refl _) (.cells #[.int .u8 (kk : Int), .string tt, .int .i64 nn, .int .i64 aa, .slice p nk c, .bool d] 42))
  go_enter Try.func40, Try.ntmps40
  go_wp2_with fail
  have c4 : (w.alloc (.cells #[.int .u8 (kk : Int), .string tt, .int .i64 nn, .int .i64 aa, .slice p nk c, .bool d] 42)).cell? ⟨w.heap.size, 4, none⟩ = some (.slice p nk c) := kernel_cell
  generalize w.alloc (.cells #[.int .u8 (kk : Int), .string tt, .int .i64 nn, .int .i64 aa, .slice p nk c, .bool d] 42) = W at *
  have HB := Lib.hid hb; have C4 := Lib.hid c4; clear hb c4
  go_loopg [8] (to + 1 - fr) (fun gk i wr => ∃ k : Nat, fr ≤ k ∧ k ≤ 1000000 ∧ gk = to + 1 - k ∧ i = .int .i64 (k : Int) ∧ areB l q fr to = areB l q k to ∧ Below W.heap.size W wr)
  case atStart => exact ⟨fr, by omega, by omega, by omega, rfl, rfl, Below.refl _ _⟩
  case round =>
    obtain ⟨k, hk0, hk1, rfl, rfl, hab, hbw⟩ := hrel
    have HAB := Lib.hid hab; have HBW := Lib.hid hbw; clear hab
    by_cases hlt : k < to
    · have hkl : k < l.length := by rw [HNK.out]; omega
      have HST := Lib.hid (areB_step (q := q) hlt (by rw [HNK.out]; exact hto))
      have hne : l ≠ [] := fun e => by rw [e] at hkl; simp at hkl
      rcases HK.out with h0 | ⟨g, o, rfl, hn⟩
      · exact absurd h0 hne
      have hbb := HB.out.trans (hbw.mono HB.out.size)
      have hn2 := NdsAt.below hbb _ _ _ hn
      have hcell := (NdsAt.get hn2 k hkl).kind
      have c4 := (hbw.cell (World.block_lt_of_cell? _ _ C4.out)).trans C4.out
      have HQ3 := Lib.hid (HQ2.out wr (l[k]'hkl).kind hbb)
      generalize (l[k]'hkl).kind = y at *
      have j0 : (0 : Int) ≤ (k : Int) := by omega
      have j1 : (k : Int) < (nk : Int) := by omega
      clear hn hn2 hbb hne hbw
      cases hv : q y
      all_goals
        have HV := Lib.hid hv; clear hv
        go_wp2_with (first | (go_at_call 22; refine (must_one kernel_cell).mono ?_; rintro e w2 ⟨rfl, rfl⟩; unfold okOr; simp only [Bool.false_eq_true, if_false, if_true]) | (refine HQ3.out.mono ?_; rintro e w1 ⟨rfl, rfl⟩; rw [HV.out]))
      · have hb5 := HB.out.trans ((HBW.out.alloc HBW.out.size (.cells #[.bool false] 4)).mono HB.out.size)
        exact ⟨rfl, by rw [HAB.out, HST.out, HV.out]; rfl, hb5⟩
      · have hb5 := HBW.out.alloc HBW.out.size (.cells #[.bool true] 4)
        go_roundg (to + 1 - (k + 1))
        case measure => omega
        case rel => exact ⟨k + 1, by omega, by omega, rfl, by go_num, by rw [HAB.out, HST.out, HV.out]; rfl, hb5⟩
    · go_wp2
      go_end0
      exact ⟨by rw [HAB.out, areB_end (by omega)]; rfl, HB.out.trans (HBW.out.mono HB.out.size)⟩
/-- functions of kinds in a row -/
def Funs (w : World) (p : Option Addr) (ps : List (Nat → Bool)) : Prop := ps = [] ∨ ∃ g, p = some ⟨g, 0, none⟩ ∧ ∀ j q, ps[j]? = some q → ∃ v, w.cell? ⟨g, j, none⟩ = some v ∧ IsP w v q
def allB (ps : List (Nat → Bool)) (l : List Nd) : Bool := decide (l.length = ps.length) && (l.zip ps).all fun y => y.2 y.1.kind
set_option maxRecDepth 100000 in
set_option maxHeartbeats 4000000 in
theorem all_any {x : Nd} {p : Option Addr} {c : Nat} {d : Bool} {pf : Option Addr} {cf : Nat} {ps : List (Nat → Bool)} {w : World} (hk : KidsV w p x.kids) (hq : Funs w pf ps) (hlen : x.kids.length ≤ 1000000) (hm : ps.length ≤ 1000) :
    Calls Try.prog 43 #[.agg (lookC x p c d), .slice pf ps.length cf] w fun e w' => e = okOr (allB ps x.kids) ∧ Below w.heap.size w w' := by
  unfold lookC
  have HK := Lib.hid hk; have HQ := Lib.hid hq; clear hk hq
  generalize hnk2 : x.kids.length = nk at *
  generalize hpm : ps.length = m at *
  generalize x.kids = l at *
  generalize x.kind = kk
  generalize x.at_ = aa
  generalize x.num = nn
  generalize x.text = tt at *
  have HNK := Lib.hid hnk2; clear hnk2
  have HPM := Lib.hid hpm; clear hpm
  have hb := ((Below.refl w.heap.size w).alloc (Nat.le_refl _) (.cells #[.int .u8 (kk : Int), .string tt, .int .i64 nn, .int .i64 aa, .slice p nk c, .bool d] 42))
  have hb1 := hb.alloc hb.size (.cells #[.bool true] 4)
  have hb0 := hb.alloc hb.size (.cells #[.bool false] 4)
  by_cases he : nk = m
  · subst he
    have hee : ((nk : Int) == (nk : Int)) = true := by simp
    have HB0 := Lib.hid hb1
    go_enter Try.func43, Try.ntmps43
    go_wp2_with (go_at_call 22; refine (must_one (a := true) (by go_simp)).mono ?_; rintro e w2 ⟨rfl, rfl⟩; unfold okOr; simp only [if_true])
    have c4 : ((w.alloc (.cells #[.int .u8 (kk : Int), .string tt, .int .i64 nn, .int .i64 aa, .slice p nk c, .bool d] 42)).alloc (.cells #[.bool true] 4)).cell? ⟨w.heap.size, 4, none⟩ = some (.slice p nk c) := by go_simp
    generalize (w.alloc (.cells #[.int .u8 (kk : Int), .string tt, .int .i64 nn, .int .i64 aa, .slice p nk c, .bool d] 42)).alloc (.cells #[.bool true] 4) = W at *
    have C4 := Lib.hid c4; clear c4 hb hb0 hb1 hee
    go_loopg [4, 5, 17] nk (fun gk _ _ i wr => ∃ k : Nat, k ≤ nk ∧ gk = nk - k ∧ i = .int .i64 (k : Int) ∧ ((l.zip ps).all fun y => y.2 y.1.kind) = (((l.zip ps).drop k).all fun y => y.2 y.1.kind) ∧ Below W.heap.size W wr)
    case atStart => exact ⟨0, by omega, by omega, rfl, rfl, Below.refl _ _⟩
    case round =>
      obtain ⟨k, hk, rfl, rfl, hab, hbw⟩ := hrel
      have HAB := Lib.hid hab; have HBW := Lib.hid hbw; clear hab
      by_cases hlt : k < nk
      · have hkl : k < l.length := by rw [HNK.out]; exact hlt
        have hkm : k < ps.length := by rw [HPM.out]; exact hlt
        have hkz : k < (l.zip ps).length := by rw [List.length_zip]; omega
        have HST := Lib.hid (show (((l.zip ps).drop k).all fun y => y.2 y.1.kind) = ((ps[k]'hkm) (l[k]'hkl).kind && (((l.zip ps).drop (k + 1)).all fun y => y.2 y.1.kind)) by
          rw [List.drop_eq_getElem_cons hkz]; simp)
        have hne : l ≠ [] := fun e => by rw [e] at hkl; simp at hkl
        have hne2 : ps ≠ [] := fun e => by rw [e] at hkm; simp at hkm
        rcases HK.out with h0 | ⟨g, o, rfl, hn⟩
        · exact absurd h0 hne
        rcases HQ.out with h0 | ⟨gf, rfl, hf⟩
        · exact absurd h0 hne2
        have hbb := HB0.out.trans (hbw.mono HB0.out.size)
        have hn2 := NdsAt.below hbb _ _ _ hn
        have hcell := (NdsAt.get hn2 k hkl).kind
        have c4 := (hbw.cell (World.block_lt_of_cell? _ _ C4.out)).trans C4.out
        obtain ⟨v, hv1, hv2⟩ := hf k _ (List.getElem?_eq_getElem hkm)
        have hfc := (hbb.cell (World.block_lt_of_cell? _ _ hv1)).trans hv1
        obtain ⟨f, cap, rfl, hcf, hq⟩ := hv2
        have HQ3 := Lib.hid (hq wr (l[k]'hkl).kind hbb)
        generalize (l[k]'hkl).kind = y at *
        generalize (ps[k]'hkm) = q at *
        have j0 : (0 : Int) ≤ (k : Int) := by omega
        have j1 : (k : Int) < (nk : Int) := by omega
        clear hn hn2 hbb hne hbw hne2 hv1 hq hf
        cases hv : q y
        all_goals
          have HV := Lib.hid hv; clear hv
          go_wp2_with (first | (go_at_call 22; refine (must_one kernel_cell).mono ?_; rintro e w2 ⟨rfl, rfl⟩; unfold okOr; simp only [Bool.false_eq_true, if_false, if_true]) | (refine HQ3.out.mono ?_; rintro e w1 ⟨rfl, rfl⟩; rw [HV.out]))
        · have hb5 := HB0.out.trans ((HBW.out.alloc HBW.out.size (.cells #[.bool false] 4)).mono HB0.out.size)
          exact ⟨rfl, by unfold allB; rw [HAB.out, HST.out, HV.out]; simp [okOr], hb5⟩
        · have hb5 := HBW.out.alloc HBW.out.size (.cells #[.bool true] 4)
          go_roundg (nk - (k + 1))
          case measure => omega
          case rel => exact ⟨k + 1, by omega, rfl, by go_num, by rw [HAB.out, HST.out, HV.out]; rfl, hb5⟩
      · obtain rfl : k = nk := by omega
        go_wp2
        go_end0
        refine ⟨?_, HB0.out.trans (HBW.out.mono HB0.out.size)⟩
        have h1 : (l.zip ps).length = k := by rw [List.length_zip, HNK.out, HPM.out]; simp
        unfold allB
        rw [HAB.out, List.drop_eq_nil_of_le (by omega), HNK.out, HPM.out]
        simp [okOr]
  · have hee : ((nk : Int) == (m : Int)) = false := by simp; omega
    have HB0 := Lib.hid hb0
    clear hb hb0 hb1
    go_enter Try.func43, Try.ntmps43
    go_wp2_with (go_at_call 22; refine (must_one (a := false) (by go_simp)).mono ?_; rintro e w2 ⟨rfl, rfl⟩; unfold okOr; simp only [Bool.false_eq_true, if_false])
    have hdf : decide (l.length = ps.length) = false := by rw [HNK.out, HPM.out]; simpa using he
    exact ⟨rfl, by unfold allB; rw [hdf]; simp [okOr], HB0.out⟩
end Go.Proofs.Ytkjpdhnibfhaaaa.NodeH
