/- What a name is, byte by byte. Plain. -/
import Derived.Test.YtghebacphjglbaaGreatWrE
import Derived.Test.YtghebacphjglbaaGreatM3
import Derived.Test.YtghebacphjglbaaGreatM4
import Derived.Test.YtghebacphjglbaaGreatTxD
namespace Go.Proofs.YtghebacphjglbaaGreat.RwP
open Go.Proofs.YtghebacphjglbaaGreat.Lexy Go.Proofs.YtghebacphjglbaaGreat.WrD Go.Proofs.YtghebacphjglbaaGreat.WrE

theorem nameB_spec (l : List UInt8) : nameB l = true ↔ (∀ k (h : k < l.length), (if k = 0 then letN l[k].toNat else ldN l[k].toNat) = true) ∧ l ≠ [] ∧ l.length ≤ 40 := by
  rw [name_iff]
  constructor
  · rintro ⟨⟨c, r, rfl, hc⟩, hall, hlen⟩
    refine ⟨fun k h => ?_, by simp, hlen⟩
    by_cases h0 : k = 0
    · subst h0; simpa using hc
    · rw [if_neg h0]; exact hall _ (List.getElem_mem h)
  · rintro ⟨hk, hne, hlen⟩
    cases l with
    | nil => exact absurd rfl hne
    | cons c r =>
      have h0 := hk 0 (by simp)
      simp only [if_true, List.getElem_cons_zero] at h0
      refine ⟨⟨c, r, rfl, h0⟩, fun d hd => ?_, hlen⟩
      obtain ⟨k, h, rfl⟩ := List.getElem_of_mem hd
      have := hk k h
      by_cases hz : k = 0
      · subst hz
        rw [if_pos rfl] at this
        unfold ldN; rw [this]; rfl
      · rw [if_neg hz] at this; exact this
end Go.Proofs.YtghebacphjglbaaGreat.RwP
/- The document's writer: names, words: may they be written? -/
namespace Go.Proofs.YtghebacphjglbaaGreat.RwA
open Go.RowKit Go.Proofs.YtghebacphjglbaaGreat.Lexy Go.Proofs.YtghebacphjglbaaGreat.LexA Go.Proofs.YtghebacphjglbaaGreat.LexB Go.Proofs.YtghebacphjglbaaGreat.LexC Go.Proofs.YtghebacphjglbaaGreat.LexD Go.Proofs.YtghebacphjglbaaGreat.LexE Go.Proofs.YtghebacphjglbaaGreat.LexF Go.Proofs.YtghebacphjglbaaGreat.LexG Go.Proofs.YtghebacphjglbaaGreat.Heap Go.Proofs.YtghebacphjglbaaGreat.Dat Go.Proofs.YtghebacphjglbaaGreat.Ready Go.Proofs.YtghebacphjglbaaGreat.ReadC Go.Proofs.YtghebacphjglbaaGreat.ReadI Go.Proofs.YtghebacphjglbaaGreat.Same Go.Proofs.YtghebacphjglbaaGreat.WrE Go.Proofs.YtghebacphjglbaaGreat.RefA Go.Proofs.YtghebacphjglbaaGreat.RefC Go.Proofs.YtghebacphjglbaaGreat.RwP

/-- a byte may stand there in a name -/
def okAt (z : ByteArray) (k : Nat) : Bool := if k = 0 then letN (byteAt z k) else ldN (byteAt z k)
theorem nameZ (z : ByteArray) : nameB z.data.toList = true ↔ (∀ k, k < z.size → okAt z k = true) ∧ z.size ≠ 0 ∧ z.size ≤ 40 := by
  rw [nameB_spec]
  have hl : z.data.toList.length = z.size := by simp
  have hb : ∀ k (h : k < z.data.toList.length), byteAt z k = (z.data.toList[k]).toNat := fun k h => by
    rw [RefA.get_at (by omega)]; rfl
  constructor
  · rintro ⟨h1, h2, h3⟩
    refine ⟨fun k hk => ?_, fun e => h2 (List.eq_nil_of_length_eq_zero (by omega)), by omega⟩
    have := h1 k (by omega)
    unfold okAt; rw [hb k (by omega)]; exact this
  · rintro ⟨h1, h2, h3⟩
    refine ⟨fun k hk => ?_, fun e => h2 (by rw [← hl, e]; rfl), by omega⟩
    have := h1 k (by omega)
    unfold okAt at this; rw [hb k hk] at this; exact this
set_option maxRecDepth 100000 in
set_option maxHeartbeats 1000000 in
theorem name_r {z : ByteArray} {w : World} (hs : z.size ≤ 140737488351232) :
    Calls Tryz.prog 54 #[.string z] w fun e w' => e = .returned (.bool (nameB z.data.toList)) ∧ w = w' := by
  have HN := Lib.hid (nameZ z)
  generalize nameB z.data.toList = v at *
  go_enter Tryz.func54, Tryz.ntmps54
  go_wp2
  go_loopg [3] z.size (fun g i wr => ∃ k, k ≤ z.size ∧ g = z.size - k ∧ i = .int .i64 (k : Int) ∧ (∀ j, j < k → okAt z j = true) ∧ wr = w)
  case atStart => exact ⟨0, Nat.zero_le _, by omega, rfl, fun j hj => by omega, rfl⟩
  case round =>
    obtain ⟨k, hk, rfl, rfl, hall, rfl⟩ := hrel
    have HA := Lib.hid hall; clear hall
    by_cases hlt : k < z.size
    · have hget := RefA.get_at hlt
      have j0 : (0 : Int) ≤ (k : Int) := by omega
      have j1 : (k : Int) < (z.size : Int) := by omega
      by_cases h0 : k = 0
      · subst h0
        have ho : okAt z 0 = letN (byteAt z 0) := rfl
        cases hl : letN (byteAt z 0) with
        | true =>
          rw [hl] at ho
          have HO := Lib.hid ho; have HL := Lib.hid hl; clear ho hl
          rw [hget] at HL
          go_wp2_with (go_at_call 72; refine (letter_off_t HL.out).mono ?_; rintro e w1 ⟨rfl, rfl⟩)
          go_roundg (z.size - (0 + 1))
          case measure => omega
          case rel => exact ⟨0 + 1, by omega, rfl, by go_num, fun j hj => by obtain rfl : j = 0 := by omega
                                                                             exact HO.out, rfl⟩
        | false =>
          rw [hl] at ho
          have HO := Lib.hid ho; have HL := Lib.hid hl; clear ho hl
          rw [hget] at HL
          go_wp2_with (go_at_call 72; refine (letter_off_f HL.out).mono ?_; rintro e w1 ⟨rfl, rfl⟩)
          go_ret
          have hv : v = false := by
            cases v with
            | false => rfl
            | true => have := (HN.out.1 rfl).1 0 hlt; rw [HO.out] at this; cases this
          exact ⟨ret_bool hv.symm, rfl⟩
      · have ho : okAt z k = ldN (byteAt z k) := by unfold okAt; rw [if_neg h0]
        have k0 : (0 : Int) < (k : Int) := by omega
        have kn : 0 < k := by omega
        have kd : decide (0 < k) = true := decide_eq_true kn
        have HK0 := Lib.hid h0; clear h0
        cases hl : ldN (byteAt z k) with
        | true =>
          rw [hl] at ho
          have HO := Lib.hid ho; have HL := Lib.hid hl; clear ho hl
          rw [hget] at HL
          go_wp2_with (go_at_call 72; refine (letter_on_t HL.out).mono ?_; rintro e w1 ⟨rfl, rfl⟩)
          go_roundg (z.size - (k + 1))
          case measure => omega
          case rel => exact ⟨k + 1, by omega, rfl, by go_num, fun j hj => by
            rcases Nat.lt_succ_iff_lt_or_eq.1 hj with h | rfl
            · exact HA.out j h
            · exact HO.out, rfl⟩
        | false =>
          rw [hl] at ho
          have HO := Lib.hid ho; have HL := Lib.hid hl; clear ho hl
          rw [hget] at HL
          go_wp2_with (go_at_call 72; refine (letter_on_f HL.out).mono ?_; rintro e w1 ⟨rfl, rfl⟩)
          go_ret
          have hv : v = false := by
            cases v with
            | false => rfl
            | true => have := (HN.out.1 rfl).1 k hlt; rw [HO.out] at this; cases this
          exact ⟨ret_bool hv.symm, rfl⟩
    · obtain rfl : k = z.size := by omega
      have hv : v = (decide (z.size ≠ 0) && decide (z.size ≤ 40)) := by
        rw [Bool.eq_iff_iff, HN.out]
        simp only [Bool.and_eq_true, decide_eq_true_eq]
        exact ⟨fun h => h.2, fun h => ⟨HA.out, h⟩⟩
      have t1 : (z.toList == ([] : List UInt8)) = decide (z.size = 0) := by
        have hd : z.toList = z.data.toList := ByteArray.toList_mk z.data.toList
        rw [hd]
        by_cases e : z.size = 0
        · rw [decide_eq_true e]
          have : z.data.toList = [] := List.eq_nil_of_length_eq_zero (by simpa using e)
          rw [this]; rfl
        · rw [decide_eq_false e]
          refine beq_eq_false_iff_ne.2 fun h => e ?_
          have := congrArg List.length h
          simpa using this
      have HV := Lib.hid hv; clear hv
      have t2 : (z.toList == ({ data := #[] } : ByteArray).toList) = decide (z.size = 0) := by
        have e : ({ data := #[] } : ByteArray).toList = [] := bs_toList []
        rw [e]; exact t1
      by_cases h0 : z.size = 0
      · rw [decide_eq_true h0] at t1 t2
        go_wp2
        go_ret
        exact ⟨ret_bool (by rw [HV.out, decide_eq_false (not_not_intro h0)]; rfl), rfl⟩
      · rw [decide_eq_false h0] at t1 t2
        by_cases h4 : z.size ≤ 40
        · have k4 : (z.size : Int) ≤ 40 := by omega
          have HV2 := Lib.hid (show v = true by rw [HV.out, decide_eq_true h0, decide_eq_true h4]; rfl)
          clear h0 h4 HV
          go_wp2
          go_ret
          exact ⟨ret_bool HV2.out.symm, rfl⟩
        · have k4 : ¬ (z.size : Int) ≤ 40 := by omega
          have HV2 := Lib.hid (show v = false by rw [HV.out, decide_eq_false h4]; simp)
          clear h0 h4 HV
          go_wp2
          go_ret
          exact ⟨ret_bool HV2.out.symm, rfl⟩
theorem all_false {α : Type} (p : α → Bool) {ts : List α} {k : Nat} (h : k < ts.length) (hp : p ts[k] = false) : ts.all p = false := by
  rw [List.all_eq_false]; exact ⟨_, List.getElem_mem h, by rw [hp]; decide⟩
theorem all_take {α : Type} (p : α → Bool) {ts : List α} {k : Nat} (h : k < ts.length) (ha : (ts.take k).all p = true) (hp : p ts[k] = true) : (ts.take (k + 1)).all p = true := by
  have e : ts.take (k + 1) = ts.take k ++ [ts[k]] := by simp
  rw [e, List.all_append, ha]; simp [hp]
theorem name_b {l : List UInt8} {v : Bool} {w : World} (hl : l.length ≤ 140737488351232) (hv : nameB l = v) :
    Calls Tryz.prog 54 #[.string (bs l)] w fun e w' => e = .returned (.bool v) ∧ w = w' := by
  have h1 : (bs l).data.toList = l := by simp [bs]
  refine (name_r (z := bs l) (by simpa [bs, ByteArray.size] using hl)).mono ?_
  rintro e w' ⟨rfl, rfl⟩
  rw [h1, hv]
  exact ⟨rfl, rfl⟩
set_option maxRecDepth 100000 in
set_option maxHeartbeats 1000000 in
theorem names_r {ns : List (List UInt8)} {w : World} {s : Value} (hR : Reads w (.row 9 1 ns.length (nmsD ns)) s) (hn : ns.length ≤ 140737488351232) (hb : ∀ n ∈ ns, n.length ≤ 140737488351232) :
    Calls Tryz.prog 55 #[s] w fun e w' => e = .returned (.bool (ns.all nameB)) ∧ w = w' := by
  obtain ⟨ao, c, rfl⟩ := Reads.slice hR
  have HR := Lib.hid hR; have HB := Lib.hid hb
  clear hR hb
  go_enter Tryz.func55, Tryz.ntmps55
  go_wp2
  go_loopg [3] ns.length (fun g i wr => ∃ k, k ≤ ns.length ∧ g = ns.length - k ∧ i = .int .i64 (k : Int) ∧ (ns.take k).all nameB = true ∧ wr = w)
  case atStart => exact ⟨0, Nat.zero_le _, by omega, rfl, by simp, rfl⟩
  case round =>
    obtain ⟨k, hk, rfl, rfl, hall, rfl⟩ := hrel
    by_cases hlt : k < ns.length
    · obtain ⟨g, o, rfl, r1⟩ := Reads.elems HR.out (by omega)
      have d1 := name_cell r1 hlt
      have hbl := HB.out _ (List.getElem_mem hlt)
      have HV0 := Lib.hid (all_false nameB hlt); have HV1 := Lib.hid (all_take nameB hlt hall)
      clear r1 hall
      generalize ns[k] = x at *
      have j0 : (0 : Int) ≤ (k : Int) := by omega
      have j1 : (k : Int) < (ns.length : Int) := by omega
      cases hv : nameB x with
      | true =>
        have HV := Lib.hid hv; clear hv
        go_wp2_with (go_at_call 54; refine (name_b hbl HV.out).mono ?_; rintro e w1 ⟨rfl, rfl⟩)
        go_roundg (ns.length - (k + 1))
        case measure => omega
        case rel => exact ⟨k + 1, by omega, rfl, by go_num, HV1.out HV.out, rfl⟩
      | false =>
        have HV := Lib.hid hv; clear hv
        go_wp2_with (go_at_call 54; refine (name_b hbl HV.out).mono ?_; rintro e w1 ⟨rfl, rfl⟩)
        go_ret
        exact ⟨ret_bool (HV0.out HV.out).symm, rfl⟩
    · obtain rfl : k = ns.length := by omega
      rw [List.take_length] at hall
      have HA := Lib.hid hall; clear hall
      go_wp2
      go_ret
      exact ⟨ret_bool HA.out.symm, rfl⟩
end Go.Proofs.YtghebacphjglbaaGreat.RwA
