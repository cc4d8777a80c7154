/- node's looks: ContainsFunc, sides. -/
import Derived.Test.YtkjpdhnibfhaaaaNodeI
namespace Go.Proofs.Ytkjpdhnibfhaaaa.NodeJ
open Go.RowKit Go.Proofs.Ytkjpdhnibfhaaaa.Nodey Go.Proofs.Ytkjpdhnibfhaaaa.NodeA Go.Proofs.Ytkjpdhnibfhaaaa.NodeB Go.Proofs.Ytkjpdhnibfhaaaa.NodeC Go.Proofs.Ytkjpdhnibfhaaaa.NodeD Go.Proofs.Ytkjpdhnibfhaaaa.NodeE Go.Proofs.Ytkjpdhnibfhaaaa.NodeF Go.Proofs.Ytkjpdhnibfhaaaa.NodeG Go.Proofs.Ytkjpdhnibfhaaaa.NodeH Go.Proofs.Ytkjpdhnibfhaaaa.NodeI Go.Proofs.Ytkjpdhnibfhaaaa.Cut

set_option maxRecDepth 100000 in
set_option maxHeartbeats 4000000 in
theorem index_place {l : List Nd} {p : Option Addr} {n c : Nat} {w : World} (hk : KidsV w p l) (hn : n ≤ l.length) (hlen : l.length ≤ 1000000) :
    Calls Try.prog 67 #[.slice p n c, .func (.func 58) #[] #[]] w fun e w' => ∃ r : Int, e = .returned (.int .i64 r) ∧ (0 ≤ r ↔ (l.take n).all placeN = false) ∧ Below w.heap.size w w' := by
  have HK := Lib.hid hk; clear hk
  go_enter Try.func67, Try.ntmps67
  go_wp2_with fail
  go_loopg [5, 8] n (fun gk _ i wr => ∃ k : Nat, k ≤ n ∧ gk = n - k ∧ i = .int .i64 (k : Int) ∧ (l.take k).all placeN = true ∧ Below w.heap.size w wr)
  case atStart => exact ⟨0, by omega, by omega, rfl, rfl, Below.refl _ _⟩
  case round =>
    obtain ⟨k, hk, rfl, rfl, ha, hbw⟩ := hrel
    have HA := Lib.hid ha; have HBW := Lib.hid hbw; clear ha
    by_cases hlt : k < n
    · have hkl : k < l.length := by omega
      have hne : l ≠ [] := fun e => by rw [e] at hkl; simp at hkl
      rcases HK.out with h0 | ⟨g, o, rfl, hnd⟩
      · exact absurd h0 hne
      have hnd2 := NdsAt.get (NdsAt.below hbw _ _ _ hnd) k hkl
      have HT := Lib.hid (List.take_succ_eq_append_getElem hkl)
      generalize l[k] = y at *
      have hy := fun p' c' hk' hl' => sides1_any (x := y) (p := p') (c := c') (w := wr) hk' hl'
      have HPV := Lib.hid (rfl : placeN y = placeN y)
      obtain ⟨yk, yt, yn, ya, yl⟩ := y
      rw [NdAt] at hnd2
      obtain ⟨hy1, hy2, d0, d1, d2, d3, p', c', d4, _, hkk⟩ := hnd2
      have HY := Lib.hid (hy p' c' hkk hy2)
      unfold nodeC at HY
      simp only [Nd.kind, Nd.text, Nd.num, Nd.at_, Nd.kids] at HY
      have j0 : (0 : Int) ≤ (k : Int) := by omega
      have j1 : (k : Int) < (n : Int) := by omega
      clear hkk hnd hy hne hbw
      generalize hpv : placeN (.mk yk yt yn ya yl) = pv at *
      have HPP := Lib.hid hpv; clear hpv HPV
      cases pv with
      | false =>
        go_wp2_with (first | (refine HY.out.mono ?_; rintro e w1 ⟨rfl, hb1⟩))
        go_ret
        refine ⟨k, rfl, ⟨fun _ => ?_, fun _ => by omega⟩, HBW.out.trans (hb1.mono HBW.out.size)⟩
        rw [List.all_eq_false]
        refine ⟨.mk yk yt yn ya yl, ?_, by rw [HPP.out]; simp⟩
        have : l.take n = l.take (k + 1) ++ (l.take n).drop (k + 1) := by
          conv => lhs; rw [← List.take_append_drop (k + 1) (l.take n), List.take_take, Nat.min_eq_left (by omega)]
        rw [this, HT.out]; simp
      | true =>
        go_wp2_with (first | (refine HY.out.mono ?_; rintro e w1 ⟨rfl, hb1⟩))
        go_roundg (n - (k + 1))
        case measure => omega
        case rel => exact ⟨k + 1, by omega, rfl, by go_num, by rw [HT.out, List.all_append, HA.out]; simpa using HPP.out, HBW.out.trans (hb1.mono HBW.out.size)⟩
    · obtain rfl : k = n := by omega
      go_wp2
      go_ret
      refine ⟨-1, rfl, ?_, HBW.out⟩
      rw [HA.out]; simp
theorem contains_place {l : List Nd} {p : Option Addr} {n c : Nat} {w : World} (hk : KidsV w p l) (hn : n ≤ l.length) (hlen : l.length ≤ 1000000) :
    Calls Try.prog 57 #[.slice p n c, .func (.func 58) #[] #[]] w fun e w' => e = .returned (.bool !((l.take n).all placeN)) ∧ Below w.heap.size w w' := by
  have HI := Lib.hid (index_place (c := c) hk hn hlen); clear hk
  generalize (l.take n).all placeN = v at *
  cases v with
  | true =>
    go_enter Try.func57, Try.ntmps57
    go_wp2_with (go_at_call 67; refine HI.out.mono ?_; rintro e w1 ⟨r, rfl, hr, hb⟩; have hr2 : ¬ 0 ≤ r := (by simpa using hr))
    go_ret
    exact ⟨rfl, hb⟩
  | false =>
    go_enter Try.func57, Try.ntmps57
    go_wp2_with (go_at_call 67; refine HI.out.mono ?_; rintro e w1 ⟨r, rfl, hr, hb⟩; have hr2 : 0 ≤ r := (by simpa using hr))
    go_ret
    exact ⟨rfl, hb⟩
end Go.Proofs.Ytkjpdhnibfhaaaa.NodeJ
