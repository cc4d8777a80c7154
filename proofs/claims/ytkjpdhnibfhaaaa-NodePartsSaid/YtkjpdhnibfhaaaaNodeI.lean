/- node's looks: place, sides. -/
import Derived.Test.YtkjpdhnibfhaaaaNodeH
namespace Go.Proofs.Ytkjpdhnibfhaaaa.NodeI
open Go.RowKit Go.Proofs.Ytkjpdhnibfhaaaa.Nodey Go.Proofs.Ytkjpdhnibfhaaaa.NodeA Go.Proofs.Ytkjpdhnibfhaaaa.NodeB Go.Proofs.Ytkjpdhnibfhaaaa.NodeC Go.Proofs.Ytkjpdhnibfhaaaa.NodeD Go.Proofs.Ytkjpdhnibfhaaaa.NodeE Go.Proofs.Ytkjpdhnibfhaaaa.NodeF Go.Proofs.Ytkjpdhnibfhaaaa.NodeG Go.Proofs.Ytkjpdhnibfhaaaa.NodeH Go.Proofs.Ytkjpdhnibfhaaaa.Cut

/-- a node's cells -/
def nodeC (x : Nd) (p : Option Addr) (c : Nat) : Array Value := #[.int .u8 (x.kind : Int), .string x.text, .int .i64 x.num, .int .i64 x.at_, .slice p x.kids.length c]
def PlaceOK (x : Nd) : Prop := ∀ (p : Option Addr) (c : Nat) (w : World), KidsV w p x.kids → x.kids.length ≤ 1000000 →
  Calls Try.prog 59 #[.agg (nodeC x p c)] w fun e w' => e = .returned (.bool (placeN x)) ∧ Below w.heap.size w w'
theorem nd_eta : ∀ x : Nd, x = .mk x.kind x.text x.num x.at_ x.kids
  | .mk _ _ _ _ _ => rfl
set_option maxRecDepth 100000 in
set_option maxHeartbeats 4000000 in
theorem place_step {k : Nat} {t : ByteArray} {n a : Int} {kids : List Nd} (ih : ∀ y l, kids = y :: l → PlaceOK y) : PlaceOK (.mk k t n a kids) := by
  intro p c w hk hlen
  unfold nodeC
  simp only [Nd.kind, Nd.text, Nd.num, Nd.at_, Nd.kids] at hk hlen ⊢
  have HP := Lib.hid (show placeN (.mk k t n a kids) = if k = 25 ∨ k = 35 then true else if k = 29 ∨ k = 31 then (match kids with | [] => false | x :: _ => placeN x) else false by cases kids <;> simp only [placeN])
  generalize placeN (.mk k t n a kids) = pv at *
  have hb := ((Below.refl w.heap.size w).alloc (Nat.le_refl _) (.cells #[.int .u8 (k : Int), .string t, .int .i64 n, .int .i64 a, .slice p kids.length c] 25))
  have HB := Lib.hid hb
  by_cases h25 : k = 25
  · subst h25
    clear hb
    have HPP := Lib.hid (HP.out.trans (if_pos (Or.inl rfl)))
    clear HP
    go_enter Try.func59, Try.ntmps59
    go_wp2
    go_ret
    exact ⟨ret_bool HPP.out.symm, HB.out⟩
  by_cases h35 : k = 35
  · subst h35
    clear hb h25
    have HPP := Lib.hid (HP.out.trans (if_pos (Or.inr rfl)))
    clear HP
    go_enter Try.func59, Try.ntmps59
    go_wp2
    go_ret
    exact ⟨ret_bool HPP.out.symm, HB.out⟩
  have HPP := Lib.hid (HP.out.trans (if_neg (not_or.2 ⟨h25, h35⟩)))
  clear HP
  have e25 : ((k : Int) == 25) = false := by simp; omega
  have e35 : ((k : Int) == 35) = false := by simp; omega
  by_cases h29 : k = 29 ∨ k = 31
  · have HP3 := Lib.hid (HPP.out.trans (if_pos h29))
    clear HPP
    cases kids with
    | nil =>
      simp only at HP3
      rcases h29 with h | h <;> subst h
      all_goals
        clear hb h25 h35 e25 e35 hk ih
        go_enter Try.func59, Try.ntmps59
        go_wp2
        go_ret
        exact ⟨ret_bool HP3.out.symm, HB.out⟩
    | cons y l =>
      simp only at HP3
      rcases hk with h0 | ⟨g, o, rfl, hn⟩
      · cases h0
      have hy := ih y l rfl
      obtain ⟨yk, yt, yn, ya, yl⟩ := y
      rw [NdsAt, NdAt] at hn
      obtain ⟨⟨hy1, hy2, d0, d1, d2, d3, p', c', d4, _, hkk⟩, _⟩ := hn
      have hgl : g < w.heap.size := World.block_lt_of_cell? _ _ d0
      have HY := Lib.hid (hy p' c' _ (KidsV.below hb hkk) hy2)
      unfold nodeC at HY
      simp only [Nd.kind, Nd.text, Nd.num, Nd.at_, Nd.kids] at HY
      rcases h29 with h | h <;> subst h
      all_goals
        clear hb h25 h35 e25 e35 ih hkk hy
        have j0 : (0 : Int) < ((l.length : Int) + 1) := by omega
        go_enter Try.func59, Try.ntmps59
        go_wp2_with (go_at_call 59; refine HY.out.mono ?_; rintro e w1 ⟨rfl, hb1⟩)
        go_ret
        exact ⟨ret_bool HP3.out.symm, HB.out.trans (hb1.mono HB.out.size)⟩
  · have HP3 := Lib.hid (HPP.out.trans (if_neg h29))
    clear HPP
    have e29 : ((k : Int) == 29) = false := by simp; omega
    have e31 : ((k : Int) == 31) = false := by simp; omega
    clear hb h25 h35 ih h29 hk
    go_enter Try.func59, Try.ntmps59
    go_wp2
    go_ret
    exact ⟨ret_bool HP3.out.symm, HB.out⟩
theorem place_any : ∀ x : Nd, PlaceOK x
  | .mk k t n a [] => place_step fun y l h => by cases h
  | .mk k t n a (z :: zs) => place_step fun y l h => by obtain ⟨rfl, rfl⟩ := List.cons.inj h; exact place_any z
  termination_by x => SizeOf.sizeOf x
  decreasing_by simp; omega
set_option maxHeartbeats 1000000 in
/-- the closure: it is no place -/
theorem sides1_any {x : Nd} {p : Option Addr} {c : Nat} {w : World} (hk : KidsV w p x.kids) (hlen : x.kids.length ≤ 1000000) :
    Calls Try.prog 58 #[.agg (nodeC x p c)] w fun e w' => e = .returned (.bool !(placeN x)) ∧ Below w.heap.size w w' := by
  have hb := ((Below.refl w.heap.size w).alloc (Nat.le_refl _) (.cells (nodeC x p c) 25))
  have HX : Hid (Calls Try.prog 59 #[.agg (nodeC x p c)] (w.alloc (.cells (nodeC x p c) 25)) fun e w' => e = .returned (.bool (placeN x)) ∧ Below (w.alloc (.cells (nodeC x p c) 25)).heap.size (w.alloc (.cells (nodeC x p c) 25)) w') := Lib.hid (NodeI.place_any x p c _ (KidsV.below hb hk) hlen)
  have HB := Lib.hid hb
  clear hk hb
  generalize placeN x = pv at *
  unfold nodeC at *
  generalize x.kids.length = nk at *
  generalize x.kind = kk at *
  generalize x.at_ = aa at *
  generalize x.num = nn at *
  generalize x.text = tt at *
  go_enter Try.func58, Try.ntmps58
  go_wp2_with (go_at_call 59; refine HX.out.mono ?_; rintro e w1 ⟨rfl, hb1⟩)
  go_ret
  exact ⟨rfl, HB.out.trans (hb1.mono HB.out.size)⟩
end Go.Proofs.Ytkjpdhnibfhaaaa.NodeI
