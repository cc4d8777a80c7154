/- The stage's theorem of the scanner: walked. -/
import Derived.Test.YtliddljdidofaaaDoorScanP
namespace Go.Proofs.YtliddljdidofaaaDoor.ScanQ
open Go.RowKit Go.Proofs.YtliddljdidofaaaDoor.Lexy Go.Proofs.YtliddljdidofaaaDoor.Heap Go.Proofs.YtliddljdidofaaaDoor.Base Go.Proofs.YtliddljdidofaaaDoor.Scany Go.Proofs.YtliddljdidofaaaDoor.ScanA Go.Proofs.YtliddljdidofaaaDoor.ScanB Go.Proofs.YtliddljdidofaaaDoor.ScanC Go.Proofs.YtliddljdidofaaaDoor.ScanD Go.Proofs.YtliddljdidofaaaDoor.ScanE Go.Proofs.YtliddljdidofaaaDoor.ScanH Go.Proofs.YtliddljdidofaaaDoor.ScanI Go.Proofs.YtliddljdidofaaaDoor.ScanL Go.Proofs.YtliddljdidofaaaDoor.ScanM Go.Proofs.YtliddljdidofaaaDoor.ScanN Go.Proofs.YtliddljdidofaaaDoor.ScanO Go.Proofs.YtliddljdidofaaaDoor.ScanP

theorem tk_cons (t : Tok) (l : List Tok) (k : Nat) : tk (t :: l) (k + 1) = tk l k := by simp [tk]
theorem tk_zero (t : Tok) (l : List Tok) : tk (t :: l) 0 = t := by simp [tk]
theorem rise_next {N : Nat} : ∀ (l : List Tok) (b k : Nat), riseS N b l → k + 1 < l.length → (tk l k).at_ < (tk l (k + 1)).at_
  | [], _, _, _, hk => by simp at hk
  | [t], _, _, _, hk => by simp at hk
  | t :: u :: l, b, 0, h, _ => by
    rw [tk_cons, tk_zero, tk_zero]
    have := h.2.2.1
    omega
  | t :: u :: l, b, k + 1, h, hk => by
    rw [tk_cons, tk_cons]
    exact rise_next (u :: l) _ k h.2.2 (by simp at hk ⊢; omega)
theorem rise_top {N : Nat} : ∀ (l : List Tok) (b k : Nat), riseS N b l → k < l.length → (tk l k).at_ ≤ N
  | [], _, _, _, hk => by simp at hk
  | t :: l, b, 0, h, _ => by rw [tk_zero]; exact h.2.1
  | t :: l, b, k + 1, h, hk => by rw [tk_cons]; exact rise_top l _ k h.2.2 (by simp at hk; omega)
theorem rise_pair {N : Nat} {ts l : List Tok} (hl : l = ts ++ [⟨7, [], N⟩]) (h : riseS N 0 ts) (k : Nat) (hk : k + 1 < l.length) :
    (tk l k).at_ ≤ (tk l (k + 1)).at_ ∧ ((tk l (k + 1)).at_ = (tk l k).at_ → (tk l (k + 1)).kind = 7) := by
  have hN : l.length = ts.length + 1 := by rw [hl]; simp
  have hkt : tk l k = tk ts k := by rw [hl]; exact tk_app _ _ _ (by omega)
  by_cases hlt : k + 1 < ts.length
  · have h2 : tk l (k + 1) = tk ts (k + 1) := by rw [hl]; exact tk_app _ _ _ hlt
    have := rise_next ts 0 k h hlt
    rw [hkt, h2]
    exact ⟨by omega, fun e => by omega⟩
  · have h2 : tk l (k + 1) = ⟨7, [], N⟩ := by
      have e : k + 1 = ts.length := by omega
      rw [e, hl]
      exact tk_last ts ⟨7, [], N⟩
    rw [hkt, h2]
    exact ⟨rise_top ts 0 k h (by omega), fun _ => rfl⟩

theorem written_at {w : World} {g c : Nat} {l ts : List Tok} {x : Tok} {X : ByteArray} (hT : IsToks w g l) (hg : g < w.heap.size) (hl : l = ts ++ [x]) (hn : ts.length ≤ 100000) (hx : ∀ t ∈ ts, t.text.length ≤ 100000) (hw : (writS ts).length ≤ 20000000000) (hX : bs (writS ts) = X) :
    Calls Tryd.prog 8 #[.slice (some ⟨g, 0, none⟩) l.length c] w fun e w' => e = .returned (.string X) ∧ Below w.heap.size w w' := by subst hX; exact written_any hT hg hl hn hx hw
set_option maxRecDepth 100000 in
set_option maxHeartbeats 4000000 in
theorem back_any {s : ByteArray} {w : World} (hG : Gl w w.heap.size) :
    Calls Tryd.prog 3 #[.string s] w fun e w' => e = .returned (.bool true) ∧ Below w.heap.size w w' := by
  by_cases hs : (s.size : Int) ≤ 70000
  case neg =>
    go_enter Tryd.func3, Tryd.ntmps3
    go_wp2_with (go_at_call 6; refine (awake_any hG).mono ?_; rintro e w1 ⟨rfl, hb⟩)
    go_ret
    exact ⟨rfl, hb⟩
  have hs2 : s.size ≤ 140737488351232 := by omega
  cases ht : toksS s.data.toList with
  | bad x p =>
    have hx := toksS_bad _ _ _ ht
    have hx0 : ((x : Int) == 0) = false := beq_eq_false_iff_ne.2 (by omega)
    have hp0 : (0 : Int) ≤ (p : Int) := by omega
    have HT := Lib.hid ht; clear ht
    by_cases hlt : (p : Int) < (s.size : Int)
    · go_enter Tryd.func3, Tryd.ntmps3
      go_wp2_with (first | (go_at_call 6; refine (awake_any hG).mono ?_; rintro e w1 ⟨rfl, hb1⟩; have hG1 := hG.at hb1) | (go_at_call 7; refine (tokens_bad hs2 hG1 HT.out).mono ?_; rintro e w2 ⟨rfl, hb2⟩))
      go_ret
      exact ⟨rfl, (below_tr hb1 hb2).alloc (below_tr hb1 hb2).size _⟩
    · have hlong : (65536 : Int) < (s.size : Int) := by simp at hx hlt; omega
      clear hx
      go_enter Tryd.func3, Tryd.ntmps3
      go_wp2_with (first | (go_at_call 6; refine (awake_any hG).mono ?_; rintro e w1 ⟨rfl, hb1⟩; have hG1 := hG.at hb1) | (go_at_call 7; refine (tokens_bad hs2 hG1 HT.out).mono ?_; rintro e w2 ⟨rfl, hb2⟩))
      go_ret
      exact ⟨rfl, (below_tr hb1 hb2).alloc (below_tr hb1 hb2).size _⟩
  | good l =>
    obtain ⟨hs65, ts, hl, hri, htx, hbk⟩ := toksS_back _ _ ht
    have hcnt := rise_count ts 0 (by omega) hri
    have hN : l.length = ts.length + 1 := by rw [hl]; simp
    have hpair := rise_pair hl hri
    have hlast : tk l ts.length = ⟨7, [], s.size⟩ := by rw [hl]; have := tk_last ts ⟨7, [], s.data.toList.length⟩; simpa using this
    have hsz65 : s.data.toList.length = s.size := by simp
    rw [hsz65] at hs65 hcnt hl hri htx
    have hsub : (l.length : Int) - 1 = (ts.length : Int) := by omega
    have hne0 : ((l.length : Int) == 0) = false := beq_eq_false_iff_ne.2 (by omega)
    have hn0 : (0 : Int) ≤ (ts.length : Int) := by omega
    have hnl : (ts.length : Int) < (l.length : Int) := by omega
    have hwl : (writS ts).length ≤ 20000000000 := by
      have h1 := writ_le ts htx
      have h2 : ts.length * (4 * (s.size + 1) + 3) ≤ 65537 * (4 * 65537 + 3) := Nat.mul_le_mul (by omega) (by omega)
      omega
    have htx2 : ∀ t ∈ ts, t.text.length ≤ 100000 := fun t h => by have := htx t h; omega
    have HT := Lib.hid ht; have HN := Lib.hid hN; have HL := Lib.hid hl; have HB := Lib.hid hbk; have HP := Lib.hid hpair; have HX := Lib.hid htx2
    clear ht hN hl hbk hpair htx htx2 hri hsz65
    go_enter Tryd.func3, Tryd.ntmps3
    go_wp2_with (first | (go_at_call 6; refine (awake_any hG).mono ?_; rintro e w1 ⟨rfl, hb1⟩; have hG1 := hG.at hb1) | (go_at_call 7; refine (tokens_good hs2 hG1 HT.out).mono ?_; rintro e w2 ⟨g, cap, rfl, hg1, hg2, hg3, hg4, hg5, hb2⟩; have q0 := fun o => (IsToks.at hg5 hg2 ts.length _ (by have := HN.out; omega) rfl _ hlast o).1; have q1 := fun o => (IsToks.at hg5 hg2 ts.length _ (by have := HN.out; omega) rfl _ hlast o).2.1; have q2 := fun o => (IsToks.at hg5 hg2 ts.length _ (by have := HN.out; omega) rfl _ hlast o).2.2))
    have hbt := below_tr hb1 hb2
    have hb0 := hbt.alloc hbt.size (.cells #[.int .i64 0, .int .i64 0] 26)
    have hT0 : IsToks (w2.alloc (.cells #[.int .i64 0, .int .i64 0] 26)) g l := fun i hi => IsToks.at hg5 hg2 i _ hi rfl _ rfl _
    have hgW : g < (w2.alloc (.cells #[.int .i64 0, .int .i64 0] 26)).heap.size := by simp; omega
    have hGW := hG.at hb0
    have hfW : (w2.alloc (.cells #[.int .i64 0, .int .i64 0] 26)).heap[w2.heap.size]? = some (.cells #[.int .i64 0, .int .i64 0] 26 (0, 0)) := heap_alloc_new w2 _
    generalize w2.alloc (.cells #[.int .i64 0, .int .i64 0] 26) = W at *
    generalize w2.heap.size = F at *
    clear q0 q1 q2 hg5 hb2 hg2 hG1 hb1 hg1 hbt hlast
    have HTK := Lib.hid hT0; clear hT0
    go_loopg [5] ts.length (fun gk i wr => ∃ (j n : Nat), j ≤ ts.length ∧ gk = ts.length - j ∧ i = .int .i64 ((j : Int) + 1) ∧ wr = W.drewN n)
    case atStart => exact ⟨0, 0, by omega, by omega, rfl, rfl⟩
    case round =>
      obtain ⟨j, n, hj, rfl, rfl, rfl⟩ := hrel
      by_cases hlt : j < ts.length
      · obtain ⟨a1, a2, a3⟩ := HTK.out (j + 1) (by have := HN.out; omega)
        obtain ⟨b1, b2, b3⟩ := HTK.out j (by have := HN.out; omega)
        obtain ⟨h1, h2⟩ := HP.out j (by have := HN.out; omega)
        have j0 : (0 : Int) ≤ (j : Int) := by omega
        have j2 : (0 : Int) ≤ (j : Int) + 1 := by omega
        have j3 : (j : Int) < (l.length : Int) := by have := HN.out; omega
        have j4 : ((j : Int) + 1).toNat = j + 1 := by omega
        have j5 : IntKind.i64.wrap (j : Int) = (j : Int) := by unfold IntKind.wrap; simp [IntKind.bits, IntKind.signed]; omega
        have j6 : IntKind.i64.wrap ((j : Int) + 1 - 1) = (j : Int) := by rw [show (j : Int) + 1 - 1 = (j : Int) by omega]; exact j5
        have j1 : (j : Int) + 1 < (l.length : Int) := by have := HN.out; omega
        clear a2 b1 b2
        generalize tk l (j + 1) = t at *
        generalize tk l j = u at *
        have h1' : (u.at_ : Int) ≤ (t.at_ : Int) := by omega
        have h1'' : decide (t.at_ < u.at_) = false := by simp; omega
        by_cases he : t.at_ = u.at_
        · have h7 := h2 he
          have e7 : ((t.kind : Int) != 7) = false := by rw [h7]; rfl
          have ee : ((t.at_ : Int) == (u.at_ : Int)) = true := by rw [he]; simp
          have HE := Lib.hid he; clear he h1 h2 h7
          go_wp2
          go_quiet (fail)
          go_wp2
          go_roundg (ts.length - (j + 1))
          case measure => omega
          case rel => exact ⟨j + 1, _, by omega, rfl, by go_num, rfl⟩
        · have ee : ((t.at_ : Int) == (u.at_ : Int)) = false := beq_eq_false_iff_ne.2 (by omega)
          clear he h1 h2
          go_wp2
          go_quiet (fail)
          go_wp2
          go_roundg (ts.length - (j + 1))
          case measure => omega
          case rel => exact ⟨j + 1, _, by omega, rfl, by go_num, rfl⟩
      · obtain rfl : j = ts.length := by omega
        have hj : ¬ ((ts.length : Int) + 1 < (l.length : Int)) := by have := HN.out; omega
        have hGn : Gl (W.drewN n) (W.drewN n).heap.size := hGW.drewN n
        have hbn : Below w.heap.size w (W.drewN n) := hb0.drewN n
        have hTn : IsToks (W.drewN n) g l := HTK.out.drewN n
        have hgn : g < (W.drewN n).heap.size := hgW
        obtain ⟨f1, f2, f3, f4⟩ := cells2 (show (W.drewN n).heap[F]? = _ from hfW)
        clear hGW hgW hfW hb0 HTK
        generalize W.drewN n = V at *
        obtain ⟨X, hX⟩ : ∃ X, bs (writS ts) = X := ⟨_, rfl⟩
        have hXs : X.size = (writS ts).length := by rw [← hX, bs_size]
        have hsz : X.size ≤ 140737488351232 := by omega
        have hll : l.length ≤ 1000000 := by have := HN.out; omega
        by_cases hlen : (writS ts).length ≤ 65536
        · obtain ⟨mm, hmm, hbm⟩ := HB.out hlen
          have hml2 := bare_len hbm
          have hnl2 : (X.size : Int) ≤ 65536 := by omega
          have HM := Lib.hid (show toksS X.data.toList = .good mm by rw [← hX, bs_list]; exact hmm); have HBM := Lib.hid hbm; have HXX := Lib.hid hX
          clear hmm hbm hX hXs hlen
          go_wp2_with (first | (go_at_call 8; refine (written_at hTn hgn HL.out (by omega) HX.out hwl HXX.out).mono ?_; rintro e w4 ⟨rfl, hb4⟩; have hG4 := hGn.at hb4) | (go_at_call 7; refine (tokens_good hsz hG4 HM.out).mono ?_; rintro e w5 ⟨g2, cap2, rfl, k1, k2, k3, k4, k5, hb5⟩) | (go_at_call 9; refine (alike_any (l := l) (al_of (hTn.below ((hb4.trans (hb5.mono hb4.size)).alloc (Nat.le_trans hb4.size hb5.size) _) hgn) rfl) (al_of (fun i hi => IsToks.at k5 k2 i _ hi rfl _ rfl _) HBM.out) hll).mono ?_; rintro e w6 ⟨rfl, n6, rfl⟩))
          go_ret
          have hb6 := hbn.trans ((hb4.trans (hb5.mono hb4.size)).mono hbn.size)
          exact ⟨rfl, (hb6.alloc hb6.size _).drewN n6⟩
        · have hnl2 : (65536 : Int) < (X.size : Int) := by omega
          have HM := Lib.hid (show toksS X.data.toList = .bad 3 0 by rw [← hX, bs_list]; unfold toksS; rw [if_pos (by omega)]); have HXX := Lib.hid hX
          clear hX hXs hlen
          go_wp2_with (first | (go_at_call 8; refine (written_at hTn hgn HL.out (by omega) HX.out hwl HXX.out).mono ?_; rintro e w4 ⟨rfl, hb4⟩; have hG4 := hGn.at hb4) | (go_at_call 7; refine (tokens_bad hsz hG4 HM.out).mono ?_; rintro e w5 ⟨rfl, hb5⟩))
          go_ret
          have hb6 := hbn.trans ((hb4.trans (hb5.mono hb4.size)).mono hbn.size)
          exact ⟨rfl, hb6.alloc hb6.size _⟩
end Go.Proofs.YtliddljdidofaaaDoor.ScanQ
