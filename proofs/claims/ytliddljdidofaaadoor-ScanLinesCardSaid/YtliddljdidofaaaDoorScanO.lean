/- Texts quoted are strings that say them: walked. -/
import Derived.Test.YtliddljdidofaaaDoorScanN
namespace Go.Proofs.YtliddljdidofaaaDoor.ScanO
open Go.RowKit Go.Proofs.YtliddljdidofaaaDoor.Lexy Go.Proofs.YtliddljdidofaaaDoor.Heap Go.Proofs.YtliddljdidofaaaDoor.Base Go.Proofs.YtliddljdidofaaaDoor.Scany Go.Proofs.YtliddljdidofaaaDoor.ScanA Go.Proofs.YtliddljdidofaaaDoor.ScanB Go.Proofs.YtliddljdidofaaaDoor.ScanC Go.Proofs.YtliddljdidofaaaDoor.ScanD Go.Proofs.YtliddljdidofaaaDoor.ScanE Go.Proofs.YtliddljdidofaaaDoor.ScanH Go.Proofs.YtliddljdidofaaaDoor.ScanI Go.Proofs.YtliddljdidofaaaDoor.ScanL Go.Proofs.YtliddljdidofaaaDoor.ScanM Go.Proofs.YtliddljdidofaaaDoor.ScanN

theorem _root_.Go.Proofs.YtliddljdidofaaaDoor.Base.IsToks.at {w : World} {g : Nat} {l : List Tok} (h : IsToks w g l) (hg : g < w.heap.size) (i j : Nat) (hi : i < l.length) (hj : j = i * 3) (t : Tok) (ht : tk l i = t) :
    ∀ o, (w.alloc o).cell? ⟨g, j, none⟩ = some (.int .u8 (t.kind : Int)) ∧ (w.alloc o).cell? ⟨g, j + 1, none⟩ = some (.string (bs t.text)) ∧ (w.alloc o).cell? ⟨g, j + 2, none⟩ = some (.int .i64 (t.at_ : Int)) := by
  subst hj ht
  intro o
  obtain ⟨a, b, c⟩ := h i hi
  exact ⟨(World.cell?_alloc_past _ _ _ hg).trans a, (World.cell?_alloc_past _ _ _ hg).trans b, (World.cell?_alloc_past _ _ _ hg).trans c⟩
theorem bs_self (a : ByteArray) : bs a.data.toList = a := by apply ByteArray.ext; simp [bs]
theorem quote_at {s : ByteArray} {w : World} {Q : ByteArray} (hs : s.size ≤ 1000000) (hQ : bs (quoS s.data.toList) = Q) :
    Calls Tryd.prog 10 #[.string s] w fun e w' => e = .returned (.string Q) ∧ Below w.heap.size w w' := by subst hQ; exact quote_any hs
theorem says_cells {w : World} {g p q : Nat} {a b : ByteArray} (h : IsToks w g [⟨5, a.data.toList, 0⟩, ⟨5, b.data.toList, p⟩, ⟨6, [59], q⟩, ⟨7, [], q⟩]) (hg : g < w.heap.size) :
    (∀ o, (w.alloc o).cell? ⟨g, 0, none⟩ = some (.int .u8 5)) ∧ (∀ o, (w.alloc o).cell? ⟨g, 1, none⟩ = some (.string a)) ∧ (∀ o, (w.alloc o).cell? ⟨g, 3, none⟩ = some (.int .u8 5)) ∧ (∀ o, (w.alloc o).cell? ⟨g, 4, none⟩ = some (.string b)) ∧ ∀ o, (w.alloc o).cell? ⟨g, 7, none⟩ = some (.string { data := #[59] }) := by
  refine ⟨fun o => (h.at hg 0 0 (by simp) rfl _ rfl o).1, fun o => ?_, fun o => (h.at hg 1 3 (by simp) rfl _ rfl o).1, fun o => ?_, fun o => (h.at hg 2 6 (by simp) rfl _ rfl o).2.1⟩
  · have := (h.at hg 0 0 (by simp) rfl _ rfl o).2.1
    rw [show (tk [⟨5, a.data.toList, 0⟩, ⟨5, b.data.toList, p⟩, ⟨6, [59], q⟩, ⟨7, [], q⟩] 0).text = a.data.toList from rfl, bs_self] at this
    exact this
  · have := (h.at hg 1 3 (by simp) rfl _ rfl o).2.1
    rw [show (tk [⟨5, a.data.toList, 0⟩, ⟨5, b.data.toList, p⟩, ⟨6, [59], q⟩, ⟨7, [], q⟩] 1).text = b.data.toList from rfl, bs_self] at this
    exact this
set_option maxRecDepth 100000 in
set_option maxHeartbeats 4000000 in
theorem says_any {a b : ByteArray} {w : World} (hG : Gl w w.heap.size) :
    Calls Tryd.prog 4 #[.string a, .string b] w fun e w' => e = .returned (.bool true) ∧ Below w.heap.size w w' := by
  by_cases ha : (a.size : Int) ≤ 7500
  case neg =>
    go_enter Tryd.func4, Tryd.ntmps4
    go_wp2_with (go_at_call 6; refine (awake_any hG).mono ?_; rintro e w1 ⟨rfl, hb⟩)
    go_ret
    exact ⟨rfl, hb⟩
  by_cases hbz : (b.size : Int) ≤ 7500
  case neg =>
    go_enter Tryd.func4, Tryd.ntmps4
    go_wp2_with (go_at_call 6; refine (awake_any hG).mono ?_; rintro e w1 ⟨rfl, hb⟩)
    go_ret
    exact ⟨rfl, hb⟩
  have la : a.data.toList.length ≤ 7500 := by simp; omega
  have lb : b.data.toList.length ≤ 7500 := by simp; omega
  obtain ⟨p, q, ht⟩ := toks_says _ _ la lb
  obtain ⟨A, hA⟩ : ∃ A, bs (quoS a.data.toList) = A := ⟨_, rfl⟩
  obtain ⟨B, hB⟩ : ∃ B, bs (quoS b.data.toList) = B := ⟨_, rfl⟩
  obtain ⟨C, hC⟩ : ∃ C, A ++ { data := #[32] } = C := ⟨_, rfl⟩
  obtain ⟨X, hX⟩ : ∃ X, C ++ B = X := ⟨_, rfl⟩
  have sA : A.size ≤ 40000 := by rw [← hA, bs_size]; have := quoS_le a.data.toList; omega
  have sB : B.size ≤ 40000 := by rw [← hB, bs_size]; have := quoS_le b.data.toList; omega
  have sC : C.size ≤ 40001 := by rw [← hC, ByteArray.size_append]; have : ({ data := #[32] } : ByteArray).size = 1 := rfl; omega
  have sX : X.size ≤ 140737488351232 := by rw [← hX]; simp; omega
  have hT : toksS X.data.toList = .good [⟨5, a.data.toList, 0⟩, ⟨5, b.data.toList, p⟩, ⟨6, [59], q⟩, ⟨7, [], q⟩] := by
    rw [← ht, ← hX, ← hC, ← hA, ← hB]; simp [bs]
  clear ht la lb
  have HA := Lib.hid hA; have HB := Lib.hid hB; have HT := Lib.hid hT; clear hA hB hT
  have sa : a.size ≤ 1000000 := by omega
  have sb : b.size ≤ 1000000 := by omega
  go_enter Tryd.func4, Tryd.ntmps4
  go_wp2_with (first | (go_at_call 6; refine (awake_any hG).mono ?_; rintro e w1 ⟨rfl, hb1⟩; have hG1 := hG.at hb1) | (go_at_call 10; (with_reducible refine (quote_at sb HB.out).mono ?_); rintro e w3 ⟨rfl, hb3⟩; have hG3 := hG2.at hb3) | (go_at_call 10; (with_reducible refine (quote_at sa HA.out).mono ?_); rintro e w2 ⟨rfl, hb2⟩; have hG2 := hG1.at hb2) | (go_at_call 7; go_must (refine (tokens_good sX hG3 HT.out).mono ?_); rintro e w4 ⟨g, cap, rfl, hg1, hg2, hg3, hg4, hg5, hb4⟩; obtain ⟨q0, q1, q2, q3, q4⟩ := says_cells hg5 hg2))
  go_ret
  have hb5 := below_tr (below_tr (below_tr hb1 hb2) hb3) hb4
  exact ⟨rfl, hb5.alloc hb5.size _⟩
end Go.Proofs.YtliddljdidofaaaDoor.ScanO
