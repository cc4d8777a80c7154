/- node.whole, node.point, walked. -/
import Derived.Test.YtkjpdhnibfhaaaaNodeD
namespace Go.Proofs.Ytkjpdhnibfhaaaa.NodeE
open Go.RowKit Go.Proofs.Ytkjpdhnibfhaaaa.Nodey Go.Proofs.Ytkjpdhnibfhaaaa.NodeA Go.Proofs.Ytkjpdhnibfhaaaa.NodeB Go.Proofs.Ytkjpdhnibfhaaaa.NodeC Go.Proofs.Ytkjpdhnibfhaaaa.NodeD

set_option maxHeartbeats 4000000 in
theorem whole_any {s : ByteArray} {w : World} (hs : s.size ≤ 1000000000) :
    Calls Try.prog 49 #[.string s] w fun e w' => e = .returned (.bool (wholeB s.data.toList)) ∧ w' = w := by
  have HR := Lib.hid (row_any (w := w) hs)
  have hlen : s.data.toList.length = s.size := by simp
  cases hr : rowB s.data.toList with
  | false =>
    rw [hr] at HR
    have hv : wholeB s.data.toList = false := by unfold wholeB; rw [hr]; rfl
    have HV := Lib.hid hv; clear hv hr hlen
    go_enter Try.func49, Try.ntmps49
    go_wp2_with (go_at_call 60; refine HR.out.mono ?_; rintro e w1 ⟨rfl, rfl⟩)
    go_ret
    exact ⟨ret_bool HV.out.symm, rfl⟩
  | true =>
    rw [hr] at HR
    have hne : 0 < s.size := by
      rw [← hlen]
      unfold rowB at hr
      cases h : s.data.toList with
      | nil => rw [h] at hr; simp at hr
      | cons a l => simp
    have hv : wholeB s.data.toList = (decide (s.size ≤ 40) && ((s.toList == [48]) || !((s[0]).toNat == 48))) := by
      unfold wholeB
      rw [hr, hlen, ByteArray.toList_eq]
      have h0 : s.data.toList.head? = some s[0] := by
        rw [List.head?_eq_getElem?, List.getElem?_eq_getElem (by rw [hlen]; exact hne)]
        simp [ByteArray.getElem_eq_getElem_data]
      have h1 : (s.data.toList.head? != some 48) = !((s[0]).toNat == 48) := by
        rw [h0, Bool.eq_iff_iff]
        simp [← UInt8.toNat_inj]
      rw [h1]; rfl
    have HV := Lib.hid hv; clear hv hr
    have hq : (((s[0]).toNat : Int) == 48) = ((s[0]).toNat == 48) := by rw [Bool.eq_iff_iff]; simp; omega
    have hq2 : (((s[0]).toNat : Int) != 48) = !((s[0]).toNat == 48) := by rw [Bool.eq_iff_iff]; simp; omega
    have HLEN := Lib.hid hlen; clear hlen
    have j0 : (0 : Int) < (s.size : Int) := by omega
    cases hb : (s[0]).toNat == 48
    all_goals
      rw [hb] at hq hq2
      have HB := Lib.hid hb
      clear hb
      by_cases h40 : (s.size : Int) ≤ 40
    all_goals
      go_enter Try.func49, Try.ntmps49
      go_wp2_with (go_at_call 60; refine HR.out.mono ?_; rintro e w1 ⟨rfl, rfl⟩)
    all_goals
      go_ret
      refine ⟨ret_bool ?_, rfl⟩
      rw [HV.out, HB.out]
      first
        | (have hd : decide (s.size ≤ 40) = true := by simp; omega
           rw [hd]; simp_all; done)
        | (have hd : decide (s.size ≤ 40) = false := by simp; omega
           rw [hd]; simp_all; done)
        | (simp_all; done)
theorem cut_eq : ∀ (l : List UInt8), Lib.cut l [46] = cutB l
  | [] => by simp [Lib.cut, Lib.index, cutB]
  | c :: l => by
    have ih := cut_eq l
    rw [cutB]
    by_cases hc : c = 46
    · subst hc
      rw [if_pos rfl]
      simp [Lib.cut, Lib.index, List.isPrefixOf]
    · rw [if_neg hc, ← ih]
      have hp : ([46] : List UInt8).isPrefixOf (c :: l) = false := by
        have : ((46 : UInt8) == c) = false := by rw [beq_eq_false_iff_ne]; exact fun e => hc e.symm
        simp [List.isPrefixOf, this]
      have hx : Lib.index (c :: l) [46] = if Lib.index l [46] == -1 then -1 else Lib.index l [46] + 1 := by
        conv => lhs; unfold Lib.index
        rw [hp]; rfl
      rcases Lib.index_spec l [46] with ⟨h1, _⟩ | ⟨i, h1, h2, _⟩
      · rw [h1] at hx
        have hx' : Lib.index (c :: l) [46] = -1 := by rw [hx]; rfl
        simp [Lib.cut, hx', h1]
      · rw [h1] at hx
        have hx' : Lib.index (c :: l) [46] = ((i + 1 : Nat) : Int) := by
          rw [hx, if_neg (by simp)]; rfl
        have h3 : (0 : Int) ≤ ((i + 1 : Nat) : Int) := by omega
        have h4 : (0 : Int) ≤ (i : Int) := by omega
        unfold Lib.cut
        rw [hx', h1, if_pos h3, if_pos h4]
        simp only [Int.toNat_natCast]
        rfl
theorem cutB_len : ∀ (l : List UInt8), (cutB l).1.length ≤ l.length ∧ (cutB l).2.1.length ≤ l.length
  | [] => by simp [cutB]
  | c :: l => by
    have ih := cutB_len l
    rw [cutB]
    by_cases hc : c = 46
    · rw [if_pos hc]; simp
    · rw [if_neg hc]
      constructor <;> simp <;> omega
set_option maxHeartbeats 4000000 in
theorem point_any {s : ByteArray} {w : World} {m : Int} (hs : s.size ≤ 1000000000) (hm : w.cell? ⟨0, 0, none⟩ = some (.int .i64 m)) :
    Calls Try.prog 50 #[.string s] w fun e w' => e = .returned (.bool (pointB s.data.toList)) ∧ ∃ n, w' = w.drewN n := by
  have HC := Try.strings_Cut s { data := #[46] } m w (by omega) hm
  rw [show ({ data := #[46] } : ByteArray).data.toList = [46] from rfl, cut_eq] at HC
  have hlen := cutB_len s.data.toList
  have hv : pointB s.data.toList = ((cutB s.data.toList).2.2 && wholeB (cutB s.data.toList).1 && rowB (cutB s.data.toList).2.1 && decide ((cutB s.data.toList).1.length + (cutB s.data.toList).2.1.length ≤ 40)) := rfl
  generalize pointB s.data.toList = v at *
  generalize cutB s.data.toList = x at *
  obtain ⟨a, b, is⟩ := x
  simp only at HC hlen hv
  have ha : a = (⟨a.toArray⟩ : ByteArray).data.toList := rfl
  have hb : b = (⟨b.toArray⟩ : ByteArray).data.toList := rfl
  have has : (⟨a.toArray⟩ : ByteArray).size = a.length := by simp [ByteArray.size]
  have hbs : (⟨b.toArray⟩ : ByteArray).size = b.length := by simp [ByteArray.size]
  have hss : s.data.toList.length = s.size := by simp
  have hal : a.length ≤ 1000000000 := by omega
  have hbl : b.length ≤ 1000000000 := by omega
  have HA := Lib.hid (fun w => whole_any (s := ⟨a.toArray⟩) (w := w) (by rw [has]; exact hal))
  have HB := Lib.hid (fun w => row_any (s := ⟨b.toArray⟩) (w := w) (by rw [hbs]; exact hbl))
  simp only at HA HB
  have has' : ((⟨a.toArray⟩ : ByteArray).size : Int) = (a.length : Int) := by rw [has]
  have hbs' : ((⟨b.toArray⟩ : ByteArray).size : Int) = (b.length : Int) := by rw [hbs]
  have HV := Lib.hid hv
  have HCC := Lib.hid HC
  clear hv HC hlen ha hb hss hm
  generalize wholeB a = wa at *
  generalize rowB b = rb at *
  generalize (⟨a.toArray⟩ : ByteArray) = A at *
  generalize (⟨b.toArray⟩ : ByteArray) = B at *
  by_cases h40 : (a.length : Int) + (b.length : Int) ≤ 40
  all_goals
    have h40' : (A.size : Int) + (B.size : Int) ≤ 40 ∨ True := Or.inr trivial
    clear h40'
    have HD := Lib.hid (show decide (a.length + b.length ≤ 40) = decide ((a.length : Int) + (b.length : Int) ≤ 40) by rw [decide_eq_decide]; omega)
    rw [← has', ← hbs'] at h40
    have hsa : A.size ≤ 1000000000 := by omega
    have hsb : B.size ≤ 1000000000 := by omega
    have HAS := Lib.hid has'
    have HBS := Lib.hid hbs'
    clear has has' hbs hbs' hal hbl
    cases is
  all_goals
    go_enter Try.func50, Try.ntmps50
    go_wp2_with (first | (go_at_call 61; refine HCC.out.mono ?_; rintro e w1 ⟨rfl, n, rfl⟩) | (go_at_call 60; refine (HB.out _).mono ?_; rintro e w1 ⟨rfl, rfl⟩) | (go_at_call 49; refine (HA.out _).mono ?_; rintro e w1 ⟨rfl, rfl⟩))
  all_goals
    go_ret
    refine ⟨ret_bool ?_, _, rfl⟩
    rw [HV.out, HD.out, ← HAS.out, ← HBS.out]
    first
      | (simp_all; done)
      | (simp_all; omega)
end Go.Proofs.Ytkjpdhnibfhaaaa.NodeE
