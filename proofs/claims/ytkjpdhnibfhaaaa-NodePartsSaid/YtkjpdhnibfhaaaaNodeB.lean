/- node's texts and functions of kinds, walked. -/
import Derived.Test.YtkjpdhnibfhaaaaNodeA
namespace Go.Proofs.Ytkjpdhnibfhaaaa.NodeB
open Go.RowKit Go.Proofs.Ytkjpdhnibfhaaaa.Nodey Go.Proofs.Ytkjpdhnibfhaaaa.NodeA

theorem ret_bool {a b : Bool} (h : a = b) : Ending.returned (.bool a) = .returned (.bool b) := by rw [h]
/-- the closure -/
theorem of1_any {l : List Nat} {g c H k : Nat} {w : World} (hl : l.length ≤ 1000000) (h : Kinds w g l) (hH : w.cell? ⟨H, 0, none⟩ = some (.slice (some ⟨g, 0, none⟩) l.length c)) :
    Calls Try.prog 55 #[.int .u8 (k : Int), .pointer (some ⟨H, 0, none⟩)] w fun e w' => e = .returned (.bool (l.contains k)) ∧ w' = w := by
  have HI := Lib.hid (contains_kind (c := c) (x := k) hl h); clear h
  generalize l.contains k = v at *
  go_enter Try.func55, Try.ntmps55
  go_wp2_with (go_at_call 56; refine HI.out.mono ?_; rintro e w1 ⟨rfl, rfl⟩)
  go_ret
  exact ⟨rfl, rfl⟩
theorem of_any {l : List Nat} {g c : Nat} {w : World} (hl : l.length ≤ 1000000) (h : Kinds w g l) :
    Calls Try.prog 41 #[.slice (some ⟨g, 0, none⟩) l.length c] w fun e w' => ∃ v, e = .returned v ∧ IsP w' v (fun k => l.contains k) ∧ Below w.heap.size w w' := by
  have hmf : ∀ (fn : Fn) (first cap : Array Value) (w : World), (Instr.makeFunc fn first cap).run Try.prog w = .ok (.func fn first cap) w := fun _ _ _ _ => rfl
  have H := Lib.hid h; clear h
  go_enter Try.func41, Try.ntmps41
  go_wp2
  go_ret
  have hb : Below w.heap.size w (w.alloc (.cells #[.slice (some ⟨g, 0, none⟩) l.length c] 63)) := (Below.refl w.heap.size w).alloc (Nat.le_refl _) _
  have hc : (w.alloc (.cells #[.slice (some ⟨g, 0, none⟩) l.length c] 63)).cell? ⟨w.heap.size, 0, none⟩ = some (.slice (some ⟨g, 0, none⟩) l.length c) := cell_of_row _ _ 0 _ _ (0, 0) (heap_alloc_new w _)
  refine ⟨_, rfl, ⟨55, #[.pointer (some ⟨w.heap.size, 0, none⟩)], rfl, fun _ _ => by kernel_rfl, fun w' k hb' => ?_⟩, hb⟩
  refine of1_any hl (fun j b hj => ?_) ((hb'.cell (World.block_lt_of_cell? _ _ hc)).trans hc)
  have h1 := H.out j b hj
  have h2 := (hb.cell (World.block_lt_of_cell? _ _ h1)).trans h1
  exact (hb'.cell (World.block_lt_of_cell? _ _ h2)).trans h2
theorem isP_typed (w : World) : IsP w (.func (.func 44) #[] #[]) typedK := ⟨_, _, rfl, fun _ _ => by kernel_rfl, fun w' k _ => typed_any k w'⟩
theorem isP_stated (w : World) : IsP w (.func (.func 45) #[] #[]) statedK := ⟨_, _, rfl, fun _ _ => by kernel_rfl, fun w' k _ => stated_any k w'⟩
theorem isP_said (w : World) : IsP w (.func (.func 46) #[] #[]) saidK := ⟨_, _, rfl, fun _ _ => by kernel_rfl, fun w' k _ => said_any k w'⟩
def letN (n : Nat) : Bool := (97 ≤ n && n ≤ 122) || (65 ≤ n && n ≤ 90) || n == 95
def digN (n : Nat) : Bool := 48 ≤ n && n ≤ 57
theorem letterB_nat (c : UInt8) : letterB c = letN c.toNat := by
  unfold letterB letN
  simp only [UInt8.le_iff_toNat_le]
  have : (c == 95) = (c.toNat == 95) := by rw [Bool.eq_iff_iff]; simp [← UInt8.toNat_inj]
  rw [this]; rfl
theorem digitB_nat (c : UInt8) : digitB c = digN c.toNat := by
  unfold digitB digN
  simp only [UInt8.le_iff_toNat_le]; rfl
theorem letter_any (n : Nat) (w : World) :
    Calls Try.prog 63 #[.int .u8 (n : Int)] w fun e w' => e = .returned (.bool (letN n)) ∧ w' = w := by
  by_cases h1 : (97 : Int) ≤ (n : Int) <;> by_cases h2 : (n : Int) ≤ 122 <;> by_cases h3 : (65 : Int) ≤ (n : Int) <;> by_cases h4 : (n : Int) ≤ 90 <;> by_cases h5 : n = 95 <;> first
    | omega
    | (have k5 : ((n : Int) == 95) = decide (n = 95) := by simp [h5]; try omega
       go_enter Try.func63, Try.ntmps63
       go_wp2
       go_ret
       exact ⟨ret_bool (by unfold letN; simp; try omega), rfl⟩)
theorem digit_any (n : Nat) (w : World) :
    Calls Try.prog 64 #[.int .u8 (n : Int)] w fun e w' => e = .returned (.bool (digN n)) ∧ w' = w := by
  by_cases h1 : (48 : Int) ≤ (n : Int) <;> by_cases h2 : (n : Int) ≤ 57
  all_goals
    go_enter Try.func64, Try.ntmps64
    go_wp2
    go_ret
    exact ⟨ret_bool (by unfold digN; simp; try omega), rfl⟩
/-- digits, some -/
theorem row_any {s : ByteArray} {w : World} (hs : s.size ≤ 1000000000) :
    Calls Try.prog 60 #[.string s] w fun e w' => e = .returned (.bool (rowB s.data.toList)) ∧ w' = w := by
  go_enter Try.func60, Try.ntmps60
  go_wp2_with fail
  go_loopg [6] s.size (fun gk i wr => ∃ k : Nat, k ≤ s.size ∧ gk = s.size - k ∧ i = .int .i64 (k : Int) ∧ (∀ j (h : j < s.size), j < k → digitB (s[j]) = true) ∧ wr = w)
  case atStart => exact ⟨0, by omega, by omega, rfl, fun j _ h => absurd h (by omega), rfl⟩
  case round =>
    obtain ⟨k, hk, rfl, rfl, ha, rfl⟩ := hrel
    have HA := Lib.hid ha; clear ha
    by_cases hlt : k < s.size
    · have j0 : (0 : Int) ≤ (k : Int) := by omega
      have j1 : (k : Int) < (s.size : Int) := by omega
      have HD := Lib.hid (digit_any (s[k]).toNat wr)
      have hdn := digitB_nat s[k]
      cases hd : digitB s[k] with
      | true =>
        rw [hd] at hdn
        rw [← hdn] at HD
        have HN := Lib.hid hd; clear hd hdn
        go_wp2_with (go_at_call 64; refine HD.out.mono ?_; rintro e w1 ⟨rfl, rfl⟩)
        go_roundg (s.size - (k + 1))
        case measure => omega
        case rel => exact ⟨k + 1, by omega, rfl, by go_num, fun j hj hjk => by
          rcases Nat.lt_or_ge j k with h | h
          · exact HA.out j hj h
          · have : j = k := by omega
            subst this; exact HN.out, rfl⟩
      | false =>
        rw [hd] at hdn
        rw [← hdn] at HD
        have HN := Lib.hid hd; clear hd hdn
        go_wp2_with (go_at_call 64; refine HD.out.mono ?_; rintro e w1 ⟨rfl, rfl⟩)
        go_ret
        refine ⟨ret_bool ?_, rfl⟩
        symm
        unfold rowB
        rw [Bool.and_eq_false_iff]
        left
        rw [List.all_eq_false]
        exact ⟨s[k], by simp [ByteArray.getElem_eq_getElem_data], by rw [HN.out]; simp⟩
    · obtain rfl : k = s.size := by omega
      have hall : s.data.toList.all digitB = true := by
        rw [List.all_eq_true]
        intro x hx
        obtain ⟨j, hj, rfl⟩ := List.getElem_of_mem hx
        have hj' : j < s.size := by simpa using hj
        have := HA.out j hj' hj'
        simpa [ByteArray.getElem_eq_getElem_data] using this
      have hv : rowB s.data.toList = !(s.toList.isEmpty) := by unfold rowB; rw [hall, ByteArray.toList_eq]; cases s.data.toList <;> rfl
      go_wp2
      go_ret
      exact ⟨ret_bool (by rw [hv]), rfl⟩
end Go.Proofs.Ytkjpdhnibfhaaaa.NodeB
