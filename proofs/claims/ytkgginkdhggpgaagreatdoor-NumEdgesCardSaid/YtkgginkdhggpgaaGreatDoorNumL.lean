/- The law NumEdges, walked. -/
import Derived.Test.YtkgginkdhggpgaaGreatDoorNumJ
import Derived.Laws.Bits64
namespace Go.Proofs.YtkgginkdhggpgaaGreatDoor.NumL
open Go.RowKit Go.Proofs.YtkgginkdhggpgaaGreatDoor.Flo Go.Proofs.YtkgginkdhggpgaaGreatDoor.NumA Go.Proofs.YtkgginkdhggpgaaGreatDoor.NumB Go.Proofs.YtkgginkdhggpgaaGreatDoor.NumH Go.Proofs.YtkgginkdhggpgaaGreatDoor.NumI Go.Proofs.YtkgginkdhggpgaaGreatDoor.NumJ Go.Proofs.YtkgginkdhggpgaaGreatDoor.Cut

def edgeL : List Nat := [0, 1, 2, 4503599627370495, 4503599627370496, 4503599627370497, 4607182418800017407, 4607182418800017408, 4607182418800017409, 4607182418800017408, 4611686018427387904, 4841369599423283200, 4845873199050653696, 4845873199050653697, 4890909195324358656, 9218868437227405311, 9218868437227405312, 9218868437227405313, 9221120237041090561, 9221120237041090560, 9223372036854775807]
def opsL : List ByteArray := [{ data := #[43] }, { data := #[45] }, { data := #[42] }, { data := #[47] }, { data := #[37] }, { data := #[61, 61] }, { data := #[33, 61] }, { data := #[60] }, { data := #[60, 61] }, { data := #[62] }, { data := #[62, 61] }, { data := #[] }, { data := #[38, 38] }]
def edgeC : Array Value := #[.int .u64 0, .int .u64 1, .int .u64 2, .int .u64 4503599627370495, .int .u64 4503599627370496, .int .u64 4503599627370497, .int .u64 4607182418800017407, .int .u64 4607182418800017408, .int .u64 4607182418800017409, .int .u64 4607182418800017408, .int .u64 4611686018427387904, .int .u64 4841369599423283200, .int .u64 4845873199050653696, .int .u64 4845873199050653697, .int .u64 4890909195324358656, .int .u64 9218868437227405311, .int .u64 9218868437227405312, .int .u64 9218868437227405313, .int .u64 9221120237041090561, .int .u64 9221120237041090560, .int .u64 9223372036854775807]
def opsC : Array Value := #[.string { data := #[43] }, .string { data := #[45] }, .string { data := #[42] }, .string { data := #[47] }, .string { data := #[37] }, .string { data := #[61, 61] }, .string { data := #[33, 61] }, .string { data := #[60] }, .string { data := #[60, 61] }, .string { data := #[62] }, .string { data := #[62, 61] }, .string { data := #[] }, .string { data := #[38, 38] }]
theorem wrap_in {v : Int} (h : -9223372036854775808 ≤ v ∧ v ≤ 9223372036854775807) : wrap64 v = v := by
  unfold wrap64; omega
theorem at_lt {w : World} {H : Nat} {o : Obj} (h : w.heap[H]? = some o) : H < w.heap.size := (Array.getElem?_eq_some_iff.1 h).1
theorem edge_at {j : Nat} (h : j < 21) : ∃ x : Nat, edgeC[j]? = some (.int .u64 (x : Int)) ∧ x < 18446744073709551616 := by
  have key : ∀ j < 21, edgeC[j]? = some (.int .u64 ((edgeL.getD j 0 : Nat) : Int)) ∧ edgeL.getD j 0 < 18446744073709551616 := by
    intro j h
    have : j = 0 ∨ j = 1 ∨ j = 2 ∨ j = 3 ∨ j = 4 ∨ j = 5 ∨ j = 6 ∨ j = 7 ∨ j = 8 ∨ j = 9 ∨ j = 10 ∨ j = 11 ∨ j = 12 ∨ j = 13 ∨ j = 14 ∨ j = 15 ∨ j = 16 ∨ j = 17 ∨ j = 18 ∨ j = 19 ∨ j = 20 := by omega
    rcases this with rfl | rfl | rfl | rfl | rfl | rfl | rfl | rfl | rfl | rfl | rfl | rfl | rfl | rfl | rfl | rfl | rfl | rfl | rfl | rfl | rfl <;> exact ⟨rfl, by decide⟩
  exact ⟨_, (key j h).1, (key j h).2⟩
theorem ops_at {j : Nat} (h : j < 13) : ∃ s, opsC[j]? = some (.string s) := by
  have : j = 0 ∨ j = 1 ∨ j = 2 ∨ j = 3 ∨ j = 4 ∨ j = 5 ∨ j = 6 ∨ j = 7 ∨ j = 8 ∨ j = 9 ∨ j = 10 ∨ j = 11 ∨ j = 12 := by omega
  rcases this with rfl | rfl | rfl | rfl | rfl | rfl | rfl | rfl | rfl | rfl | rfl | rfl | rfl <;> exact ⟨_, rfl⟩
/-- with the other sign -/
theorem flip_at {x : Nat} (h : x < 18446744073709551616) : ∃ y : Nat, bits .xor .u64 (x : Int) 9223372036854775808 = (y : Int) ∧ y < 18446744073709551616 :=
  ⟨x ^^^ 9223372036854775808, bits_xor_u64_nat x 9223372036854775808 h (by omega), Nat.xor_lt_two_pow (n := 64) h (by decide)⟩
set_option maxRecDepth 100000 in
set_option maxHeartbeats 4000000 in
theorem edges_any {w : World} (hg : Gn w) : Calls Tryz.prog 4 #[] w fun e w' => e = .returned (.bool true) ∧ Below w.heap.size w w' := by
  have HW := Lib.hid (awake_any hg)
  clear hg
  go_enter Tryz.func4, Tryz.ntmps4
  go_wp2_with (go_at_call 7; refine HW.out.mono ?_; rintro e w1 ⟨rfl, hb⟩)
  have hs := hb.size
  go_loopg [3] 1764 (fun gk i wr => ∃ k : Nat, k ≤ 1764 ∧ gk = 1764 - k ∧ i = .int .i64 (k : Int) ∧ Below w.heap.size w wr ∧ wr.heap[w1.heap.size]? = some (.cells edgeC 22 (0, 0)) ∧ wr.heap[w1.heap.size + 1]? = some (.cells opsC 9 (0, 0)))
  case atStart =>
    refine ⟨0, by omega, rfl, rfl, (hb.alloc hb.size _).alloc (by simp; omega) _, (Below.heap_alloc _ _ _ (by simp)).trans (heap_alloc_new w1 _), ?_⟩
    have h := heap_alloc_new (w1.alloc (.cells edgeC 22)) (.cells opsC 9)
    have hz : (w1.alloc (.cells edgeC 22)).heap.size = w1.heap.size + 1 := by simp
    rw [hz] at h
    exact h
  case round =>
    obtain ⟨k, hk, rfl, rfl, hbw, hL, hO⟩ := hrel
    by_cases hlt : k < 1764
    · obtain ⟨x, hx, hx2⟩ := edge_at (j := k / 4 % 21) (by omega)
      obtain ⟨y, hy, hy2⟩ := edge_at (j := k / 4 / 21) (by omega)
      have c1 := (cell_of_row wr w1.heap.size (k / 4 % 21) _ _ _ hL).trans hx
      have c2 := (cell_of_row wr w1.heap.size (k / 4 / 21) _ _ _ hL).trans hy
      obtain ⟨x', hfx, hx3⟩ := flip_at hx2
      obtain ⟨y', hfy, hy3⟩ := flip_at hy2
      have HL := Lib.hid hL; have HO := Lib.hid hO
      clear hL hO hx hy
      have hq1 : IntKind.i64.wrap ((k : Int) / 4) = (k : Int) / 4 := by rw [IntWalk.i64_left]; exact wrap_in (by omega)
      have hq2 : ((k : Int) / 4).tmod 21 = (k : Int) / 4 % 21 := Int.tmod_eq_emod_of_nonneg (by omega)
      have hq3 : IntKind.i64.wrap (((k : Int) / 4).tdiv 21) = (k : Int) / 4 / 21 := by rw [Int.tdiv_eq_ediv_of_nonneg (by omega), IntWalk.i64_left]; exact wrap_in (by omega)
      have hn1 : ((k : Int) / 4 % 21).toNat = k / 4 % 21 := by omega
      have hn2 : ((k : Int) / 4 / 21).toNat = k / 4 / 21 := by omega
      go_wp2_with fail
      refine wp_region_mixI (l1 := [_, _, _, _, _, _, _, _, _, _, _, _, _, _, _, _, _, _]) (l2 := []) [(0, true), (1, true), (2, true), (3, true), (4, true), (5, true), (6, true), (7, true), (8, true), (9, true), (10, true), (11, true), (12, true), (13, true), (14, true), (15, true), (16, true), (17, true)] (fun u => u.cell? ⟨w1.heap.size, k / 4 % 21, none⟩ = some (.int .u64 (x : Int)) ∧ u.cell? ⟨w1.heap.size, k / 4 / 21, none⟩ = some (.int .u64 (y : Int))) (by kernel_rfl) (by kernel_rfl) (by repeat (first | refine loose_then ?_ | refine loose_block ?_ | exact loose_body (P := Tryz.prog) (fn := Tryz.f4))) ⟨c1, c2⟩ ?_
      refine mixI_take (.slice (some ⟨w1.heap.size, 0, none⟩) 21 21) rfl rfl (fun u hu => by obtain ⟨h1, h2⟩ := hu; go_simp) ?_
      refine mixI_take (.int .i64 (k : Int)) rfl rfl (fun u hu => by obtain ⟨h1, h2⟩ := hu; go_simp) ?_
      refine mixI_take (.int .i64 ((k / 4 : Nat) : Int)) rfl rfl (fun u hu => by obtain ⟨h1, h2⟩ := hu; go_simp) ?_
      refine mixI_take (.slice (some ⟨w1.heap.size, 0, none⟩) 21 21) rfl rfl (fun u hu => by obtain ⟨h1, h2⟩ := hu; go_simp) ?_
      refine mixI_take (.int .i64 21) rfl rfl (fun u hu => by obtain ⟨h1, h2⟩ := hu; go_simp) ?_
      refine mixI_take (.int .i64 ((k / 4 % 21 : Nat) : Int)) rfl rfl (fun u hu => by obtain ⟨h1, h2⟩ := hu; go_simp) ?_
      refine mixI_take (.pointer (some ⟨w1.heap.size, k / 4 % 21, none⟩)) rfl rfl (fun u hu => by obtain ⟨h1, h2⟩ := hu; go_simp; intro h; have := h (by omega); omega) ?_
      refine mixI_take (.int .u64 (x : Int)) rfl rfl (fun u hu => by obtain ⟨h1, h2⟩ := hu; go_simp) ?_
      refine mixI_take (.slice (some ⟨w1.heap.size, 0, none⟩) 21 21) rfl rfl (fun u hu => by obtain ⟨h1, h2⟩ := hu; go_simp) ?_
      refine mixI_take (.int .i64 (k : Int)) rfl rfl (fun u hu => by obtain ⟨h1, h2⟩ := hu; go_simp) ?_
      refine mixI_take (.int .i64 ((k / 4 : Nat) : Int)) rfl rfl (fun u hu => by obtain ⟨h1, h2⟩ := hu; go_simp) ?_
      refine mixI_take (.slice (some ⟨w1.heap.size, 0, none⟩) 21 21) rfl rfl (fun u hu => by obtain ⟨h1, h2⟩ := hu; go_simp) ?_
      refine mixI_take (.int .i64 21) rfl rfl (fun u hu => by obtain ⟨h1, h2⟩ := hu; go_simp) ?_
      refine mixI_take (.int .i64 ((k / 4 / 21 : Nat) : Int)) rfl rfl (fun u hu => by obtain ⟨h1, h2⟩ := hu; go_simp) ?_
      refine mixI_take (.pointer (some ⟨w1.heap.size, k / 4 / 21, none⟩)) rfl rfl (fun u hu => by obtain ⟨h1, h2⟩ := hu; go_simp; intro h; have := h (by omega); omega) ?_
      refine mixI_take (.int .u64 (y : Int)) rfl rfl (fun u hu => by obtain ⟨h1, h2⟩ := hu; go_simp) ?_
      refine mixI_take (.int .u64 (x : Int)) rfl rfl (fun u hu => by go_simp) ?_
      refine mixI_take (.int .u64 (y : Int)) rfl rfl (fun u hu => by go_simp) ?_
      show wpList _ _ _ _ _ _
      clear c1 c2 hq1 hq2 hq3 hn1 hn2
      cases hc1 : (bits BinOp.and IntKind.i64 (k : Int) 1 == 1) <;> cases hc2 : (bits BinOp.and IntKind.i64 (k : Int) 2 == 2)
      all_goals
        go_wp2_with fail
        go_loopg [6] 13 (fun gk i wr => ∃ j : Nat, j ≤ 13 ∧ gk = 13 - j ∧ i = .int .i64 (j : Int) ∧ Below w.heap.size w wr ∧ wr.heap[w1.heap.size]? = some (.cells edgeC 22 (0, 0)) ∧ wr.heap[w1.heap.size + 1]? = some (.cells opsC 9 (0, 0)))
        case atStart => exact ⟨0, by omega, rfl, rfl, hbw.drew, HL.out, HO.out⟩
        case round =>
          obtain ⟨j, hj, rfl, rfl, hbv, hL, hO⟩ := hrel
          by_cases hlj : j < 13
          · obtain ⟨s, hs⟩ := ops_at hlj
            have c3 := (cell_of_row _ (w1.heap.size + 1) j _ _ _ hO).trans hs
            have HL2 := Lib.hid hL; have HO2 := Lib.hid hO
            clear hL hO hs
            go_wp2_with (go_at_call 14; (first | (with_reducible refine (pair_any hx2 hy2 _).mono ?_) | (with_reducible refine (pair_any hx3 hy2 _).mono ?_) | (with_reducible refine (pair_any hx2 hy3 _).mono ?_) | (with_reducible refine (pair_any hx3 hy3 _).mono ?_)); rintro e w5 ⟨rfl, hb5⟩)
            go_roundg (13 - (j + 1))
            case measure => omega
            case rel => exact ⟨j + 1, by omega, rfl, by go_num, hbv.trans (hb5.mono hbv.size), (hb5.block _ (at_lt HL2.out)).trans HL2.out, (hb5.block _ (at_lt HO2.out)).trans HO2.out⟩
          · obtain rfl : j = 13 := by omega
            go_wp2
            go_roundg (1764 - (k + 1))
            case measure => omega
            case rel => exact ⟨k + 1, by omega, rfl, by go_num, hbv, hL, hO⟩
    · obtain rfl : k = 1764 := by omega
      go_wp2
      go_ret
      exact ⟨rfl, hbw⟩
end Go.Proofs.YtkgginkdhggpgaaGreatDoor.NumL
