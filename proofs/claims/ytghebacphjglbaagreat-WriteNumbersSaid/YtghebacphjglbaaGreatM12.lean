/- The law's bent, in some of its ways. (Printed by bent_gen.py.) -/
import Derived.Test.YtghebacphjglbaaGreatM11
namespace Go.Proofs.YtghebacphjglbaaGreat.BentC1
open Go Go.RowKit Go.Proofs.YtghebacphjglbaaGreat.Lexy Go.Proofs.YtghebacphjglbaaGreat.LexA Go.Proofs.YtghebacphjglbaaGreat.LexB Go.Proofs.YtghebacphjglbaaGreat.LexC Go.Proofs.YtghebacphjglbaaGreat.LexD Go.Proofs.YtghebacphjglbaaGreat.LexE Go.Proofs.YtghebacphjglbaaGreat.LexF Go.Proofs.YtghebacphjglbaaGreat.LexG Go.Proofs.YtghebacphjglbaaGreat.Heap Go.Proofs.YtghebacphjglbaaGreat.Dat Go.Proofs.YtghebacphjglbaaGreat.Ready Go.Proofs.YtghebacphjglbaaGreat.ReadA Go.Proofs.YtghebacphjglbaaGreat.ReadC Go.Proofs.YtghebacphjglbaaGreat.ReadH Go.Proofs.YtghebacphjglbaaGreat.ReadI Go.Proofs.YtghebacphjglbaaGreat.ReadM Go.Proofs.YtghebacphjglbaaGreat.ReadO Go.Proofs.YtghebacphjglbaaGreat.Same Go.Proofs.YtghebacphjglbaaGreat.WrO Go.Proofs.YtghebacphjglbaaGreat.WrK Go.Proofs.YtghebacphjglbaaGreat.Law12A Go.Proofs.YtghebacphjglbaaGreat.BentA Go.Proofs.YtghebacphjglbaaGreat.BentB

set_option maxRecDepth 100000 in
set_option maxHeartbeats 16000000 in
theorem bent_0 {w : World} {sd sr : Value} {s : List UInt8} (hD : Reads w (.row 62 4 smallT.decls.length (desD smallT.decls)) sd) (hR : Reads w (.row 38 4 smallT.rules.length (rusD smallT.rules)) sr) (hs : s.length ≤ 100) :
    Calls Tryz.prog 6 #[.agg #[sd, sr], .int .i64 0, .string (bs s)] w (BentQ w) := by
  obtain ⟨x0, y0, rfl⟩ := Reads.slice hD
  obtain ⟨x1, y1, rfl⟩ := Reads.slice hR
  have hsl : s.length ≤ Lim := by unfold Lim; omega
  have HSL := Lib.hid hsl; clear hsl
  have hzs := RwC.bs_size s
  have HC := Lib.hid (fun (u : World) (hu : Below w.heap.size w u) => Copy.copy_source Law12A.small_tx (Reads.below hu hD) (Reads.below hu hR))
  clear hD hR
  generalize hn0 : smallT.decls.length = n0 at *
  generalize hn1 : smallT.rules.length = n1 at *
  have HN0 := Lib.hid hn0; have HN1 := Lib.hid hn1; clear hn0 hn1
  have HB := Lib.hid (((Below.refl w.heap.size w).alloc (Nat.le_refl _) (.cells #[.slice x0 n0 y0, .slice x1 n1 y1] 28)).alloc (by simp) (.cells #[.slice none 0 0, .slice none 0 0] 28))
  have HSZ := Lib.hid (show ((w.alloc (.cells #[.slice x0 n0 y0, .slice x1 n1 y1] 28)).alloc (.cells #[.slice none 0 0, .slice none 0 0] 28)).heap.size = w.heap.size + 2 by simp)
  have XB := Lib.hid (show ((w.alloc (.cells #[.slice x0 n0 y0, .slice x1 n1 y1] 28)).alloc (.cells #[.slice none 0 0, .slice none 0 0] 28)).heap[w.heap.size + 1]? = some (.cells #[.slice none 0 0, .slice none 0 0] 28 (0, 0)) from LentK.alloc2 w _ _)
  have XA := Lib.hid (show ((w.alloc (.cells #[.slice x0 n0 y0, .slice x1 n1 y1] 28)).alloc (.cells #[.slice none 0 0, .slice none 0 0] 28)).heap[w.heap.size]? = some (.cells #[.slice x0 n0 y0, .slice x1 n1 y1] 28 (0, 0)) from (Below.heap_alloc _ _ _ (by simp)).trans (heap_alloc_new _ _))
  go_enter Tryz.func6, Tryz.ntmps6
  go_upto_region 1 with fail
  generalize ((w.alloc (.cells #[.slice x0 n0 y0, .slice x1 n1 y1] 28)).alloc (.cells #[.slice none 0 0, .slice none 0 0] 28)) = W at *
  have HCW := Lib.hid (HC.out W HB.out)
  have a0 : W.cell? ⟨w.heap.size, 0, none⟩ = some (.slice x0 n0 y0) := cell_of_row W _ 0 _ _ (0, 0) XA.out
  have a1 : W.cell? ⟨w.heap.size, 1, none⟩ = some (.slice x1 n1 y1) := cell_of_row W _ 1 _ _ (0, 0) XA.out
  clear HC
  generalize hH : w.heap.size = H at *
  have HZ := Lib.hid hH; clear hH
  go_upto_region 2 with (go_at_call 20; go_must (refine (HCW.out).mono ?_; rintro e w2 ⟨p0, q0, k0, p1, q1, k1, rfl, hl0, hl1, hnd, hb⟩; have hoa := (hb.block H (by have := HSZ.out; omega)).trans XA.out; have hob := (hb.block (H + 1) (by have := HSZ.out; omega)).trans XB.out; have f0 := frozen_of_row w2 H 0 _ _ hoa; have f1 := frozen_of_row w2 H 1 _ _ hoa; have c0 := cell_of_row w2 H 0 _ _ (0, 0) hoa; have c1 := cell_of_row w2 H 1 _ _ (0, 0) hoa; have HL0 := Lib.hid hl0; have HL1 := Lib.hid hl1; have HND := Lib.hid hnd; have HBN := Lib.hid hb; have XA2 := Lib.hid hoa; have XB2 := Lib.hid hob; clear hl0 hl1 hnd hb hoa hob a0 a1))
  clear f0 f1 c0 c1
  obtain ⟨w3, hw3⟩ : ∃ w3, w3 = (w2.setCell ⟨H, 0, none⟩ (.slice p0 n0 q0)).setCell ⟨H, 1, none⟩ (.slice p1 n1 q1) := ⟨_, rfl⟩
  rw [← hw3]
  have XH := Lib.hid (show w3.heap[H]? = some (.cells #[.slice p0 n0 q0, .slice p1 n1 q1] 28 (0, 0)) from by rw [hw3]; exact blk_set (blk_set XA2.out 0 _) 1 _)
  have XR := Lib.hid (show w3.heap[H + 1]? = some (.cells #[.slice none 0 0, .slice none 0 0] 28 (0, 0)) from by rw [hw3]; exact (Below.heap_setCell _ _ _ _ (by simp)).trans ((Below.heap_setCell _ _ _ _ (by simp)).trans XB2.out))
  have hB3 : Below H w w3 := by rw [hw3]; exact ((HB.out.trans (HBN.out.mono (by have := HSZ.out; omega))).setCell (p := ⟨H, 0, none⟩) (Nat.le_refl _) _).setCell (p := ⟨H, 1, none⟩) (Nat.le_refl _) _
  have hsz3 : w3.heap.size = w2.heap.size := by rw [hw3]; simp [World.setCell]
  have hkeep : ∀ i, W.heap.size ≤ i → w3.heap[i]? = w2.heap[i]? := fun i hi => by rw [hw3]; exact (Below.heap_setCell _ _ _ _ (by have := HSZ.out; show i ≠ H; omega)).trans (Below.heap_setCell _ _ _ _ (by have := HSZ.out; show i ≠ H; omega))
  have hl0 := HL0.out; have hl1 := HL1.out
  rw [← HN0.out] at hl0
  rw [← HN1.out] at hl1
  obtain ⟨D, N, R, P, A, U, V, X, Q0, Q1, cN, cP, cA, cU, cV, cX, z0, z1, z2, he0, he1, hLN, hLT, hz0, hz1, hz2, hHas, oD, oP⟩ := small_mem hl0 hl1 HND.out
  have hd0 : (smallT.decls.length : Nat) = 1 := rfl
  have hd1 : (smallT.rules.length : Nat) = 1 := rfl
  rw [← HN0.out, ← HN1.out, hd0, hd1] at XH
  rw [hd0] at he0
  rw [hd1] at he1
  simp only [Value.slice.injEq, true_and] at he0 he1
  obtain ⟨rfl, rfl⟩ := he0
  obtain ⟨rfl, rfl⟩ := he1
  have HAS := Lib.hid (hHas.other (W' := w3) fun b hb => hkeep b (hLT b hb).1)
  have OD := Lib.hid (own_same (w' := w3) oD fun g hg => by cases hg; exact hkeep D (hLT D (by simp)).1)
  have OP := Lib.hid (own_same (w' := w3) oP fun g hg => by cases hg; exact hkeep P (hLT P (by simp)).1)
  have HLT := Lib.hid (show ∀ b ∈ [D, N, R, P, A, U, V, X], H + 2 ≤ b ∧ b < w3.heap.size from fun b hb => ⟨by have := (hLT b hb).1; have := HSZ.out; omega, by rw [hsz3]; exact (hLT b hb).2⟩)
  have HLN := Lib.hid hLN
  have HZ0 := Lib.hid hz0; have HZ1 := Lib.hid hz1; have HZ2 := Lib.hid hz2
  have HB3 := Lib.hid hB3
  have HWS := Lib.hid (show H + 2 ≤ w3.heap.size by rw [hsz3]; have := HBN.out.size; have := HSZ.out; omega)
  clear hw3 XA2 XB2 hB3 hkeep hl0 hl1 HL0 HL1 HND hLN hLT hz0 hz1 hz2 hHas oD oP hd0 hd1 HBN HCW HB HSZ XB XA HN0 HN1 hsz3
  have c0 : w3.cell? ⟨H, 0, none⟩ = some (.slice (some ⟨D, 0, none⟩) 1 q0) := cell_of_row w3 H 0 _ _ (0, 0) XH.out
  have c1 : w3.cell? ⟨H, 1, none⟩ = some (.slice (some ⟨R, 0, none⟩) 1 q1) := cell_of_row w3 H 1 _ _ (0, 0) XH.out
  have c2 : w3.cell? ⟨R, 2, none⟩ = some (.slice (some ⟨A, 0, none⟩) 2 cA) := HAS.out.cell 7 rfl rfl
  have hmix : Tryz.prog.follows .mixedOrders = true := by kernel_rfl
  go_region_o
  obtain ⟨w5, hw5⟩ : ∃ w5, w5 = w3.drew := ⟨_, rfl⟩
  rw [← hw5]
  have YH := Lib.hid (show w5.heap[H]? = some (.cells #[.slice (some ⟨D, 0, none⟩) 1 q0, .slice (some ⟨R, 0, none⟩) 1 q1] 28 (0, 0)) by rw [hw5]; exact XH.out)
  have YR := Lib.hid (show w5.heap[H + 1]? = some (.cells #[.slice none 0 0, .slice none 0 0] 28 (0, 0)) by rw [hw5]; exact XR.out)
  have HAT := Lib.hid (show Has w5 [D, N, R, P, A, U, V, X] (memS D N R P A U V X cN cP cA cU cV cX z0 z1 z2) by rw [hw5]; exact HAS.out.other fun _ _ => rfl)
  have OD5 := Lib.hid (own_same (w' := w5) OD.out fun g _ => by rw [hw5]; rfl)
  have OP5 := Lib.hid (own_same (w' := w5) OP.out fun g _ => by rw [hw5]; rfl)
  have HLU := Lib.hid (show ∀ b ∈ [D, N, R, P, A, U, V, X], H + 2 ≤ b ∧ b < w5.heap.size from fun b hb => by rw [hw5]; exact HLT.out b hb)
  have HB5 := Lib.hid (show Below H w w5 by rw [hw5]; exact HB3.out.drew)
  have HWT := Lib.hid (show H + 2 ≤ w5.heap.size by rw [hw5]; exact HWS.out)
  clear c0 c1 c2 hw5 XH XR HAS OD OP HLT HB3 HWS
  have c2 : w5.cell? ⟨R, 2, none⟩ = some (.slice (some ⟨A, 0, none⟩) 2 cA) := HAT.out.cell 7 (i := 2) rfl rfl
  go_upto_region 4 with fail
  clear c2
  have s0 := HAT.out.cell 0 (i := 0) (o := 0) rfl rfl
  have t0 := HAT.out.fro 0 (i := 0) (o := 0) rfl rfl
  go_upto_region 39 with fail
  clear s0 t0
  obtain ⟨w4, hw4⟩ : ∃ w4, w4 = w5.setCell ⟨D, 0, none⟩ (.string (bs s)) := ⟨_, rfl⟩
  rw [← hw4]
  have HA4 := Lib.hid (show Has w4 [D, N, R, P, A, U, V, X] (upd (memS D N R P A U V X cN cP cA cU cV cX z0 z1 z2) 0 0 (.string (bs s))) by rw [hw4]; exact (Has.set HLN.out HAT.out 0 0 (.string (bs s)) rfl))
  have ZH := Lib.hid (show w4.heap[H]? = some (.cells #[.slice (some ⟨D, 0, none⟩) 1 q0, .slice (some ⟨R, 0, none⟩) 1 q1] 28 (0, 0)) by rw [hw4]; exact (Below.heap_setCell _ _ _ _ (by have := (HLU.out D (by simp)).1; show _ ≠ D; omega)).trans (YH.out))
  have ZR := Lib.hid (show w4.heap[H + 1]? = some (.cells #[.slice none 0 0, .slice none 0 0] 28 (0, 0)) by rw [hw4]; exact (Below.heap_setCell _ _ _ _ (by have := (HLU.out D (by simp)).1; show _ ≠ D; omega)).trans (YR.out))
  have HB6 := Lib.hid (show Below H w w4 by rw [hw4]; exact (HB5.out.setCell (p := ⟨D, 0, none⟩) (by have := (HLU.out D (by simp)).1; show H ≤ D; omega) _))
  clear hw4 HAT YH YR HB5
  have b0 : w4.cell? ⟨H, 0, none⟩ = some (.slice (some ⟨D, 0, none⟩) 1 q0) := cell_of_row w4 H 0 _ _ (0, 0) ZH.out
  have b1 : w4.cell? ⟨H, 1, none⟩ = some (.slice (some ⟨R, 0, none⟩) 1 q1) := cell_of_row w4 H 1 _ _ (0, 0) ZH.out
  have e0 := cell_of_row w4 (H + 1) 0 _ _ (0, 0) ZR.out
  have e1 := cell_of_row w4 (H + 1) 1 _ _ (0, 0) ZR.out
  have f0 := frozen_of_row w4 (H + 1) 0 _ _ ZR.out
  have f1 := frozen_of_row w4 (H + 1) 1 _ _ ZR.out
  have hx := blk_set (blk_set ZR.out 0 (.slice (some ⟨D, 0, none⟩) 1 q0)) 1 (.slice (some ⟨R, 0, none⟩) 1 q1)
  have HFI := Lib.hid (HB6.out.setCell (p := ⟨H + 1, 0, none⟩) (Nat.le_succ _) (.slice (some ⟨D, 0, none⟩) 1 q0) |>.setCell (p := ⟨H + 1, 1, none⟩) (Nat.le_succ _) (.slice (some ⟨R, 0, none⟩) 1 q1))
  go_wp2_with fail
  clear b0 b1 e0 e1 f0 f1
  obtain ⟨w6, hw6⟩ : ∃ w6, w6 = (w4.setCell ⟨H + 1, 0, none⟩ (.slice (some ⟨D, 0, none⟩) 1 q0)).setCell ⟨H + 1, 1, none⟩ (.slice (some ⟨R, 0, none⟩) 1 q1) := ⟨_, rfl⟩
  rw [← hw6] at hx HFI ⊢
  have HK6 := Lib.hid (show ∀ b, H + 2 ≤ b → w6.heap[b]? = w4.heap[b]? from fun b hb => by rw [hw6]; exact (Below.heap_setCell _ _ _ _ (by show b ≠ H + 1; omega)).trans (Below.heap_setCell _ _ _ _ (by show b ≠ H + 1; omega)))
  have HA6 := Lib.hid (HA4.out.other (W' := w6) fun b hb => HK6.out b (HLU.out b hb).1)
  clear hw6
  have hU : Reads w6 (.row 33 3 1 (wdsD [.mk [88] [] 0])) (.slice (some ⟨U, 0, none⟩) 1 cU) := rd_word1 (HA6.out.cell 22 (i := 5) rfl rfl) (HA6.out.cell 23 (i := 5) rfl rfl) (HA6.out.cell 24 (i := 5) rfl rfl) (rz HZ0.out _)
  have hX : Reads w6 (.row 33 3 1 (wdsD [.mk [88] [] 0])) (.slice (some ⟨X, 0, none⟩) 1 cX) := rd_word1 (HA6.out.cell 31 (i := 7) rfl rfl) (HA6.out.cell 32 (i := 7) rfl rfl) (HA6.out.cell 33 (i := 7) rfl rfl) (rz HZ2.out _)
  have hV : Reads w6 (.row 33 3 2 (wdsD [.mk [108] [.mk [88] [] 0] 0, .mk [78] [] 0])) (.slice (some ⟨V, 0, none⟩) 2 cV) := rd_word2 (HA6.out.cell 25 (i := 6) rfl rfl) (HA6.out.cell 26 (i := 6) rfl rfl) (HA6.out.cell 27 (i := 6) rfl rfl) hX (HA6.out.cell 28 (i := 6) rfl rfl) (HA6.out.cell 29 (i := 6) rfl rfl) (HA6.out.cell 30 (i := 6) rfl rfl) (rz HZ1.out _)
  have hA : Reads w6 (.row 35 6 2 (alsD [⟨[.mk [88] [] 0], [], false, [], 0, 0⟩, ⟨[.mk [108] [.mk [88] [] 0] 0, .mk [78] [] 0], [78], true, [97], 0, 0⟩])) (.slice (some ⟨A, 0, none⟩) 2 cA) := rd_alts (x := ⟨[.mk [88] [] 0], [], false, [], 0, 0⟩) (y := ⟨[.mk [108] [.mk [88] [] 0] 0, .mk [78] [] 0], [78], true, [97], 0, 0⟩) (HA6.out.cell 10 (i := 4) rfl rfl) hU (HA6.out.cell 11 (i := 4) rfl rfl) (HA6.out.cell 12 (i := 4) rfl rfl) (HA6.out.cell 13 (i := 4) rfl rfl) (HA6.out.cell 14 (i := 4) rfl rfl) (HA6.out.cell 15 (i := 4) rfl rfl) (HA6.out.cell 16 (i := 4) rfl rfl) hV (HA6.out.cell 17 (i := 4) rfl rfl) (HA6.out.cell 18 (i := 4) rfl rfl) (HA6.out.cell 19 (i := 4) rfl rfl) (HA6.out.cell 20 (i := 4) rfl rfl) (HA6.out.cell 21 (i := 4) rfl rfl)
  have hR : Reads w6 (.row 38 4 1 (rusD [⟨[108], [[88]], [⟨[.mk [88] [] 0], [], false, [], 0, 0⟩, ⟨[.mk [108] [.mk [88] [] 0] 0, .mk [78] [] 0], [78], true, [97], 0, 0⟩], 0⟩])) (.slice (some ⟨R, 0, none⟩) 1 q1) := rd_rule (x := ⟨[108], [[88]], [⟨[.mk [88] [] 0], [], false, [], 0, 0⟩, ⟨[.mk [108] [.mk [88] [] 0] 0, .mk [78] [] 0], [78], true, [97], 0, 0⟩], 0⟩) (HA6.out.cell 5 (i := 2) rfl rfl) (HA6.out.cell 6 (i := 2) rfl rfl) (rd_str1 (HA6.out.cell 9 (i := 3) rfl rfl)) (HA6.out.cell 7 (i := 2) rfl rfl) hA (HA6.out.cell 8 (i := 2) rfl rfl)
  have hD : Reads w6 (.row 62 4 1 (desD [⟨s, [105, 110, 116], [[78]], 0⟩])) (.slice (some ⟨D, 0, none⟩) 1 q0) := rd_decl (x := ⟨s, [105, 110, 116], [[78]], 0⟩) (HA6.out.cell 0 (i := 0) rfl rfl) (HA6.out.cell 1 (i := 0) rfl rfl) (HA6.out.cell 2 (i := 0) rfl rfl) (rd_str1 (HA6.out.cell 4 (i := 1) rfl rfl)) (HA6.out.cell 3 (i := 0) rfl rfl)
  have hbig : bigT ⟨[⟨s, [105, 110, 116], [[78]], 0⟩], [⟨[108], [[88]], [⟨[.mk [88] [] 0], [], false, [], 0, 0⟩, ⟨[.mk [108] [.mk [88] [] 0] 0, .mk [78] [] 0], [78], true, [97], 0, 0⟩], 0⟩]⟩ := ⟨by simp [Lim], by simp [Lim], (fa1 ⟨HSL.out, (show ([105, 110, 116] : List UInt8).length ≤ 140737488351232 by decide), by simp [Lim], (fa1 (show ([78] : List UInt8).length ≤ 140737488351232 by decide))⟩), (fa1 ⟨(show ([108] : List UInt8).length ≤ 140737488351232 by decide), by simp [Lim], by simp [Lim], (fa1 (show ([88] : List UInt8).length ≤ 140737488351232 by decide)), (fa2 ⟨by simp [Lim], (show ([] : List UInt8).length ≤ 140737488351232 by decide), (show ([] : List UInt8).length ≤ 140737488351232 by decide), (fa1 (bw_of (show ([88] : List UInt8).length ≤ 140737488351232 by decide) (by simp [Lim]) (fa0 _)))⟩ ⟨by simp [Lim], (show ([78] : List UInt8).length ≤ 140737488351232 by decide), (show ([97] : List UInt8).length ≤ 140737488351232 by decide), (fa2 (bw_of (show ([108] : List UInt8).length ≤ 140737488351232 by decide) (by simp [Lim]) (fa1 (bw_of (show ([88] : List UInt8).length ≤ 140737488351232 by decide) (by simp [Lim]) (fa0 _)))) (bw_of (show ([78] : List UInt8).length ≤ 140737488351232 by decide) (by simp [Lim]) (fa0 _)))⟩)⟩)⟩
  exact bodyPost_ret (res_text rfl hx rfl) rfl ⟨⟨[⟨s, [105, 110, 116], [[78]], 0⟩], [⟨[108], [[88]], [⟨[.mk [88] [] 0], [], false, [], 0, 0⟩, ⟨[.mk [108] [.mk [88] [] 0] 0, .mk [78] [] 0], [78], true, [97], 0, 0⟩], 0⟩]⟩, _, _, rfl, hbig, hD, hR, by rw [HZ.out]; exact HFI.out⟩
set_option maxRecDepth 100000 in
set_option maxHeartbeats 16000000 in
theorem bent_1 {w : World} {sd sr : Value} {s : List UInt8} (hD : Reads w (.row 62 4 smallT.decls.length (desD smallT.decls)) sd) (hR : Reads w (.row 38 4 smallT.rules.length (rusD smallT.rules)) sr) (hs : s.length ≤ 100) :
    Calls Tryz.prog 6 #[.agg #[sd, sr], .int .i64 1, .string (bs s)] w (BentQ w) := by
  obtain ⟨x0, y0, rfl⟩ := Reads.slice hD
  obtain ⟨x1, y1, rfl⟩ := Reads.slice hR
  have hsl : s.length ≤ Lim := by unfold Lim; omega
  have HSL := Lib.hid hsl; clear hsl
  have hzs := RwC.bs_size s
  have HC := Lib.hid (fun (u : World) (hu : Below w.heap.size w u) => Copy.copy_source Law12A.small_tx (Reads.below hu hD) (Reads.below hu hR))
  clear hD hR
  generalize hn0 : smallT.decls.length = n0 at *
  generalize hn1 : smallT.rules.length = n1 at *
  have HN0 := Lib.hid hn0; have HN1 := Lib.hid hn1; clear hn0 hn1
  have HB := Lib.hid (((Below.refl w.heap.size w).alloc (Nat.le_refl _) (.cells #[.slice x0 n0 y0, .slice x1 n1 y1] 28)).alloc (by simp) (.cells #[.slice none 0 0, .slice none 0 0] 28))
  have HSZ := Lib.hid (show ((w.alloc (.cells #[.slice x0 n0 y0, .slice x1 n1 y1] 28)).alloc (.cells #[.slice none 0 0, .slice none 0 0] 28)).heap.size = w.heap.size + 2 by simp)
  have XB := Lib.hid (show ((w.alloc (.cells #[.slice x0 n0 y0, .slice x1 n1 y1] 28)).alloc (.cells #[.slice none 0 0, .slice none 0 0] 28)).heap[w.heap.size + 1]? = some (.cells #[.slice none 0 0, .slice none 0 0] 28 (0, 0)) from LentK.alloc2 w _ _)
  have XA := Lib.hid (show ((w.alloc (.cells #[.slice x0 n0 y0, .slice x1 n1 y1] 28)).alloc (.cells #[.slice none 0 0, .slice none 0 0] 28)).heap[w.heap.size]? = some (.cells #[.slice x0 n0 y0, .slice x1 n1 y1] 28 (0, 0)) from (Below.heap_alloc _ _ _ (by simp)).trans (heap_alloc_new _ _))
  go_enter Tryz.func6, Tryz.ntmps6
  go_upto_region 1 with fail
  generalize ((w.alloc (.cells #[.slice x0 n0 y0, .slice x1 n1 y1] 28)).alloc (.cells #[.slice none 0 0, .slice none 0 0] 28)) = W at *
  have HCW := Lib.hid (HC.out W HB.out)
  have a0 : W.cell? ⟨w.heap.size, 0, none⟩ = some (.slice x0 n0 y0) := cell_of_row W _ 0 _ _ (0, 0) XA.out
  have a1 : W.cell? ⟨w.heap.size, 1, none⟩ = some (.slice x1 n1 y1) := cell_of_row W _ 1 _ _ (0, 0) XA.out
  clear HC
  generalize hH : w.heap.size = H at *
  have HZ := Lib.hid hH; clear hH
  go_upto_region 2 with (go_at_call 20; go_must (refine (HCW.out).mono ?_; rintro e w2 ⟨p0, q0, k0, p1, q1, k1, rfl, hl0, hl1, hnd, hb⟩; have hoa := (hb.block H (by have := HSZ.out; omega)).trans XA.out; have hob := (hb.block (H + 1) (by have := HSZ.out; omega)).trans XB.out; have f0 := frozen_of_row w2 H 0 _ _ hoa; have f1 := frozen_of_row w2 H 1 _ _ hoa; have c0 := cell_of_row w2 H 0 _ _ (0, 0) hoa; have c1 := cell_of_row w2 H 1 _ _ (0, 0) hoa; have HL0 := Lib.hid hl0; have HL1 := Lib.hid hl1; have HND := Lib.hid hnd; have HBN := Lib.hid hb; have XA2 := Lib.hid hoa; have XB2 := Lib.hid hob; clear hl0 hl1 hnd hb hoa hob a0 a1))
  clear f0 f1 c0 c1
  obtain ⟨w3, hw3⟩ : ∃ w3, w3 = (w2.setCell ⟨H, 0, none⟩ (.slice p0 n0 q0)).setCell ⟨H, 1, none⟩ (.slice p1 n1 q1) := ⟨_, rfl⟩
  rw [← hw3]
  have XH := Lib.hid (show w3.heap[H]? = some (.cells #[.slice p0 n0 q0, .slice p1 n1 q1] 28 (0, 0)) from by rw [hw3]; exact blk_set (blk_set XA2.out 0 _) 1 _)
  have XR := Lib.hid (show w3.heap[H + 1]? = some (.cells #[.slice none 0 0, .slice none 0 0] 28 (0, 0)) from by rw [hw3]; exact (Below.heap_setCell _ _ _ _ (by simp)).trans ((Below.heap_setCell _ _ _ _ (by simp)).trans XB2.out))
  have hB3 : Below H w w3 := by rw [hw3]; exact ((HB.out.trans (HBN.out.mono (by have := HSZ.out; omega))).setCell (p := ⟨H, 0, none⟩) (Nat.le_refl _) _).setCell (p := ⟨H, 1, none⟩) (Nat.le_refl _) _
  have hsz3 : w3.heap.size = w2.heap.size := by rw [hw3]; simp [World.setCell]
  have hkeep : ∀ i, W.heap.size ≤ i → w3.heap[i]? = w2.heap[i]? := fun i hi => by rw [hw3]; exact (Below.heap_setCell _ _ _ _ (by have := HSZ.out; show i ≠ H; omega)).trans (Below.heap_setCell _ _ _ _ (by have := HSZ.out; show i ≠ H; omega))
  have hl0 := HL0.out; have hl1 := HL1.out
  rw [← HN0.out] at hl0
  rw [← HN1.out] at hl1
  obtain ⟨D, N, R, P, A, U, V, X, Q0, Q1, cN, cP, cA, cU, cV, cX, z0, z1, z2, he0, he1, hLN, hLT, hz0, hz1, hz2, hHas, oD, oP⟩ := small_mem hl0 hl1 HND.out
  have hd0 : (smallT.decls.length : Nat) = 1 := rfl
  have hd1 : (smallT.rules.length : Nat) = 1 := rfl
  rw [← HN0.out, ← HN1.out, hd0, hd1] at XH
  rw [hd0] at he0
  rw [hd1] at he1
  simp only [Value.slice.injEq, true_and] at he0 he1
  obtain ⟨rfl, rfl⟩ := he0
  obtain ⟨rfl, rfl⟩ := he1
  have HAS := Lib.hid (hHas.other (W' := w3) fun b hb => hkeep b (hLT b hb).1)
  have OD := Lib.hid (own_same (w' := w3) oD fun g hg => by cases hg; exact hkeep D (hLT D (by simp)).1)
  have OP := Lib.hid (own_same (w' := w3) oP fun g hg => by cases hg; exact hkeep P (hLT P (by simp)).1)
  have HLT := Lib.hid (show ∀ b ∈ [D, N, R, P, A, U, V, X], H + 2 ≤ b ∧ b < w3.heap.size from fun b hb => ⟨by have := (hLT b hb).1; have := HSZ.out; omega, by rw [hsz3]; exact (hLT b hb).2⟩)
  have HLN := Lib.hid hLN
  have HZ0 := Lib.hid hz0; have HZ1 := Lib.hid hz1; have HZ2 := Lib.hid hz2
  have HB3 := Lib.hid hB3
  have HWS := Lib.hid (show H + 2 ≤ w3.heap.size by rw [hsz3]; have := HBN.out.size; have := HSZ.out; omega)
  clear hw3 XA2 XB2 hB3 hkeep hl0 hl1 HL0 HL1 HND hLN hLT hz0 hz1 hz2 hHas oD oP hd0 hd1 HBN HCW HB HSZ XB XA HN0 HN1 hsz3
  have c0 : w3.cell? ⟨H, 0, none⟩ = some (.slice (some ⟨D, 0, none⟩) 1 q0) := cell_of_row w3 H 0 _ _ (0, 0) XH.out
  have c1 : w3.cell? ⟨H, 1, none⟩ = some (.slice (some ⟨R, 0, none⟩) 1 q1) := cell_of_row w3 H 1 _ _ (0, 0) XH.out
  have c2 : w3.cell? ⟨R, 2, none⟩ = some (.slice (some ⟨A, 0, none⟩) 2 cA) := HAS.out.cell 7 rfl rfl
  have hmix : Tryz.prog.follows .mixedOrders = true := by kernel_rfl
  go_region_o
  obtain ⟨w5, hw5⟩ : ∃ w5, w5 = w3.drew := ⟨_, rfl⟩
  rw [← hw5]
  have YH := Lib.hid (show w5.heap[H]? = some (.cells #[.slice (some ⟨D, 0, none⟩) 1 q0, .slice (some ⟨R, 0, none⟩) 1 q1] 28 (0, 0)) by rw [hw5]; exact XH.out)
  have YR := Lib.hid (show w5.heap[H + 1]? = some (.cells #[.slice none 0 0, .slice none 0 0] 28 (0, 0)) by rw [hw5]; exact XR.out)
  have HAT := Lib.hid (show Has w5 [D, N, R, P, A, U, V, X] (memS D N R P A U V X cN cP cA cU cV cX z0 z1 z2) by rw [hw5]; exact HAS.out.other fun _ _ => rfl)
  have OD5 := Lib.hid (own_same (w' := w5) OD.out fun g _ => by rw [hw5]; rfl)
  have OP5 := Lib.hid (own_same (w' := w5) OP.out fun g _ => by rw [hw5]; rfl)
  have HLU := Lib.hid (show ∀ b ∈ [D, N, R, P, A, U, V, X], H + 2 ≤ b ∧ b < w5.heap.size from fun b hb => by rw [hw5]; exact HLT.out b hb)
  have HB5 := Lib.hid (show Below H w w5 by rw [hw5]; exact HB3.out.drew)
  have HWT := Lib.hid (show H + 2 ≤ w5.heap.size by rw [hw5]; exact HWS.out)
  clear c0 c1 c2 hw5 XH XR HAS OD OP HLT HB3 HWS
  have c2 : w5.cell? ⟨R, 2, none⟩ = some (.slice (some ⟨A, 0, none⟩) 2 cA) := HAT.out.cell 7 (i := 2) rfl rfl
  go_upto_region 4 with fail
  clear c2
  have s0 := HAT.out.cell 1 (i := 0) (o := 1) rfl rfl
  have t0 := HAT.out.fro 1 (i := 0) (o := 1) rfl rfl
  go_upto_region 39 with fail
  clear s0 t0
  obtain ⟨w4, hw4⟩ : ∃ w4, w4 = w5.setCell ⟨D, 1, none⟩ (.string (bs s)) := ⟨_, rfl⟩
  rw [← hw4]
  have HA4 := Lib.hid (show Has w4 [D, N, R, P, A, U, V, X] (upd (memS D N R P A U V X cN cP cA cU cV cX z0 z1 z2) 0 1 (.string (bs s))) by rw [hw4]; exact (Has.set HLN.out HAT.out 0 1 (.string (bs s)) rfl))
  have ZH := Lib.hid (show w4.heap[H]? = some (.cells #[.slice (some ⟨D, 0, none⟩) 1 q0, .slice (some ⟨R, 0, none⟩) 1 q1] 28 (0, 0)) by rw [hw4]; exact (Below.heap_setCell _ _ _ _ (by have := (HLU.out D (by simp)).1; show _ ≠ D; omega)).trans (YH.out))
  have ZR := Lib.hid (show w4.heap[H + 1]? = some (.cells #[.slice none 0 0, .slice none 0 0] 28 (0, 0)) by rw [hw4]; exact (Below.heap_setCell _ _ _ _ (by have := (HLU.out D (by simp)).1; show _ ≠ D; omega)).trans (YR.out))
  have HB6 := Lib.hid (show Below H w w4 by rw [hw4]; exact (HB5.out.setCell (p := ⟨D, 1, none⟩) (by have := (HLU.out D (by simp)).1; show H ≤ D; omega) _))
  clear hw4 HAT YH YR HB5
  have b0 : w4.cell? ⟨H, 0, none⟩ = some (.slice (some ⟨D, 0, none⟩) 1 q0) := cell_of_row w4 H 0 _ _ (0, 0) ZH.out
  have b1 : w4.cell? ⟨H, 1, none⟩ = some (.slice (some ⟨R, 0, none⟩) 1 q1) := cell_of_row w4 H 1 _ _ (0, 0) ZH.out
  have e0 := cell_of_row w4 (H + 1) 0 _ _ (0, 0) ZR.out
  have e1 := cell_of_row w4 (H + 1) 1 _ _ (0, 0) ZR.out
  have f0 := frozen_of_row w4 (H + 1) 0 _ _ ZR.out
  have f1 := frozen_of_row w4 (H + 1) 1 _ _ ZR.out
  have hx := blk_set (blk_set ZR.out 0 (.slice (some ⟨D, 0, none⟩) 1 q0)) 1 (.slice (some ⟨R, 0, none⟩) 1 q1)
  have HFI := Lib.hid (HB6.out.setCell (p := ⟨H + 1, 0, none⟩) (Nat.le_succ _) (.slice (some ⟨D, 0, none⟩) 1 q0) |>.setCell (p := ⟨H + 1, 1, none⟩) (Nat.le_succ _) (.slice (some ⟨R, 0, none⟩) 1 q1))
  go_wp2_with fail
  clear b0 b1 e0 e1 f0 f1
  obtain ⟨w6, hw6⟩ : ∃ w6, w6 = (w4.setCell ⟨H + 1, 0, none⟩ (.slice (some ⟨D, 0, none⟩) 1 q0)).setCell ⟨H + 1, 1, none⟩ (.slice (some ⟨R, 0, none⟩) 1 q1) := ⟨_, rfl⟩
  rw [← hw6] at hx HFI ⊢
  have HK6 := Lib.hid (show ∀ b, H + 2 ≤ b → w6.heap[b]? = w4.heap[b]? from fun b hb => by rw [hw6]; exact (Below.heap_setCell _ _ _ _ (by show b ≠ H + 1; omega)).trans (Below.heap_setCell _ _ _ _ (by show b ≠ H + 1; omega)))
  have HA6 := Lib.hid (HA4.out.other (W' := w6) fun b hb => HK6.out b (HLU.out b hb).1)
  clear hw6
  have hU : Reads w6 (.row 33 3 1 (wdsD [.mk [88] [] 0])) (.slice (some ⟨U, 0, none⟩) 1 cU) := rd_word1 (HA6.out.cell 22 (i := 5) rfl rfl) (HA6.out.cell 23 (i := 5) rfl rfl) (HA6.out.cell 24 (i := 5) rfl rfl) (rz HZ0.out _)
  have hX : Reads w6 (.row 33 3 1 (wdsD [.mk [88] [] 0])) (.slice (some ⟨X, 0, none⟩) 1 cX) := rd_word1 (HA6.out.cell 31 (i := 7) rfl rfl) (HA6.out.cell 32 (i := 7) rfl rfl) (HA6.out.cell 33 (i := 7) rfl rfl) (rz HZ2.out _)
  have hV : Reads w6 (.row 33 3 2 (wdsD [.mk [108] [.mk [88] [] 0] 0, .mk [78] [] 0])) (.slice (some ⟨V, 0, none⟩) 2 cV) := rd_word2 (HA6.out.cell 25 (i := 6) rfl rfl) (HA6.out.cell 26 (i := 6) rfl rfl) (HA6.out.cell 27 (i := 6) rfl rfl) hX (HA6.out.cell 28 (i := 6) rfl rfl) (HA6.out.cell 29 (i := 6) rfl rfl) (HA6.out.cell 30 (i := 6) rfl rfl) (rz HZ1.out _)
  have hA : Reads w6 (.row 35 6 2 (alsD [⟨[.mk [88] [] 0], [], false, [], 0, 0⟩, ⟨[.mk [108] [.mk [88] [] 0] 0, .mk [78] [] 0], [78], true, [97], 0, 0⟩])) (.slice (some ⟨A, 0, none⟩) 2 cA) := rd_alts (x := ⟨[.mk [88] [] 0], [], false, [], 0, 0⟩) (y := ⟨[.mk [108] [.mk [88] [] 0] 0, .mk [78] [] 0], [78], true, [97], 0, 0⟩) (HA6.out.cell 10 (i := 4) rfl rfl) hU (HA6.out.cell 11 (i := 4) rfl rfl) (HA6.out.cell 12 (i := 4) rfl rfl) (HA6.out.cell 13 (i := 4) rfl rfl) (HA6.out.cell 14 (i := 4) rfl rfl) (HA6.out.cell 15 (i := 4) rfl rfl) (HA6.out.cell 16 (i := 4) rfl rfl) hV (HA6.out.cell 17 (i := 4) rfl rfl) (HA6.out.cell 18 (i := 4) rfl rfl) (HA6.out.cell 19 (i := 4) rfl rfl) (HA6.out.cell 20 (i := 4) rfl rfl) (HA6.out.cell 21 (i := 4) rfl rfl)
  have hR : Reads w6 (.row 38 4 1 (rusD [⟨[108], [[88]], [⟨[.mk [88] [] 0], [], false, [], 0, 0⟩, ⟨[.mk [108] [.mk [88] [] 0] 0, .mk [78] [] 0], [78], true, [97], 0, 0⟩], 0⟩])) (.slice (some ⟨R, 0, none⟩) 1 q1) := rd_rule (x := ⟨[108], [[88]], [⟨[.mk [88] [] 0], [], false, [], 0, 0⟩, ⟨[.mk [108] [.mk [88] [] 0] 0, .mk [78] [] 0], [78], true, [97], 0, 0⟩], 0⟩) (HA6.out.cell 5 (i := 2) rfl rfl) (HA6.out.cell 6 (i := 2) rfl rfl) (rd_str1 (HA6.out.cell 9 (i := 3) rfl rfl)) (HA6.out.cell 7 (i := 2) rfl rfl) hA (HA6.out.cell 8 (i := 2) rfl rfl)
  have hD : Reads w6 (.row 62 4 1 (desD [⟨[116, 111, 107, 101, 110], s, [[78]], 0⟩])) (.slice (some ⟨D, 0, none⟩) 1 q0) := rd_decl (x := ⟨[116, 111, 107, 101, 110], s, [[78]], 0⟩) (HA6.out.cell 0 (i := 0) rfl rfl) (HA6.out.cell 1 (i := 0) rfl rfl) (HA6.out.cell 2 (i := 0) rfl rfl) (rd_str1 (HA6.out.cell 4 (i := 1) rfl rfl)) (HA6.out.cell 3 (i := 0) rfl rfl)
  have hbig : bigT ⟨[⟨[116, 111, 107, 101, 110], s, [[78]], 0⟩], [⟨[108], [[88]], [⟨[.mk [88] [] 0], [], false, [], 0, 0⟩, ⟨[.mk [108] [.mk [88] [] 0] 0, .mk [78] [] 0], [78], true, [97], 0, 0⟩], 0⟩]⟩ := ⟨by simp [Lim], by simp [Lim], (fa1 ⟨(show ([116, 111, 107, 101, 110] : List UInt8).length ≤ 140737488351232 by decide), HSL.out, by simp [Lim], (fa1 (show ([78] : List UInt8).length ≤ 140737488351232 by decide))⟩), (fa1 ⟨(show ([108] : List UInt8).length ≤ 140737488351232 by decide), by simp [Lim], by simp [Lim], (fa1 (show ([88] : List UInt8).length ≤ 140737488351232 by decide)), (fa2 ⟨by simp [Lim], (show ([] : List UInt8).length ≤ 140737488351232 by decide), (show ([] : List UInt8).length ≤ 140737488351232 by decide), (fa1 (bw_of (show ([88] : List UInt8).length ≤ 140737488351232 by decide) (by simp [Lim]) (fa0 _)))⟩ ⟨by simp [Lim], (show ([78] : List UInt8).length ≤ 140737488351232 by decide), (show ([97] : List UInt8).length ≤ 140737488351232 by decide), (fa2 (bw_of (show ([108] : List UInt8).length ≤ 140737488351232 by decide) (by simp [Lim]) (fa1 (bw_of (show ([88] : List UInt8).length ≤ 140737488351232 by decide) (by simp [Lim]) (fa0 _)))) (bw_of (show ([78] : List UInt8).length ≤ 140737488351232 by decide) (by simp [Lim]) (fa0 _)))⟩)⟩)⟩
  exact bodyPost_ret (res_text rfl hx rfl) rfl ⟨⟨[⟨[116, 111, 107, 101, 110], s, [[78]], 0⟩], [⟨[108], [[88]], [⟨[.mk [88] [] 0], [], false, [], 0, 0⟩, ⟨[.mk [108] [.mk [88] [] 0] 0, .mk [78] [] 0], [78], true, [97], 0, 0⟩], 0⟩]⟩, _, _, rfl, hbig, hD, hR, by rw [HZ.out]; exact HFI.out⟩
set_option maxRecDepth 100000 in
set_option maxHeartbeats 16000000 in
theorem bent_2 {w : World} {sd sr : Value} {s : List UInt8} (hD : Reads w (.row 62 4 smallT.decls.length (desD smallT.decls)) sd) (hR : Reads w (.row 38 4 smallT.rules.length (rusD smallT.rules)) sr) (hs : s.length ≤ 100) :
    Calls Tryz.prog 6 #[.agg #[sd, sr], .int .i64 2, .string (bs s)] w (BentQ w) := by
  obtain ⟨x0, y0, rfl⟩ := Reads.slice hD
  obtain ⟨x1, y1, rfl⟩ := Reads.slice hR
  have hsl : s.length ≤ Lim := by unfold Lim; omega
  have HSL := Lib.hid hsl; clear hsl
  have hzs := RwC.bs_size s
  have HC := Lib.hid (fun (u : World) (hu : Below w.heap.size w u) => Copy.copy_source Law12A.small_tx (Reads.below hu hD) (Reads.below hu hR))
  clear hD hR
  generalize hn0 : smallT.decls.length = n0 at *
  generalize hn1 : smallT.rules.length = n1 at *
  have HN0 := Lib.hid hn0; have HN1 := Lib.hid hn1; clear hn0 hn1
  have HB := Lib.hid (((Below.refl w.heap.size w).alloc (Nat.le_refl _) (.cells #[.slice x0 n0 y0, .slice x1 n1 y1] 28)).alloc (by simp) (.cells #[.slice none 0 0, .slice none 0 0] 28))
  have HSZ := Lib.hid (show ((w.alloc (.cells #[.slice x0 n0 y0, .slice x1 n1 y1] 28)).alloc (.cells #[.slice none 0 0, .slice none 0 0] 28)).heap.size = w.heap.size + 2 by simp)
  have XB := Lib.hid (show ((w.alloc (.cells #[.slice x0 n0 y0, .slice x1 n1 y1] 28)).alloc (.cells #[.slice none 0 0, .slice none 0 0] 28)).heap[w.heap.size + 1]? = some (.cells #[.slice none 0 0, .slice none 0 0] 28 (0, 0)) from LentK.alloc2 w _ _)
  have XA := Lib.hid (show ((w.alloc (.cells #[.slice x0 n0 y0, .slice x1 n1 y1] 28)).alloc (.cells #[.slice none 0 0, .slice none 0 0] 28)).heap[w.heap.size]? = some (.cells #[.slice x0 n0 y0, .slice x1 n1 y1] 28 (0, 0)) from (Below.heap_alloc _ _ _ (by simp)).trans (heap_alloc_new _ _))
  go_enter Tryz.func6, Tryz.ntmps6
  go_upto_region 1 with fail
  generalize ((w.alloc (.cells #[.slice x0 n0 y0, .slice x1 n1 y1] 28)).alloc (.cells #[.slice none 0 0, .slice none 0 0] 28)) = W at *
  have HCW := Lib.hid (HC.out W HB.out)
  have a0 : W.cell? ⟨w.heap.size, 0, none⟩ = some (.slice x0 n0 y0) := cell_of_row W _ 0 _ _ (0, 0) XA.out
  have a1 : W.cell? ⟨w.heap.size, 1, none⟩ = some (.slice x1 n1 y1) := cell_of_row W _ 1 _ _ (0, 0) XA.out
  clear HC
  generalize hH : w.heap.size = H at *
  have HZ := Lib.hid hH; clear hH
  go_upto_region 2 with (go_at_call 20; go_must (refine (HCW.out).mono ?_; rintro e w2 ⟨p0, q0, k0, p1, q1, k1, rfl, hl0, hl1, hnd, hb⟩; have hoa := (hb.block H (by have := HSZ.out; omega)).trans XA.out; have hob := (hb.block (H + 1) (by have := HSZ.out; omega)).trans XB.out; have f0 := frozen_of_row w2 H 0 _ _ hoa; have f1 := frozen_of_row w2 H 1 _ _ hoa; have c0 := cell_of_row w2 H 0 _ _ (0, 0) hoa; have c1 := cell_of_row w2 H 1 _ _ (0, 0) hoa; have HL0 := Lib.hid hl0; have HL1 := Lib.hid hl1; have HND := Lib.hid hnd; have HBN := Lib.hid hb; have XA2 := Lib.hid hoa; have XB2 := Lib.hid hob; clear hl0 hl1 hnd hb hoa hob a0 a1))
  clear f0 f1 c0 c1
  obtain ⟨w3, hw3⟩ : ∃ w3, w3 = (w2.setCell ⟨H, 0, none⟩ (.slice p0 n0 q0)).setCell ⟨H, 1, none⟩ (.slice p1 n1 q1) := ⟨_, rfl⟩
  rw [← hw3]
  have XH := Lib.hid (show w3.heap[H]? = some (.cells #[.slice p0 n0 q0, .slice p1 n1 q1] 28 (0, 0)) from by rw [hw3]; exact blk_set (blk_set XA2.out 0 _) 1 _)
  have XR := Lib.hid (show w3.heap[H + 1]? = some (.cells #[.slice none 0 0, .slice none 0 0] 28 (0, 0)) from by rw [hw3]; exact (Below.heap_setCell _ _ _ _ (by simp)).trans ((Below.heap_setCell _ _ _ _ (by simp)).trans XB2.out))
  have hB3 : Below H w w3 := by rw [hw3]; exact ((HB.out.trans (HBN.out.mono (by have := HSZ.out; omega))).setCell (p := ⟨H, 0, none⟩) (Nat.le_refl _) _).setCell (p := ⟨H, 1, none⟩) (Nat.le_refl _) _
  have hsz3 : w3.heap.size = w2.heap.size := by rw [hw3]; simp [World.setCell]
  have hkeep : ∀ i, W.heap.size ≤ i → w3.heap[i]? = w2.heap[i]? := fun i hi => by rw [hw3]; exact (Below.heap_setCell _ _ _ _ (by have := HSZ.out; show i ≠ H; omega)).trans (Below.heap_setCell _ _ _ _ (by have := HSZ.out; show i ≠ H; omega))
  have hl0 := HL0.out; have hl1 := HL1.out
  rw [← HN0.out] at hl0
  rw [← HN1.out] at hl1
  obtain ⟨D, N, R, P, A, U, V, X, Q0, Q1, cN, cP, cA, cU, cV, cX, z0, z1, z2, he0, he1, hLN, hLT, hz0, hz1, hz2, hHas, oD, oP⟩ := small_mem hl0 hl1 HND.out
  have hd0 : (smallT.decls.length : Nat) = 1 := rfl
  have hd1 : (smallT.rules.length : Nat) = 1 := rfl
  rw [← HN0.out, ← HN1.out, hd0, hd1] at XH
  rw [hd0] at he0
  rw [hd1] at he1
  simp only [Value.slice.injEq, true_and] at he0 he1
  obtain ⟨rfl, rfl⟩ := he0
  obtain ⟨rfl, rfl⟩ := he1
  have HAS := Lib.hid (hHas.other (W' := w3) fun b hb => hkeep b (hLT b hb).1)
  have OD := Lib.hid (own_same (w' := w3) oD fun g hg => by cases hg; exact hkeep D (hLT D (by simp)).1)
  have OP := Lib.hid (own_same (w' := w3) oP fun g hg => by cases hg; exact hkeep P (hLT P (by simp)).1)
  have HLT := Lib.hid (show ∀ b ∈ [D, N, R, P, A, U, V, X], H + 2 ≤ b ∧ b < w3.heap.size from fun b hb => ⟨by have := (hLT b hb).1; have := HSZ.out; omega, by rw [hsz3]; exact (hLT b hb).2⟩)
  have HLN := Lib.hid hLN
  have HZ0 := Lib.hid hz0; have HZ1 := Lib.hid hz1; have HZ2 := Lib.hid hz2
  have HB3 := Lib.hid hB3
  have HWS := Lib.hid (show H + 2 ≤ w3.heap.size by rw [hsz3]; have := HBN.out.size; have := HSZ.out; omega)
  clear hw3 XA2 XB2 hB3 hkeep hl0 hl1 HL0 HL1 HND hLN hLT hz0 hz1 hz2 hHas oD oP hd0 hd1 HBN HCW HB HSZ XB XA HN0 HN1 hsz3
  have c0 : w3.cell? ⟨H, 0, none⟩ = some (.slice (some ⟨D, 0, none⟩) 1 q0) := cell_of_row w3 H 0 _ _ (0, 0) XH.out
  have c1 : w3.cell? ⟨H, 1, none⟩ = some (.slice (some ⟨R, 0, none⟩) 1 q1) := cell_of_row w3 H 1 _ _ (0, 0) XH.out
  have c2 : w3.cell? ⟨R, 2, none⟩ = some (.slice (some ⟨A, 0, none⟩) 2 cA) := HAS.out.cell 7 rfl rfl
  have hmix : Tryz.prog.follows .mixedOrders = true := by kernel_rfl
  go_region_o
  obtain ⟨w5, hw5⟩ : ∃ w5, w5 = w3.drew := ⟨_, rfl⟩
  rw [← hw5]
  have YH := Lib.hid (show w5.heap[H]? = some (.cells #[.slice (some ⟨D, 0, none⟩) 1 q0, .slice (some ⟨R, 0, none⟩) 1 q1] 28 (0, 0)) by rw [hw5]; exact XH.out)
  have YR := Lib.hid (show w5.heap[H + 1]? = some (.cells #[.slice none 0 0, .slice none 0 0] 28 (0, 0)) by rw [hw5]; exact XR.out)
  have HAT := Lib.hid (show Has w5 [D, N, R, P, A, U, V, X] (memS D N R P A U V X cN cP cA cU cV cX z0 z1 z2) by rw [hw5]; exact HAS.out.other fun _ _ => rfl)
  have OD5 := Lib.hid (own_same (w' := w5) OD.out fun g _ => by rw [hw5]; rfl)
  have OP5 := Lib.hid (own_same (w' := w5) OP.out fun g _ => by rw [hw5]; rfl)
  have HLU := Lib.hid (show ∀ b ∈ [D, N, R, P, A, U, V, X], H + 2 ≤ b ∧ b < w5.heap.size from fun b hb => by rw [hw5]; exact HLT.out b hb)
  have HB5 := Lib.hid (show Below H w w5 by rw [hw5]; exact HB3.out.drew)
  have HWT := Lib.hid (show H + 2 ≤ w5.heap.size by rw [hw5]; exact HWS.out)
  clear c0 c1 c2 hw5 XH XR HAS OD OP HLT HB3 HWS
  have c2 : w5.cell? ⟨R, 2, none⟩ = some (.slice (some ⟨A, 0, none⟩) 2 cA) := HAT.out.cell 7 (i := 2) rfl rfl
  go_upto_region 4 with fail
  clear c2
  have l0 : w5.cell? ⟨D, 2, none⟩ = some (.slice (some ⟨N, 0, none⟩) 1 cN) := HAT.out.cell 2 (i := 0) rfl rfl
  have s0 := HAT.out.cell 4 (i := 1) (o := 0) rfl rfl
  have t0 := HAT.out.fro 4 (i := 1) (o := 0) rfl rfl
  go_upto_region 39 with fail
  clear s0 t0 l0
  obtain ⟨w4, hw4⟩ : ∃ w4, w4 = w5.setCell ⟨N, 0, none⟩ (.string (bs s)) := ⟨_, rfl⟩
  rw [← hw4]
  have HA4 := Lib.hid (show Has w4 [D, N, R, P, A, U, V, X] (upd (memS D N R P A U V X cN cP cA cU cV cX z0 z1 z2) 1 0 (.string (bs s))) by rw [hw4]; exact (Has.set HLN.out HAT.out 1 0 (.string (bs s)) rfl))
  have ZH := Lib.hid (show w4.heap[H]? = some (.cells #[.slice (some ⟨D, 0, none⟩) 1 q0, .slice (some ⟨R, 0, none⟩) 1 q1] 28 (0, 0)) by rw [hw4]; exact (Below.heap_setCell _ _ _ _ (by have := (HLU.out N (by simp)).1; show _ ≠ N; omega)).trans (YH.out))
  have ZR := Lib.hid (show w4.heap[H + 1]? = some (.cells #[.slice none 0 0, .slice none 0 0] 28 (0, 0)) by rw [hw4]; exact (Below.heap_setCell _ _ _ _ (by have := (HLU.out N (by simp)).1; show _ ≠ N; omega)).trans (YR.out))
  have HB6 := Lib.hid (show Below H w w4 by rw [hw4]; exact (HB5.out.setCell (p := ⟨N, 0, none⟩) (by have := (HLU.out N (by simp)).1; show H ≤ N; omega) _))
  clear hw4 HAT YH YR HB5
  have b0 : w4.cell? ⟨H, 0, none⟩ = some (.slice (some ⟨D, 0, none⟩) 1 q0) := cell_of_row w4 H 0 _ _ (0, 0) ZH.out
  have b1 : w4.cell? ⟨H, 1, none⟩ = some (.slice (some ⟨R, 0, none⟩) 1 q1) := cell_of_row w4 H 1 _ _ (0, 0) ZH.out
  have e0 := cell_of_row w4 (H + 1) 0 _ _ (0, 0) ZR.out
  have e1 := cell_of_row w4 (H + 1) 1 _ _ (0, 0) ZR.out
  have f0 := frozen_of_row w4 (H + 1) 0 _ _ ZR.out
  have f1 := frozen_of_row w4 (H + 1) 1 _ _ ZR.out
  have hx := blk_set (blk_set ZR.out 0 (.slice (some ⟨D, 0, none⟩) 1 q0)) 1 (.slice (some ⟨R, 0, none⟩) 1 q1)
  have HFI := Lib.hid (HB6.out.setCell (p := ⟨H + 1, 0, none⟩) (Nat.le_succ _) (.slice (some ⟨D, 0, none⟩) 1 q0) |>.setCell (p := ⟨H + 1, 1, none⟩) (Nat.le_succ _) (.slice (some ⟨R, 0, none⟩) 1 q1))
  go_wp2_with fail
  clear b0 b1 e0 e1 f0 f1
  obtain ⟨w6, hw6⟩ : ∃ w6, w6 = (w4.setCell ⟨H + 1, 0, none⟩ (.slice (some ⟨D, 0, none⟩) 1 q0)).setCell ⟨H + 1, 1, none⟩ (.slice (some ⟨R, 0, none⟩) 1 q1) := ⟨_, rfl⟩
  rw [← hw6] at hx HFI ⊢
  have HK6 := Lib.hid (show ∀ b, H + 2 ≤ b → w6.heap[b]? = w4.heap[b]? from fun b hb => by rw [hw6]; exact (Below.heap_setCell _ _ _ _ (by show b ≠ H + 1; omega)).trans (Below.heap_setCell _ _ _ _ (by show b ≠ H + 1; omega)))
  have HA6 := Lib.hid (HA4.out.other (W' := w6) fun b hb => HK6.out b (HLU.out b hb).1)
  clear hw6
  have hU : Reads w6 (.row 33 3 1 (wdsD [.mk [88] [] 0])) (.slice (some ⟨U, 0, none⟩) 1 cU) := rd_word1 (HA6.out.cell 22 (i := 5) rfl rfl) (HA6.out.cell 23 (i := 5) rfl rfl) (HA6.out.cell 24 (i := 5) rfl rfl) (rz HZ0.out _)
  have hX : Reads w6 (.row 33 3 1 (wdsD [.mk [88] [] 0])) (.slice (some ⟨X, 0, none⟩) 1 cX) := rd_word1 (HA6.out.cell 31 (i := 7) rfl rfl) (HA6.out.cell 32 (i := 7) rfl rfl) (HA6.out.cell 33 (i := 7) rfl rfl) (rz HZ2.out _)
  have hV : Reads w6 (.row 33 3 2 (wdsD [.mk [108] [.mk [88] [] 0] 0, .mk [78] [] 0])) (.slice (some ⟨V, 0, none⟩) 2 cV) := rd_word2 (HA6.out.cell 25 (i := 6) rfl rfl) (HA6.out.cell 26 (i := 6) rfl rfl) (HA6.out.cell 27 (i := 6) rfl rfl) hX (HA6.out.cell 28 (i := 6) rfl rfl) (HA6.out.cell 29 (i := 6) rfl rfl) (HA6.out.cell 30 (i := 6) rfl rfl) (rz HZ1.out _)
  have hA : Reads w6 (.row 35 6 2 (alsD [⟨[.mk [88] [] 0], [], false, [], 0, 0⟩, ⟨[.mk [108] [.mk [88] [] 0] 0, .mk [78] [] 0], [78], true, [97], 0, 0⟩])) (.slice (some ⟨A, 0, none⟩) 2 cA) := rd_alts (x := ⟨[.mk [88] [] 0], [], false, [], 0, 0⟩) (y := ⟨[.mk [108] [.mk [88] [] 0] 0, .mk [78] [] 0], [78], true, [97], 0, 0⟩) (HA6.out.cell 10 (i := 4) rfl rfl) hU (HA6.out.cell 11 (i := 4) rfl rfl) (HA6.out.cell 12 (i := 4) rfl rfl) (HA6.out.cell 13 (i := 4) rfl rfl) (HA6.out.cell 14 (i := 4) rfl rfl) (HA6.out.cell 15 (i := 4) rfl rfl) (HA6.out.cell 16 (i := 4) rfl rfl) hV (HA6.out.cell 17 (i := 4) rfl rfl) (HA6.out.cell 18 (i := 4) rfl rfl) (HA6.out.cell 19 (i := 4) rfl rfl) (HA6.out.cell 20 (i := 4) rfl rfl) (HA6.out.cell 21 (i := 4) rfl rfl)
  have hR : Reads w6 (.row 38 4 1 (rusD [⟨[108], [[88]], [⟨[.mk [88] [] 0], [], false, [], 0, 0⟩, ⟨[.mk [108] [.mk [88] [] 0] 0, .mk [78] [] 0], [78], true, [97], 0, 0⟩], 0⟩])) (.slice (some ⟨R, 0, none⟩) 1 q1) := rd_rule (x := ⟨[108], [[88]], [⟨[.mk [88] [] 0], [], false, [], 0, 0⟩, ⟨[.mk [108] [.mk [88] [] 0] 0, .mk [78] [] 0], [78], true, [97], 0, 0⟩], 0⟩) (HA6.out.cell 5 (i := 2) rfl rfl) (HA6.out.cell 6 (i := 2) rfl rfl) (rd_str1 (HA6.out.cell 9 (i := 3) rfl rfl)) (HA6.out.cell 7 (i := 2) rfl rfl) hA (HA6.out.cell 8 (i := 2) rfl rfl)
  have hD : Reads w6 (.row 62 4 1 (desD [⟨[116, 111, 107, 101, 110], [105, 110, 116], [s], 0⟩])) (.slice (some ⟨D, 0, none⟩) 1 q0) := rd_decl (x := ⟨[116, 111, 107, 101, 110], [105, 110, 116], [s], 0⟩) (HA6.out.cell 0 (i := 0) rfl rfl) (HA6.out.cell 1 (i := 0) rfl rfl) (HA6.out.cell 2 (i := 0) rfl rfl) (rd_str1 (HA6.out.cell 4 (i := 1) rfl rfl)) (HA6.out.cell 3 (i := 0) rfl rfl)
  have hbig : bigT ⟨[⟨[116, 111, 107, 101, 110], [105, 110, 116], [s], 0⟩], [⟨[108], [[88]], [⟨[.mk [88] [] 0], [], false, [], 0, 0⟩, ⟨[.mk [108] [.mk [88] [] 0] 0, .mk [78] [] 0], [78], true, [97], 0, 0⟩], 0⟩]⟩ := ⟨by simp [Lim], by simp [Lim], (fa1 ⟨(show ([116, 111, 107, 101, 110] : List UInt8).length ≤ 140737488351232 by decide), (show ([105, 110, 116] : List UInt8).length ≤ 140737488351232 by decide), by simp [Lim], (fa1 HSL.out)⟩), (fa1 ⟨(show ([108] : List UInt8).length ≤ 140737488351232 by decide), by simp [Lim], by simp [Lim], (fa1 (show ([88] : List UInt8).length ≤ 140737488351232 by decide)), (fa2 ⟨by simp [Lim], (show ([] : List UInt8).length ≤ 140737488351232 by decide), (show ([] : List UInt8).length ≤ 140737488351232 by decide), (fa1 (bw_of (show ([88] : List UInt8).length ≤ 140737488351232 by decide) (by simp [Lim]) (fa0 _)))⟩ ⟨by simp [Lim], (show ([78] : List UInt8).length ≤ 140737488351232 by decide), (show ([97] : List UInt8).length ≤ 140737488351232 by decide), (fa2 (bw_of (show ([108] : List UInt8).length ≤ 140737488351232 by decide) (by simp [Lim]) (fa1 (bw_of (show ([88] : List UInt8).length ≤ 140737488351232 by decide) (by simp [Lim]) (fa0 _)))) (bw_of (show ([78] : List UInt8).length ≤ 140737488351232 by decide) (by simp [Lim]) (fa0 _)))⟩)⟩)⟩
  exact bodyPost_ret (res_text rfl hx rfl) rfl ⟨⟨[⟨[116, 111, 107, 101, 110], [105, 110, 116], [s], 0⟩], [⟨[108], [[88]], [⟨[.mk [88] [] 0], [], false, [], 0, 0⟩, ⟨[.mk [108] [.mk [88] [] 0] 0, .mk [78] [] 0], [78], true, [97], 0, 0⟩], 0⟩]⟩, _, _, rfl, hbig, hD, hR, by rw [HZ.out]; exact HFI.out⟩
end Go.Proofs.YtghebacphjglbaaGreat.BentC1
/- The law's bent, in some of its ways. (Printed by bent_gen.py.) -/
namespace Go.Proofs.YtghebacphjglbaaGreat.BentC2
open Go Go.RowKit Go.Proofs.YtghebacphjglbaaGreat.Lexy Go.Proofs.YtghebacphjglbaaGreat.LexA Go.Proofs.YtghebacphjglbaaGreat.LexB Go.Proofs.YtghebacphjglbaaGreat.LexC Go.Proofs.YtghebacphjglbaaGreat.LexD Go.Proofs.YtghebacphjglbaaGreat.LexE Go.Proofs.YtghebacphjglbaaGreat.LexF Go.Proofs.YtghebacphjglbaaGreat.LexG Go.Proofs.YtghebacphjglbaaGreat.Heap Go.Proofs.YtghebacphjglbaaGreat.Dat Go.Proofs.YtghebacphjglbaaGreat.Ready Go.Proofs.YtghebacphjglbaaGreat.ReadA Go.Proofs.YtghebacphjglbaaGreat.ReadC Go.Proofs.YtghebacphjglbaaGreat.ReadH Go.Proofs.YtghebacphjglbaaGreat.ReadI Go.Proofs.YtghebacphjglbaaGreat.ReadM Go.Proofs.YtghebacphjglbaaGreat.ReadO Go.Proofs.YtghebacphjglbaaGreat.Same Go.Proofs.YtghebacphjglbaaGreat.WrO Go.Proofs.YtghebacphjglbaaGreat.WrK Go.Proofs.YtghebacphjglbaaGreat.Law12A Go.Proofs.YtghebacphjglbaaGreat.BentA Go.Proofs.YtghebacphjglbaaGreat.BentB

set_option maxRecDepth 100000 in
set_option maxHeartbeats 16000000 in
theorem bent_3 {w : World} {sd sr : Value} {s : List UInt8} (hD : Reads w (.row 62 4 smallT.decls.length (desD smallT.decls)) sd) (hR : Reads w (.row 38 4 smallT.rules.length (rusD smallT.rules)) sr) (hs : s.length ≤ 100) :
    Calls Tryz.prog 6 #[.agg #[sd, sr], .int .i64 3, .string (bs s)] w (BentQ w) := by
  obtain ⟨x0, y0, rfl⟩ := Reads.slice hD
  obtain ⟨x1, y1, rfl⟩ := Reads.slice hR
  have hsl : s.length ≤ Lim := by unfold Lim; omega
  have HSL := Lib.hid hsl; clear hsl
  have hzs := RwC.bs_size s
  have HC := Lib.hid (fun (u : World) (hu : Below w.heap.size w u) => Copy.copy_source Law12A.small_tx (Reads.below hu hD) (Reads.below hu hR))
  clear hD hR
  generalize hn0 : smallT.decls.length = n0 at *
  generalize hn1 : smallT.rules.length = n1 at *
  have HN0 := Lib.hid hn0; have HN1 := Lib.hid hn1; clear hn0 hn1
  have HB := Lib.hid (((Below.refl w.heap.size w).alloc (Nat.le_refl _) (.cells #[.slice x0 n0 y0, .slice x1 n1 y1] 28)).alloc (by simp) (.cells #[.slice none 0 0, .slice none 0 0] 28))
  have HSZ := Lib.hid (show ((w.alloc (.cells #[.slice x0 n0 y0, .slice x1 n1 y1] 28)).alloc (.cells #[.slice none 0 0, .slice none 0 0] 28)).heap.size = w.heap.size + 2 by simp)
  have XB := Lib.hid (show ((w.alloc (.cells #[.slice x0 n0 y0, .slice x1 n1 y1] 28)).alloc (.cells #[.slice none 0 0, .slice none 0 0] 28)).heap[w.heap.size + 1]? = some (.cells #[.slice none 0 0, .slice none 0 0] 28 (0, 0)) from LentK.alloc2 w _ _)
  have XA := Lib.hid (show ((w.alloc (.cells #[.slice x0 n0 y0, .slice x1 n1 y1] 28)).alloc (.cells #[.slice none 0 0, .slice none 0 0] 28)).heap[w.heap.size]? = some (.cells #[.slice x0 n0 y0, .slice x1 n1 y1] 28 (0, 0)) from (Below.heap_alloc _ _ _ (by simp)).trans (heap_alloc_new _ _))
  go_enter Tryz.func6, Tryz.ntmps6
  go_upto_region 1 with fail
  generalize ((w.alloc (.cells #[.slice x0 n0 y0, .slice x1 n1 y1] 28)).alloc (.cells #[.slice none 0 0, .slice none 0 0] 28)) = W at *
  have HCW := Lib.hid (HC.out W HB.out)
  have a0 : W.cell? ⟨w.heap.size, 0, none⟩ = some (.slice x0 n0 y0) := cell_of_row W _ 0 _ _ (0, 0) XA.out
  have a1 : W.cell? ⟨w.heap.size, 1, none⟩ = some (.slice x1 n1 y1) := cell_of_row W _ 1 _ _ (0, 0) XA.out
  clear HC
  generalize hH : w.heap.size = H at *
  have HZ := Lib.hid hH; clear hH
  go_upto_region 2 with (go_at_call 20; go_must (refine (HCW.out).mono ?_; rintro e w2 ⟨p0, q0, k0, p1, q1, k1, rfl, hl0, hl1, hnd, hb⟩; have hoa := (hb.block H (by have := HSZ.out; omega)).trans XA.out; have hob := (hb.block (H + 1) (by have := HSZ.out; omega)).trans XB.out; have f0 := frozen_of_row w2 H 0 _ _ hoa; have f1 := frozen_of_row w2 H 1 _ _ hoa; have c0 := cell_of_row w2 H 0 _ _ (0, 0) hoa; have c1 := cell_of_row w2 H 1 _ _ (0, 0) hoa; have HL0 := Lib.hid hl0; have HL1 := Lib.hid hl1; have HND := Lib.hid hnd; have HBN := Lib.hid hb; have XA2 := Lib.hid hoa; have XB2 := Lib.hid hob; clear hl0 hl1 hnd hb hoa hob a0 a1))
  clear f0 f1 c0 c1
  obtain ⟨w3, hw3⟩ : ∃ w3, w3 = (w2.setCell ⟨H, 0, none⟩ (.slice p0 n0 q0)).setCell ⟨H, 1, none⟩ (.slice p1 n1 q1) := ⟨_, rfl⟩
  rw [← hw3]
  have XH := Lib.hid (show w3.heap[H]? = some (.cells #[.slice p0 n0 q0, .slice p1 n1 q1] 28 (0, 0)) from by rw [hw3]; exact blk_set (blk_set XA2.out 0 _) 1 _)
  have XR := Lib.hid (show w3.heap[H + 1]? = some (.cells #[.slice none 0 0, .slice none 0 0] 28 (0, 0)) from by rw [hw3]; exact (Below.heap_setCell _ _ _ _ (by simp)).trans ((Below.heap_setCell _ _ _ _ (by simp)).trans XB2.out))
  have hB3 : Below H w w3 := by rw [hw3]; exact ((HB.out.trans (HBN.out.mono (by have := HSZ.out; omega))).setCell (p := ⟨H, 0, none⟩) (Nat.le_refl _) _).setCell (p := ⟨H, 1, none⟩) (Nat.le_refl _) _
  have hsz3 : w3.heap.size = w2.heap.size := by rw [hw3]; simp [World.setCell]
  have hkeep : ∀ i, W.heap.size ≤ i → w3.heap[i]? = w2.heap[i]? := fun i hi => by rw [hw3]; exact (Below.heap_setCell _ _ _ _ (by have := HSZ.out; show i ≠ H; omega)).trans (Below.heap_setCell _ _ _ _ (by have := HSZ.out; show i ≠ H; omega))
  have hl0 := HL0.out; have hl1 := HL1.out
  rw [← HN0.out] at hl0
  rw [← HN1.out] at hl1
  obtain ⟨D, N, R, P, A, U, V, X, Q0, Q1, cN, cP, cA, cU, cV, cX, z0, z1, z2, he0, he1, hLN, hLT, hz0, hz1, hz2, hHas, oD, oP⟩ := small_mem hl0 hl1 HND.out
  have hd0 : (smallT.decls.length : Nat) = 1 := rfl
  have hd1 : (smallT.rules.length : Nat) = 1 := rfl
  rw [← HN0.out, ← HN1.out, hd0, hd1] at XH
  rw [hd0] at he0
  rw [hd1] at he1
  simp only [Value.slice.injEq, true_and] at he0 he1
  obtain ⟨rfl, rfl⟩ := he0
  obtain ⟨rfl, rfl⟩ := he1
  have HAS := Lib.hid (hHas.other (W' := w3) fun b hb => hkeep b (hLT b hb).1)
  have OD := Lib.hid (own_same (w' := w3) oD fun g hg => by cases hg; exact hkeep D (hLT D (by simp)).1)
  have OP := Lib.hid (own_same (w' := w3) oP fun g hg => by cases hg; exact hkeep P (hLT P (by simp)).1)
  have HLT := Lib.hid (show ∀ b ∈ [D, N, R, P, A, U, V, X], H + 2 ≤ b ∧ b < w3.heap.size from fun b hb => ⟨by have := (hLT b hb).1; have := HSZ.out; omega, by rw [hsz3]; exact (hLT b hb).2⟩)
  have HLN := Lib.hid hLN
  have HZ0 := Lib.hid hz0; have HZ1 := Lib.hid hz1; have HZ2 := Lib.hid hz2
  have HB3 := Lib.hid hB3
  have HWS := Lib.hid (show H + 2 ≤ w3.heap.size by rw [hsz3]; have := HBN.out.size; have := HSZ.out; omega)
  clear hw3 XA2 XB2 hB3 hkeep hl0 hl1 HL0 HL1 HND hLN hLT hz0 hz1 hz2 hHas oD oP hd0 hd1 HBN HCW HB HSZ XB XA HN0 HN1 hsz3
  have c0 : w3.cell? ⟨H, 0, none⟩ = some (.slice (some ⟨D, 0, none⟩) 1 q0) := cell_of_row w3 H 0 _ _ (0, 0) XH.out
  have c1 : w3.cell? ⟨H, 1, none⟩ = some (.slice (some ⟨R, 0, none⟩) 1 q1) := cell_of_row w3 H 1 _ _ (0, 0) XH.out
  have c2 : w3.cell? ⟨R, 2, none⟩ = some (.slice (some ⟨A, 0, none⟩) 2 cA) := HAS.out.cell 7 rfl rfl
  have hmix : Tryz.prog.follows .mixedOrders = true := by kernel_rfl
  go_region_o
  obtain ⟨w5, hw5⟩ : ∃ w5, w5 = w3.drew := ⟨_, rfl⟩
  rw [← hw5]
  have YH := Lib.hid (show w5.heap[H]? = some (.cells #[.slice (some ⟨D, 0, none⟩) 1 q0, .slice (some ⟨R, 0, none⟩) 1 q1] 28 (0, 0)) by rw [hw5]; exact XH.out)
  have YR := Lib.hid (show w5.heap[H + 1]? = some (.cells #[.slice none 0 0, .slice none 0 0] 28 (0, 0)) by rw [hw5]; exact XR.out)
  have HAT := Lib.hid (show Has w5 [D, N, R, P, A, U, V, X] (memS D N R P A U V X cN cP cA cU cV cX z0 z1 z2) by rw [hw5]; exact HAS.out.other fun _ _ => rfl)
  have OD5 := Lib.hid (own_same (w' := w5) OD.out fun g _ => by rw [hw5]; rfl)
  have OP5 := Lib.hid (own_same (w' := w5) OP.out fun g _ => by rw [hw5]; rfl)
  have HLU := Lib.hid (show ∀ b ∈ [D, N, R, P, A, U, V, X], H + 2 ≤ b ∧ b < w5.heap.size from fun b hb => by rw [hw5]; exact HLT.out b hb)
  have HB5 := Lib.hid (show Below H w w5 by rw [hw5]; exact HB3.out.drew)
  have HWT := Lib.hid (show H + 2 ≤ w5.heap.size by rw [hw5]; exact HWS.out)
  clear c0 c1 c2 hw5 XH XR HAS OD OP HLT HB3 HWS
  have c2 : w5.cell? ⟨R, 2, none⟩ = some (.slice (some ⟨A, 0, none⟩) 2 cA) := HAT.out.cell 7 (i := 2) rfl rfl
  go_upto_region 4 with fail
  clear c2
  have s0 := HAT.out.cell 2 (i := 0) (o := 2) rfl rfl
  have t0 := HAT.out.fro 2 (i := 0) (o := 2) rfl rfl
  go_upto_region 39 with fail
  clear s0 t0
  obtain ⟨w4, hw4⟩ : ∃ w4, w4 = w5.setCell ⟨D, 2, none⟩ (.slice none 0 0) := ⟨_, rfl⟩
  rw [← hw4]
  have HA4 := Lib.hid (show Has w4 [D, N, R, P, A, U, V, X] (upd (memS D N R P A U V X cN cP cA cU cV cX z0 z1 z2) 0 2 (.slice none 0 0)) by rw [hw4]; exact (Has.set HLN.out HAT.out 0 2 (.slice none 0 0) rfl))
  have ZH := Lib.hid (show w4.heap[H]? = some (.cells #[.slice (some ⟨D, 0, none⟩) 1 q0, .slice (some ⟨R, 0, none⟩) 1 q1] 28 (0, 0)) by rw [hw4]; exact (Below.heap_setCell _ _ _ _ (by have := (HLU.out D (by simp)).1; show _ ≠ D; omega)).trans (YH.out))
  have ZR := Lib.hid (show w4.heap[H + 1]? = some (.cells #[.slice none 0 0, .slice none 0 0] 28 (0, 0)) by rw [hw4]; exact (Below.heap_setCell _ _ _ _ (by have := (HLU.out D (by simp)).1; show _ ≠ D; omega)).trans (YR.out))
  have HB6 := Lib.hid (show Below H w w4 by rw [hw4]; exact (HB5.out.setCell (p := ⟨D, 2, none⟩) (by have := (HLU.out D (by simp)).1; show H ≤ D; omega) _))
  clear hw4 HAT YH YR HB5
  have b0 : w4.cell? ⟨H, 0, none⟩ = some (.slice (some ⟨D, 0, none⟩) 1 q0) := cell_of_row w4 H 0 _ _ (0, 0) ZH.out
  have b1 : w4.cell? ⟨H, 1, none⟩ = some (.slice (some ⟨R, 0, none⟩) 1 q1) := cell_of_row w4 H 1 _ _ (0, 0) ZH.out
  have e0 := cell_of_row w4 (H + 1) 0 _ _ (0, 0) ZR.out
  have e1 := cell_of_row w4 (H + 1) 1 _ _ (0, 0) ZR.out
  have f0 := frozen_of_row w4 (H + 1) 0 _ _ ZR.out
  have f1 := frozen_of_row w4 (H + 1) 1 _ _ ZR.out
  have hx := blk_set (blk_set ZR.out 0 (.slice (some ⟨D, 0, none⟩) 1 q0)) 1 (.slice (some ⟨R, 0, none⟩) 1 q1)
  have HFI := Lib.hid (HB6.out.setCell (p := ⟨H + 1, 0, none⟩) (Nat.le_succ _) (.slice (some ⟨D, 0, none⟩) 1 q0) |>.setCell (p := ⟨H + 1, 1, none⟩) (Nat.le_succ _) (.slice (some ⟨R, 0, none⟩) 1 q1))
  go_wp2_with fail
  clear b0 b1 e0 e1 f0 f1
  obtain ⟨w6, hw6⟩ : ∃ w6, w6 = (w4.setCell ⟨H + 1, 0, none⟩ (.slice (some ⟨D, 0, none⟩) 1 q0)).setCell ⟨H + 1, 1, none⟩ (.slice (some ⟨R, 0, none⟩) 1 q1) := ⟨_, rfl⟩
  rw [← hw6] at hx HFI ⊢
  have HK6 := Lib.hid (show ∀ b, H + 2 ≤ b → w6.heap[b]? = w4.heap[b]? from fun b hb => by rw [hw6]; exact (Below.heap_setCell _ _ _ _ (by show b ≠ H + 1; omega)).trans (Below.heap_setCell _ _ _ _ (by show b ≠ H + 1; omega)))
  have HA6 := Lib.hid (HA4.out.other (W' := w6) fun b hb => HK6.out b (HLU.out b hb).1)
  clear hw6
  have hU : Reads w6 (.row 33 3 1 (wdsD [.mk [88] [] 0])) (.slice (some ⟨U, 0, none⟩) 1 cU) := rd_word1 (HA6.out.cell 22 (i := 5) rfl rfl) (HA6.out.cell 23 (i := 5) rfl rfl) (HA6.out.cell 24 (i := 5) rfl rfl) (rz HZ0.out _)
  have hX : Reads w6 (.row 33 3 1 (wdsD [.mk [88] [] 0])) (.slice (some ⟨X, 0, none⟩) 1 cX) := rd_word1 (HA6.out.cell 31 (i := 7) rfl rfl) (HA6.out.cell 32 (i := 7) rfl rfl) (HA6.out.cell 33 (i := 7) rfl rfl) (rz HZ2.out _)
  have hV : Reads w6 (.row 33 3 2 (wdsD [.mk [108] [.mk [88] [] 0] 0, .mk [78] [] 0])) (.slice (some ⟨V, 0, none⟩) 2 cV) := rd_word2 (HA6.out.cell 25 (i := 6) rfl rfl) (HA6.out.cell 26 (i := 6) rfl rfl) (HA6.out.cell 27 (i := 6) rfl rfl) hX (HA6.out.cell 28 (i := 6) rfl rfl) (HA6.out.cell 29 (i := 6) rfl rfl) (HA6.out.cell 30 (i := 6) rfl rfl) (rz HZ1.out _)
  have hA : Reads w6 (.row 35 6 2 (alsD [⟨[.mk [88] [] 0], [], false, [], 0, 0⟩, ⟨[.mk [108] [.mk [88] [] 0] 0, .mk [78] [] 0], [78], true, [97], 0, 0⟩])) (.slice (some ⟨A, 0, none⟩) 2 cA) := rd_alts (x := ⟨[.mk [88] [] 0], [], false, [], 0, 0⟩) (y := ⟨[.mk [108] [.mk [88] [] 0] 0, .mk [78] [] 0], [78], true, [97], 0, 0⟩) (HA6.out.cell 10 (i := 4) rfl rfl) hU (HA6.out.cell 11 (i := 4) rfl rfl) (HA6.out.cell 12 (i := 4) rfl rfl) (HA6.out.cell 13 (i := 4) rfl rfl) (HA6.out.cell 14 (i := 4) rfl rfl) (HA6.out.cell 15 (i := 4) rfl rfl) (HA6.out.cell 16 (i := 4) rfl rfl) hV (HA6.out.cell 17 (i := 4) rfl rfl) (HA6.out.cell 18 (i := 4) rfl rfl) (HA6.out.cell 19 (i := 4) rfl rfl) (HA6.out.cell 20 (i := 4) rfl rfl) (HA6.out.cell 21 (i := 4) rfl rfl)
  have hR : Reads w6 (.row 38 4 1 (rusD [⟨[108], [[88]], [⟨[.mk [88] [] 0], [], false, [], 0, 0⟩, ⟨[.mk [108] [.mk [88] [] 0] 0, .mk [78] [] 0], [78], true, [97], 0, 0⟩], 0⟩])) (.slice (some ⟨R, 0, none⟩) 1 q1) := rd_rule (x := ⟨[108], [[88]], [⟨[.mk [88] [] 0], [], false, [], 0, 0⟩, ⟨[.mk [108] [.mk [88] [] 0] 0, .mk [78] [] 0], [78], true, [97], 0, 0⟩], 0⟩) (HA6.out.cell 5 (i := 2) rfl rfl) (HA6.out.cell 6 (i := 2) rfl rfl) (rd_str1 (HA6.out.cell 9 (i := 3) rfl rfl)) (HA6.out.cell 7 (i := 2) rfl rfl) hA (HA6.out.cell 8 (i := 2) rfl rfl)
  have hD : Reads w6 (.row 62 4 1 (desD [⟨[116, 111, 107, 101, 110], [105, 110, 116], [], 0⟩])) (.slice (some ⟨D, 0, none⟩) 1 q0) := rd_decl (x := ⟨[116, 111, 107, 101, 110], [105, 110, 116], [], 0⟩) (HA6.out.cell 0 (i := 0) rfl rfl) (HA6.out.cell 1 (i := 0) rfl rfl) (HA6.out.cell 2 (i := 0) rfl rfl) (rd_nil _ _ _) (HA6.out.cell 3 (i := 0) rfl rfl)
  have hbig : bigT ⟨[⟨[116, 111, 107, 101, 110], [105, 110, 116], [], 0⟩], [⟨[108], [[88]], [⟨[.mk [88] [] 0], [], false, [], 0, 0⟩, ⟨[.mk [108] [.mk [88] [] 0] 0, .mk [78] [] 0], [78], true, [97], 0, 0⟩], 0⟩]⟩ := ⟨by simp [Lim], by simp [Lim], (fa1 ⟨(show ([116, 111, 107, 101, 110] : List UInt8).length ≤ 140737488351232 by decide), (show ([105, 110, 116] : List UInt8).length ≤ 140737488351232 by decide), by simp [Lim], (fa0 _)⟩), (fa1 ⟨(show ([108] : List UInt8).length ≤ 140737488351232 by decide), by simp [Lim], by simp [Lim], (fa1 (show ([88] : List UInt8).length ≤ 140737488351232 by decide)), (fa2 ⟨by simp [Lim], (show ([] : List UInt8).length ≤ 140737488351232 by decide), (show ([] : List UInt8).length ≤ 140737488351232 by decide), (fa1 (bw_of (show ([88] : List UInt8).length ≤ 140737488351232 by decide) (by simp [Lim]) (fa0 _)))⟩ ⟨by simp [Lim], (show ([78] : List UInt8).length ≤ 140737488351232 by decide), (show ([97] : List UInt8).length ≤ 140737488351232 by decide), (fa2 (bw_of (show ([108] : List UInt8).length ≤ 140737488351232 by decide) (by simp [Lim]) (fa1 (bw_of (show ([88] : List UInt8).length ≤ 140737488351232 by decide) (by simp [Lim]) (fa0 _)))) (bw_of (show ([78] : List UInt8).length ≤ 140737488351232 by decide) (by simp [Lim]) (fa0 _)))⟩)⟩)⟩
  exact bodyPost_ret (res_text rfl hx rfl) rfl ⟨⟨[⟨[116, 111, 107, 101, 110], [105, 110, 116], [], 0⟩], [⟨[108], [[88]], [⟨[.mk [88] [] 0], [], false, [], 0, 0⟩, ⟨[.mk [108] [.mk [88] [] 0] 0, .mk [78] [] 0], [78], true, [97], 0, 0⟩], 0⟩]⟩, _, _, rfl, hbig, hD, hR, by rw [HZ.out]; exact HFI.out⟩
set_option maxRecDepth 100000 in
set_option maxHeartbeats 16000000 in
theorem bent_4 {w : World} {sd sr : Value} {s : List UInt8} (hD : Reads w (.row 62 4 smallT.decls.length (desD smallT.decls)) sd) (hR : Reads w (.row 38 4 smallT.rules.length (rusD smallT.rules)) sr) (hs : s.length ≤ 100) :
    Calls Tryz.prog 6 #[.agg #[sd, sr], .int .i64 4, .string (bs s)] w (BentQ w) := by
  obtain ⟨x0, y0, rfl⟩ := Reads.slice hD
  obtain ⟨x1, y1, rfl⟩ := Reads.slice hR
  have hsl : s.length ≤ Lim := by unfold Lim; omega
  have HSL := Lib.hid hsl; clear hsl
  have hzs := RwC.bs_size s
  have HC := Lib.hid (fun (u : World) (hu : Below w.heap.size w u) => Copy.copy_source Law12A.small_tx (Reads.below hu hD) (Reads.below hu hR))
  clear hD hR
  generalize hn0 : smallT.decls.length = n0 at *
  generalize hn1 : smallT.rules.length = n1 at *
  have HN0 := Lib.hid hn0; have HN1 := Lib.hid hn1; clear hn0 hn1
  have HB := Lib.hid (((Below.refl w.heap.size w).alloc (Nat.le_refl _) (.cells #[.slice x0 n0 y0, .slice x1 n1 y1] 28)).alloc (by simp) (.cells #[.slice none 0 0, .slice none 0 0] 28))
  have HSZ := Lib.hid (show ((w.alloc (.cells #[.slice x0 n0 y0, .slice x1 n1 y1] 28)).alloc (.cells #[.slice none 0 0, .slice none 0 0] 28)).heap.size = w.heap.size + 2 by simp)
  have XB := Lib.hid (show ((w.alloc (.cells #[.slice x0 n0 y0, .slice x1 n1 y1] 28)).alloc (.cells #[.slice none 0 0, .slice none 0 0] 28)).heap[w.heap.size + 1]? = some (.cells #[.slice none 0 0, .slice none 0 0] 28 (0, 0)) from LentK.alloc2 w _ _)
  have XA := Lib.hid (show ((w.alloc (.cells #[.slice x0 n0 y0, .slice x1 n1 y1] 28)).alloc (.cells #[.slice none 0 0, .slice none 0 0] 28)).heap[w.heap.size]? = some (.cells #[.slice x0 n0 y0, .slice x1 n1 y1] 28 (0, 0)) from (Below.heap_alloc _ _ _ (by simp)).trans (heap_alloc_new _ _))
  go_enter Tryz.func6, Tryz.ntmps6
  go_upto_region 1 with fail
  generalize ((w.alloc (.cells #[.slice x0 n0 y0, .slice x1 n1 y1] 28)).alloc (.cells #[.slice none 0 0, .slice none 0 0] 28)) = W at *
  have HCW := Lib.hid (HC.out W HB.out)
  have a0 : W.cell? ⟨w.heap.size, 0, none⟩ = some (.slice x0 n0 y0) := cell_of_row W _ 0 _ _ (0, 0) XA.out
  have a1 : W.cell? ⟨w.heap.size, 1, none⟩ = some (.slice x1 n1 y1) := cell_of_row W _ 1 _ _ (0, 0) XA.out
  clear HC
  generalize hH : w.heap.size = H at *
  have HZ := Lib.hid hH; clear hH
  go_upto_region 2 with (go_at_call 20; go_must (refine (HCW.out).mono ?_; rintro e w2 ⟨p0, q0, k0, p1, q1, k1, rfl, hl0, hl1, hnd, hb⟩; have hoa := (hb.block H (by have := HSZ.out; omega)).trans XA.out; have hob := (hb.block (H + 1) (by have := HSZ.out; omega)).trans XB.out; have f0 := frozen_of_row w2 H 0 _ _ hoa; have f1 := frozen_of_row w2 H 1 _ _ hoa; have c0 := cell_of_row w2 H 0 _ _ (0, 0) hoa; have c1 := cell_of_row w2 H 1 _ _ (0, 0) hoa; have HL0 := Lib.hid hl0; have HL1 := Lib.hid hl1; have HND := Lib.hid hnd; have HBN := Lib.hid hb; have XA2 := Lib.hid hoa; have XB2 := Lib.hid hob; clear hl0 hl1 hnd hb hoa hob a0 a1))
  clear f0 f1 c0 c1
  obtain ⟨w3, hw3⟩ : ∃ w3, w3 = (w2.setCell ⟨H, 0, none⟩ (.slice p0 n0 q0)).setCell ⟨H, 1, none⟩ (.slice p1 n1 q1) := ⟨_, rfl⟩
  rw [← hw3]
  have XH := Lib.hid (show w3.heap[H]? = some (.cells #[.slice p0 n0 q0, .slice p1 n1 q1] 28 (0, 0)) from by rw [hw3]; exact blk_set (blk_set XA2.out 0 _) 1 _)
  have XR := Lib.hid (show w3.heap[H + 1]? = some (.cells #[.slice none 0 0, .slice none 0 0] 28 (0, 0)) from by rw [hw3]; exact (Below.heap_setCell _ _ _ _ (by simp)).trans ((Below.heap_setCell _ _ _ _ (by simp)).trans XB2.out))
  have hB3 : Below H w w3 := by rw [hw3]; exact ((HB.out.trans (HBN.out.mono (by have := HSZ.out; omega))).setCell (p := ⟨H, 0, none⟩) (Nat.le_refl _) _).setCell (p := ⟨H, 1, none⟩) (Nat.le_refl _) _
  have hsz3 : w3.heap.size = w2.heap.size := by rw [hw3]; simp [World.setCell]
  have hkeep : ∀ i, W.heap.size ≤ i → w3.heap[i]? = w2.heap[i]? := fun i hi => by rw [hw3]; exact (Below.heap_setCell _ _ _ _ (by have := HSZ.out; show i ≠ H; omega)).trans (Below.heap_setCell _ _ _ _ (by have := HSZ.out; show i ≠ H; omega))
  have hl0 := HL0.out; have hl1 := HL1.out
  rw [← HN0.out] at hl0
  rw [← HN1.out] at hl1
  obtain ⟨D, N, R, P, A, U, V, X, Q0, Q1, cN, cP, cA, cU, cV, cX, z0, z1, z2, he0, he1, hLN, hLT, hz0, hz1, hz2, hHas, oD, oP⟩ := small_mem hl0 hl1 HND.out
  have hd0 : (smallT.decls.length : Nat) = 1 := rfl
  have hd1 : (smallT.rules.length : Nat) = 1 := rfl
  rw [← HN0.out, ← HN1.out, hd0, hd1] at XH
  rw [hd0] at he0
  rw [hd1] at he1
  simp only [Value.slice.injEq, true_and] at he0 he1
  obtain ⟨rfl, rfl⟩ := he0
  obtain ⟨rfl, rfl⟩ := he1
  have HAS := Lib.hid (hHas.other (W' := w3) fun b hb => hkeep b (hLT b hb).1)
  have OD := Lib.hid (own_same (w' := w3) oD fun g hg => by cases hg; exact hkeep D (hLT D (by simp)).1)
  have OP := Lib.hid (own_same (w' := w3) oP fun g hg => by cases hg; exact hkeep P (hLT P (by simp)).1)
  have HLT := Lib.hid (show ∀ b ∈ [D, N, R, P, A, U, V, X], H + 2 ≤ b ∧ b < w3.heap.size from fun b hb => ⟨by have := (hLT b hb).1; have := HSZ.out; omega, by rw [hsz3]; exact (hLT b hb).2⟩)
  have HLN := Lib.hid hLN
  have HZ0 := Lib.hid hz0; have HZ1 := Lib.hid hz1; have HZ2 := Lib.hid hz2
  have HB3 := Lib.hid hB3
  have HWS := Lib.hid (show H + 2 ≤ w3.heap.size by rw [hsz3]; have := HBN.out.size; have := HSZ.out; omega)
  clear hw3 XA2 XB2 hB3 hkeep hl0 hl1 HL0 HL1 HND hLN hLT hz0 hz1 hz2 hHas oD oP hd0 hd1 HBN HCW HB HSZ XB XA HN0 HN1 hsz3
  have c0 : w3.cell? ⟨H, 0, none⟩ = some (.slice (some ⟨D, 0, none⟩) 1 q0) := cell_of_row w3 H 0 _ _ (0, 0) XH.out
  have c1 : w3.cell? ⟨H, 1, none⟩ = some (.slice (some ⟨R, 0, none⟩) 1 q1) := cell_of_row w3 H 1 _ _ (0, 0) XH.out
  have c2 : w3.cell? ⟨R, 2, none⟩ = some (.slice (some ⟨A, 0, none⟩) 2 cA) := HAS.out.cell 7 rfl rfl
  have hmix : Tryz.prog.follows .mixedOrders = true := by kernel_rfl
  go_region_o
  obtain ⟨w5, hw5⟩ : ∃ w5, w5 = w3.drew := ⟨_, rfl⟩
  rw [← hw5]
  have YH := Lib.hid (show w5.heap[H]? = some (.cells #[.slice (some ⟨D, 0, none⟩) 1 q0, .slice (some ⟨R, 0, none⟩) 1 q1] 28 (0, 0)) by rw [hw5]; exact XH.out)
  have YR := Lib.hid (show w5.heap[H + 1]? = some (.cells #[.slice none 0 0, .slice none 0 0] 28 (0, 0)) by rw [hw5]; exact XR.out)
  have HAT := Lib.hid (show Has w5 [D, N, R, P, A, U, V, X] (memS D N R P A U V X cN cP cA cU cV cX z0 z1 z2) by rw [hw5]; exact HAS.out.other fun _ _ => rfl)
  have OD5 := Lib.hid (own_same (w' := w5) OD.out fun g _ => by rw [hw5]; rfl)
  have OP5 := Lib.hid (own_same (w' := w5) OP.out fun g _ => by rw [hw5]; rfl)
  have HLU := Lib.hid (show ∀ b ∈ [D, N, R, P, A, U, V, X], H + 2 ≤ b ∧ b < w5.heap.size from fun b hb => by rw [hw5]; exact HLT.out b hb)
  have HB5 := Lib.hid (show Below H w w5 by rw [hw5]; exact HB3.out.drew)
  have HWT := Lib.hid (show H + 2 ≤ w5.heap.size by rw [hw5]; exact HWS.out)
  clear c0 c1 c2 hw5 XH XR HAS OD OP HLT HB3 HWS
  have c2 : w5.cell? ⟨R, 2, none⟩ = some (.slice (some ⟨A, 0, none⟩) 2 cA) := HAT.out.cell 7 (i := 2) rfl rfl
  go_upto_region 4 with fail
  clear c2
  have s0 := HAT.out.cell 0 (i := 0) (o := 0) rfl rfl
  have t0 := HAT.out.fro 0 (i := 0) (o := 0) rfl rfl
  have s1 := HAT.out.cell 1 (i := 0) (o := 1) rfl rfl
  have t1 := HAT.out.fro 1 (i := 0) (o := 1) rfl rfl
  go_upto_region 39 with fail
  clear s0 t0 s1 t1
  obtain ⟨w4, hw4⟩ : ∃ w4, w4 = (w5.setCell ⟨D, 0, none⟩ (.string (bs s))).setCell ⟨D, 1, none⟩ (.string { data := #[] }) := ⟨_, rfl⟩
  rw [← hw4]
  have HA4 := Lib.hid (show Has w4 [D, N, R, P, A, U, V, X] (upd (upd (memS D N R P A U V X cN cP cA cU cV cX z0 z1 z2) 0 0 (.string (bs s))) 0 1 (.string { data := #[] })) by rw [hw4]; exact (Has.set HLN.out (Has.set HLN.out HAT.out 0 0 (.string (bs s)) rfl) 0 1 (.string { data := #[] }) rfl))
  have ZH := Lib.hid (show w4.heap[H]? = some (.cells #[.slice (some ⟨D, 0, none⟩) 1 q0, .slice (some ⟨R, 0, none⟩) 1 q1] 28 (0, 0)) by rw [hw4]; exact (Below.heap_setCell _ _ _ _ (by have := (HLU.out D (by simp)).1; show _ ≠ D; omega)).trans ((Below.heap_setCell _ _ _ _ (by have := (HLU.out D (by simp)).1; show _ ≠ D; omega)).trans (YH.out)))
  have ZR := Lib.hid (show w4.heap[H + 1]? = some (.cells #[.slice none 0 0, .slice none 0 0] 28 (0, 0)) by rw [hw4]; exact (Below.heap_setCell _ _ _ _ (by have := (HLU.out D (by simp)).1; show _ ≠ D; omega)).trans ((Below.heap_setCell _ _ _ _ (by have := (HLU.out D (by simp)).1; show _ ≠ D; omega)).trans (YR.out)))
  have HB6 := Lib.hid (show Below H w w4 by rw [hw4]; exact ((HB5.out.setCell (p := ⟨D, 0, none⟩) (by have := (HLU.out D (by simp)).1; show H ≤ D; omega) _).setCell (p := ⟨D, 1, none⟩) (by have := (HLU.out D (by simp)).1; show H ≤ D; omega) _))
  clear hw4 HAT YH YR HB5
  have b0 : w4.cell? ⟨H, 0, none⟩ = some (.slice (some ⟨D, 0, none⟩) 1 q0) := cell_of_row w4 H 0 _ _ (0, 0) ZH.out
  have b1 : w4.cell? ⟨H, 1, none⟩ = some (.slice (some ⟨R, 0, none⟩) 1 q1) := cell_of_row w4 H 1 _ _ (0, 0) ZH.out
  have e0 := cell_of_row w4 (H + 1) 0 _ _ (0, 0) ZR.out
  have e1 := cell_of_row w4 (H + 1) 1 _ _ (0, 0) ZR.out
  have f0 := frozen_of_row w4 (H + 1) 0 _ _ ZR.out
  have f1 := frozen_of_row w4 (H + 1) 1 _ _ ZR.out
  have hx := blk_set (blk_set ZR.out 0 (.slice (some ⟨D, 0, none⟩) 1 q0)) 1 (.slice (some ⟨R, 0, none⟩) 1 q1)
  have HFI := Lib.hid (HB6.out.setCell (p := ⟨H + 1, 0, none⟩) (Nat.le_succ _) (.slice (some ⟨D, 0, none⟩) 1 q0) |>.setCell (p := ⟨H + 1, 1, none⟩) (Nat.le_succ _) (.slice (some ⟨R, 0, none⟩) 1 q1))
  go_wp2_with fail
  clear b0 b1 e0 e1 f0 f1
  obtain ⟨w6, hw6⟩ : ∃ w6, w6 = (w4.setCell ⟨H + 1, 0, none⟩ (.slice (some ⟨D, 0, none⟩) 1 q0)).setCell ⟨H + 1, 1, none⟩ (.slice (some ⟨R, 0, none⟩) 1 q1) := ⟨_, rfl⟩
  rw [← hw6] at hx HFI ⊢
  have HK6 := Lib.hid (show ∀ b, H + 2 ≤ b → w6.heap[b]? = w4.heap[b]? from fun b hb => by rw [hw6]; exact (Below.heap_setCell _ _ _ _ (by show b ≠ H + 1; omega)).trans (Below.heap_setCell _ _ _ _ (by show b ≠ H + 1; omega)))
  have HA6 := Lib.hid (HA4.out.other (W' := w6) fun b hb => HK6.out b (HLU.out b hb).1)
  clear hw6
  have hU : Reads w6 (.row 33 3 1 (wdsD [.mk [88] [] 0])) (.slice (some ⟨U, 0, none⟩) 1 cU) := rd_word1 (HA6.out.cell 22 (i := 5) rfl rfl) (HA6.out.cell 23 (i := 5) rfl rfl) (HA6.out.cell 24 (i := 5) rfl rfl) (rz HZ0.out _)
  have hX : Reads w6 (.row 33 3 1 (wdsD [.mk [88] [] 0])) (.slice (some ⟨X, 0, none⟩) 1 cX) := rd_word1 (HA6.out.cell 31 (i := 7) rfl rfl) (HA6.out.cell 32 (i := 7) rfl rfl) (HA6.out.cell 33 (i := 7) rfl rfl) (rz HZ2.out _)
  have hV : Reads w6 (.row 33 3 2 (wdsD [.mk [108] [.mk [88] [] 0] 0, .mk [78] [] 0])) (.slice (some ⟨V, 0, none⟩) 2 cV) := rd_word2 (HA6.out.cell 25 (i := 6) rfl rfl) (HA6.out.cell 26 (i := 6) rfl rfl) (HA6.out.cell 27 (i := 6) rfl rfl) hX (HA6.out.cell 28 (i := 6) rfl rfl) (HA6.out.cell 29 (i := 6) rfl rfl) (HA6.out.cell 30 (i := 6) rfl rfl) (rz HZ1.out _)
  have hA : Reads w6 (.row 35 6 2 (alsD [⟨[.mk [88] [] 0], [], false, [], 0, 0⟩, ⟨[.mk [108] [.mk [88] [] 0] 0, .mk [78] [] 0], [78], true, [97], 0, 0⟩])) (.slice (some ⟨A, 0, none⟩) 2 cA) := rd_alts (x := ⟨[.mk [88] [] 0], [], false, [], 0, 0⟩) (y := ⟨[.mk [108] [.mk [88] [] 0] 0, .mk [78] [] 0], [78], true, [97], 0, 0⟩) (HA6.out.cell 10 (i := 4) rfl rfl) hU (HA6.out.cell 11 (i := 4) rfl rfl) (HA6.out.cell 12 (i := 4) rfl rfl) (HA6.out.cell 13 (i := 4) rfl rfl) (HA6.out.cell 14 (i := 4) rfl rfl) (HA6.out.cell 15 (i := 4) rfl rfl) (HA6.out.cell 16 (i := 4) rfl rfl) hV (HA6.out.cell 17 (i := 4) rfl rfl) (HA6.out.cell 18 (i := 4) rfl rfl) (HA6.out.cell 19 (i := 4) rfl rfl) (HA6.out.cell 20 (i := 4) rfl rfl) (HA6.out.cell 21 (i := 4) rfl rfl)
  have hR : Reads w6 (.row 38 4 1 (rusD [⟨[108], [[88]], [⟨[.mk [88] [] 0], [], false, [], 0, 0⟩, ⟨[.mk [108] [.mk [88] [] 0] 0, .mk [78] [] 0], [78], true, [97], 0, 0⟩], 0⟩])) (.slice (some ⟨R, 0, none⟩) 1 q1) := rd_rule (x := ⟨[108], [[88]], [⟨[.mk [88] [] 0], [], false, [], 0, 0⟩, ⟨[.mk [108] [.mk [88] [] 0] 0, .mk [78] [] 0], [78], true, [97], 0, 0⟩], 0⟩) (HA6.out.cell 5 (i := 2) rfl rfl) (HA6.out.cell 6 (i := 2) rfl rfl) (rd_str1 (HA6.out.cell 9 (i := 3) rfl rfl)) (HA6.out.cell 7 (i := 2) rfl rfl) hA (HA6.out.cell 8 (i := 2) rfl rfl)
  have hD : Reads w6 (.row 62 4 1 (desD [⟨s, [], [[78]], 0⟩])) (.slice (some ⟨D, 0, none⟩) 1 q0) := rd_decl (x := ⟨s, [], [[78]], 0⟩) (HA6.out.cell 0 (i := 0) rfl rfl) (HA6.out.cell 1 (i := 0) rfl rfl) (HA6.out.cell 2 (i := 0) rfl rfl) (rd_str1 (HA6.out.cell 4 (i := 1) rfl rfl)) (HA6.out.cell 3 (i := 0) rfl rfl)
  have hbig : bigT ⟨[⟨s, [], [[78]], 0⟩], [⟨[108], [[88]], [⟨[.mk [88] [] 0], [], false, [], 0, 0⟩, ⟨[.mk [108] [.mk [88] [] 0] 0, .mk [78] [] 0], [78], true, [97], 0, 0⟩], 0⟩]⟩ := ⟨by simp [Lim], by simp [Lim], (fa1 ⟨HSL.out, (show ([] : List UInt8).length ≤ 140737488351232 by decide), by simp [Lim], (fa1 (show ([78] : List UInt8).length ≤ 140737488351232 by decide))⟩), (fa1 ⟨(show ([108] : List UInt8).length ≤ 140737488351232 by decide), by simp [Lim], by simp [Lim], (fa1 (show ([88] : List UInt8).length ≤ 140737488351232 by decide)), (fa2 ⟨by simp [Lim], (show ([] : List UInt8).length ≤ 140737488351232 by decide), (show ([] : List UInt8).length ≤ 140737488351232 by decide), (fa1 (bw_of (show ([88] : List UInt8).length ≤ 140737488351232 by decide) (by simp [Lim]) (fa0 _)))⟩ ⟨by simp [Lim], (show ([78] : List UInt8).length ≤ 140737488351232 by decide), (show ([97] : List UInt8).length ≤ 140737488351232 by decide), (fa2 (bw_of (show ([108] : List UInt8).length ≤ 140737488351232 by decide) (by simp [Lim]) (fa1 (bw_of (show ([88] : List UInt8).length ≤ 140737488351232 by decide) (by simp [Lim]) (fa0 _)))) (bw_of (show ([78] : List UInt8).length ≤ 140737488351232 by decide) (by simp [Lim]) (fa0 _)))⟩)⟩)⟩
  exact bodyPost_ret (res_text rfl hx rfl) rfl ⟨⟨[⟨s, [], [[78]], 0⟩], [⟨[108], [[88]], [⟨[.mk [88] [] 0], [], false, [], 0, 0⟩, ⟨[.mk [108] [.mk [88] [] 0] 0, .mk [78] [] 0], [78], true, [97], 0, 0⟩], 0⟩]⟩, _, _, rfl, hbig, hD, hR, by rw [HZ.out]; exact HFI.out⟩
set_option maxRecDepth 100000 in
set_option maxHeartbeats 16000000 in
theorem bent_5 {w : World} {sd sr : Value} {s : List UInt8} (hD : Reads w (.row 62 4 smallT.decls.length (desD smallT.decls)) sd) (hR : Reads w (.row 38 4 smallT.rules.length (rusD smallT.rules)) sr) (hs : s.length ≤ 100) :
    Calls Tryz.prog 6 #[.agg #[sd, sr], .int .i64 5, .string (bs s)] w (BentQ w) := by
  obtain ⟨x0, y0, rfl⟩ := Reads.slice hD
  obtain ⟨x1, y1, rfl⟩ := Reads.slice hR
  have hsl : s.length ≤ Lim := by unfold Lim; omega
  have HSL := Lib.hid hsl; clear hsl
  have hzs := RwC.bs_size s
  have HC := Lib.hid (fun (u : World) (hu : Below w.heap.size w u) => Copy.copy_source Law12A.small_tx (Reads.below hu hD) (Reads.below hu hR))
  clear hD hR
  generalize hn0 : smallT.decls.length = n0 at *
  generalize hn1 : smallT.rules.length = n1 at *
  have HN0 := Lib.hid hn0; have HN1 := Lib.hid hn1; clear hn0 hn1
  have HB := Lib.hid (((Below.refl w.heap.size w).alloc (Nat.le_refl _) (.cells #[.slice x0 n0 y0, .slice x1 n1 y1] 28)).alloc (by simp) (.cells #[.slice none 0 0, .slice none 0 0] 28))
  have HSZ := Lib.hid (show ((w.alloc (.cells #[.slice x0 n0 y0, .slice x1 n1 y1] 28)).alloc (.cells #[.slice none 0 0, .slice none 0 0] 28)).heap.size = w.heap.size + 2 by simp)
  have XB := Lib.hid (show ((w.alloc (.cells #[.slice x0 n0 y0, .slice x1 n1 y1] 28)).alloc (.cells #[.slice none 0 0, .slice none 0 0] 28)).heap[w.heap.size + 1]? = some (.cells #[.slice none 0 0, .slice none 0 0] 28 (0, 0)) from LentK.alloc2 w _ _)
  have XA := Lib.hid (show ((w.alloc (.cells #[.slice x0 n0 y0, .slice x1 n1 y1] 28)).alloc (.cells #[.slice none 0 0, .slice none 0 0] 28)).heap[w.heap.size]? = some (.cells #[.slice x0 n0 y0, .slice x1 n1 y1] 28 (0, 0)) from (Below.heap_alloc _ _ _ (by simp)).trans (heap_alloc_new _ _))
  go_enter Tryz.func6, Tryz.ntmps6
  go_upto_region 1 with fail
  generalize ((w.alloc (.cells #[.slice x0 n0 y0, .slice x1 n1 y1] 28)).alloc (.cells #[.slice none 0 0, .slice none 0 0] 28)) = W at *
  have HCW := Lib.hid (HC.out W HB.out)
  have a0 : W.cell? ⟨w.heap.size, 0, none⟩ = some (.slice x0 n0 y0) := cell_of_row W _ 0 _ _ (0, 0) XA.out
  have a1 : W.cell? ⟨w.heap.size, 1, none⟩ = some (.slice x1 n1 y1) := cell_of_row W _ 1 _ _ (0, 0) XA.out
  clear HC
  generalize hH : w.heap.size = H at *
  have HZ := Lib.hid hH; clear hH
  go_upto_region 2 with (go_at_call 20; go_must (refine (HCW.out).mono ?_; rintro e w2 ⟨p0, q0, k0, p1, q1, k1, rfl, hl0, hl1, hnd, hb⟩; have hoa := (hb.block H (by have := HSZ.out; omega)).trans XA.out; have hob := (hb.block (H + 1) (by have := HSZ.out; omega)).trans XB.out; have f0 := frozen_of_row w2 H 0 _ _ hoa; have f1 := frozen_of_row w2 H 1 _ _ hoa; have c0 := cell_of_row w2 H 0 _ _ (0, 0) hoa; have c1 := cell_of_row w2 H 1 _ _ (0, 0) hoa; have HL0 := Lib.hid hl0; have HL1 := Lib.hid hl1; have HND := Lib.hid hnd; have HBN := Lib.hid hb; have XA2 := Lib.hid hoa; have XB2 := Lib.hid hob; clear hl0 hl1 hnd hb hoa hob a0 a1))
  clear f0 f1 c0 c1
  obtain ⟨w3, hw3⟩ : ∃ w3, w3 = (w2.setCell ⟨H, 0, none⟩ (.slice p0 n0 q0)).setCell ⟨H, 1, none⟩ (.slice p1 n1 q1) := ⟨_, rfl⟩
  rw [← hw3]
  have XH := Lib.hid (show w3.heap[H]? = some (.cells #[.slice p0 n0 q0, .slice p1 n1 q1] 28 (0, 0)) from by rw [hw3]; exact blk_set (blk_set XA2.out 0 _) 1 _)
  have XR := Lib.hid (show w3.heap[H + 1]? = some (.cells #[.slice none 0 0, .slice none 0 0] 28 (0, 0)) from by rw [hw3]; exact (Below.heap_setCell _ _ _ _ (by simp)).trans ((Below.heap_setCell _ _ _ _ (by simp)).trans XB2.out))
  have hB3 : Below H w w3 := by rw [hw3]; exact ((HB.out.trans (HBN.out.mono (by have := HSZ.out; omega))).setCell (p := ⟨H, 0, none⟩) (Nat.le_refl _) _).setCell (p := ⟨H, 1, none⟩) (Nat.le_refl _) _
  have hsz3 : w3.heap.size = w2.heap.size := by rw [hw3]; simp [World.setCell]
  have hkeep : ∀ i, W.heap.size ≤ i → w3.heap[i]? = w2.heap[i]? := fun i hi => by rw [hw3]; exact (Below.heap_setCell _ _ _ _ (by have := HSZ.out; show i ≠ H; omega)).trans (Below.heap_setCell _ _ _ _ (by have := HSZ.out; show i ≠ H; omega))
  have hl0 := HL0.out; have hl1 := HL1.out
  rw [← HN0.out] at hl0
  rw [← HN1.out] at hl1
  obtain ⟨D, N, R, P, A, U, V, X, Q0, Q1, cN, cP, cA, cU, cV, cX, z0, z1, z2, he0, he1, hLN, hLT, hz0, hz1, hz2, hHas, oD, oP⟩ := small_mem hl0 hl1 HND.out
  have hd0 : (smallT.decls.length : Nat) = 1 := rfl
  have hd1 : (smallT.rules.length : Nat) = 1 := rfl
  rw [← HN0.out, ← HN1.out, hd0, hd1] at XH
  rw [hd0] at he0
  rw [hd1] at he1
  simp only [Value.slice.injEq, true_and] at he0 he1
  obtain ⟨rfl, rfl⟩ := he0
  obtain ⟨rfl, rfl⟩ := he1
  have HAS := Lib.hid (hHas.other (W' := w3) fun b hb => hkeep b (hLT b hb).1)
  have OD := Lib.hid (own_same (w' := w3) oD fun g hg => by cases hg; exact hkeep D (hLT D (by simp)).1)
  have OP := Lib.hid (own_same (w' := w3) oP fun g hg => by cases hg; exact hkeep P (hLT P (by simp)).1)
  have HLT := Lib.hid (show ∀ b ∈ [D, N, R, P, A, U, V, X], H + 2 ≤ b ∧ b < w3.heap.size from fun b hb => ⟨by have := (hLT b hb).1; have := HSZ.out; omega, by rw [hsz3]; exact (hLT b hb).2⟩)
  have HLN := Lib.hid hLN
  have HZ0 := Lib.hid hz0; have HZ1 := Lib.hid hz1; have HZ2 := Lib.hid hz2
  have HB3 := Lib.hid hB3
  have HWS := Lib.hid (show H + 2 ≤ w3.heap.size by rw [hsz3]; have := HBN.out.size; have := HSZ.out; omega)
  clear hw3 XA2 XB2 hB3 hkeep hl0 hl1 HL0 HL1 HND hLN hLT hz0 hz1 hz2 hHas oD oP hd0 hd1 HBN HCW HB HSZ XB XA HN0 HN1 hsz3
  have c0 : w3.cell? ⟨H, 0, none⟩ = some (.slice (some ⟨D, 0, none⟩) 1 q0) := cell_of_row w3 H 0 _ _ (0, 0) XH.out
  have c1 : w3.cell? ⟨H, 1, none⟩ = some (.slice (some ⟨R, 0, none⟩) 1 q1) := cell_of_row w3 H 1 _ _ (0, 0) XH.out
  have c2 : w3.cell? ⟨R, 2, none⟩ = some (.slice (some ⟨A, 0, none⟩) 2 cA) := HAS.out.cell 7 rfl rfl
  have hmix : Tryz.prog.follows .mixedOrders = true := by kernel_rfl
  go_region_o
  obtain ⟨w5, hw5⟩ : ∃ w5, w5 = w3.drew := ⟨_, rfl⟩
  rw [← hw5]
  have YH := Lib.hid (show w5.heap[H]? = some (.cells #[.slice (some ⟨D, 0, none⟩) 1 q0, .slice (some ⟨R, 0, none⟩) 1 q1] 28 (0, 0)) by rw [hw5]; exact XH.out)
  have YR := Lib.hid (show w5.heap[H + 1]? = some (.cells #[.slice none 0 0, .slice none 0 0] 28 (0, 0)) by rw [hw5]; exact XR.out)
  have HAT := Lib.hid (show Has w5 [D, N, R, P, A, U, V, X] (memS D N R P A U V X cN cP cA cU cV cX z0 z1 z2) by rw [hw5]; exact HAS.out.other fun _ _ => rfl)
  have OD5 := Lib.hid (own_same (w' := w5) OD.out fun g _ => by rw [hw5]; rfl)
  have OP5 := Lib.hid (own_same (w' := w5) OP.out fun g _ => by rw [hw5]; rfl)
  have HLU := Lib.hid (show ∀ b ∈ [D, N, R, P, A, U, V, X], H + 2 ≤ b ∧ b < w5.heap.size from fun b hb => by rw [hw5]; exact HLT.out b hb)
  have HB5 := Lib.hid (show Below H w w5 by rw [hw5]; exact HB3.out.drew)
  have HWT := Lib.hid (show H + 2 ≤ w5.heap.size by rw [hw5]; exact HWS.out)
  clear c0 c1 c2 hw5 XH XR HAS OD OP HLT HB3 HWS
  have c2 : w5.cell? ⟨R, 2, none⟩ = some (.slice (some ⟨A, 0, none⟩) 2 cA) := HAT.out.cell 7 (i := 2) rfl rfl
  go_upto_region 4 with fail
  clear c2
  have s0 := HAT.out.cell 5 (i := 2) (o := 0) rfl rfl
  have t0 := HAT.out.fro 5 (i := 2) (o := 0) rfl rfl
  go_upto_region 39 with fail
  clear s0 t0
  obtain ⟨w4, hw4⟩ : ∃ w4, w4 = w5.setCell ⟨R, 0, none⟩ (.string (bs s)) := ⟨_, rfl⟩
  rw [← hw4]
  have HA4 := Lib.hid (show Has w4 [D, N, R, P, A, U, V, X] (upd (memS D N R P A U V X cN cP cA cU cV cX z0 z1 z2) 2 0 (.string (bs s))) by rw [hw4]; exact (Has.set HLN.out HAT.out 2 0 (.string (bs s)) rfl))
  have ZH := Lib.hid (show w4.heap[H]? = some (.cells #[.slice (some ⟨D, 0, none⟩) 1 q0, .slice (some ⟨R, 0, none⟩) 1 q1] 28 (0, 0)) by rw [hw4]; exact (Below.heap_setCell _ _ _ _ (by have := (HLU.out R (by simp)).1; show _ ≠ R; omega)).trans (YH.out))
  have ZR := Lib.hid (show w4.heap[H + 1]? = some (.cells #[.slice none 0 0, .slice none 0 0] 28 (0, 0)) by rw [hw4]; exact (Below.heap_setCell _ _ _ _ (by have := (HLU.out R (by simp)).1; show _ ≠ R; omega)).trans (YR.out))
  have HB6 := Lib.hid (show Below H w w4 by rw [hw4]; exact (HB5.out.setCell (p := ⟨R, 0, none⟩) (by have := (HLU.out R (by simp)).1; show H ≤ R; omega) _))
  clear hw4 HAT YH YR HB5
  have b0 : w4.cell? ⟨H, 0, none⟩ = some (.slice (some ⟨D, 0, none⟩) 1 q0) := cell_of_row w4 H 0 _ _ (0, 0) ZH.out
  have b1 : w4.cell? ⟨H, 1, none⟩ = some (.slice (some ⟨R, 0, none⟩) 1 q1) := cell_of_row w4 H 1 _ _ (0, 0) ZH.out
  have e0 := cell_of_row w4 (H + 1) 0 _ _ (0, 0) ZR.out
  have e1 := cell_of_row w4 (H + 1) 1 _ _ (0, 0) ZR.out
  have f0 := frozen_of_row w4 (H + 1) 0 _ _ ZR.out
  have f1 := frozen_of_row w4 (H + 1) 1 _ _ ZR.out
  have hx := blk_set (blk_set ZR.out 0 (.slice (some ⟨D, 0, none⟩) 1 q0)) 1 (.slice (some ⟨R, 0, none⟩) 1 q1)
  have HFI := Lib.hid (HB6.out.setCell (p := ⟨H + 1, 0, none⟩) (Nat.le_succ _) (.slice (some ⟨D, 0, none⟩) 1 q0) |>.setCell (p := ⟨H + 1, 1, none⟩) (Nat.le_succ _) (.slice (some ⟨R, 0, none⟩) 1 q1))
  go_wp2_with fail
  clear b0 b1 e0 e1 f0 f1
  obtain ⟨w6, hw6⟩ : ∃ w6, w6 = (w4.setCell ⟨H + 1, 0, none⟩ (.slice (some ⟨D, 0, none⟩) 1 q0)).setCell ⟨H + 1, 1, none⟩ (.slice (some ⟨R, 0, none⟩) 1 q1) := ⟨_, rfl⟩
  rw [← hw6] at hx HFI ⊢
  have HK6 := Lib.hid (show ∀ b, H + 2 ≤ b → w6.heap[b]? = w4.heap[b]? from fun b hb => by rw [hw6]; exact (Below.heap_setCell _ _ _ _ (by show b ≠ H + 1; omega)).trans (Below.heap_setCell _ _ _ _ (by show b ≠ H + 1; omega)))
  have HA6 := Lib.hid (HA4.out.other (W' := w6) fun b hb => HK6.out b (HLU.out b hb).1)
  clear hw6
  have hU : Reads w6 (.row 33 3 1 (wdsD [.mk [88] [] 0])) (.slice (some ⟨U, 0, none⟩) 1 cU) := rd_word1 (HA6.out.cell 22 (i := 5) rfl rfl) (HA6.out.cell 23 (i := 5) rfl rfl) (HA6.out.cell 24 (i := 5) rfl rfl) (rz HZ0.out _)
  have hX : Reads w6 (.row 33 3 1 (wdsD [.mk [88] [] 0])) (.slice (some ⟨X, 0, none⟩) 1 cX) := rd_word1 (HA6.out.cell 31 (i := 7) rfl rfl) (HA6.out.cell 32 (i := 7) rfl rfl) (HA6.out.cell 33 (i := 7) rfl rfl) (rz HZ2.out _)
  have hV : Reads w6 (.row 33 3 2 (wdsD [.mk [108] [.mk [88] [] 0] 0, .mk [78] [] 0])) (.slice (some ⟨V, 0, none⟩) 2 cV) := rd_word2 (HA6.out.cell 25 (i := 6) rfl rfl) (HA6.out.cell 26 (i := 6) rfl rfl) (HA6.out.cell 27 (i := 6) rfl rfl) hX (HA6.out.cell 28 (i := 6) rfl rfl) (HA6.out.cell 29 (i := 6) rfl rfl) (HA6.out.cell 30 (i := 6) rfl rfl) (rz HZ1.out _)
  have hA : Reads w6 (.row 35 6 2 (alsD [⟨[.mk [88] [] 0], [], false, [], 0, 0⟩, ⟨[.mk [108] [.mk [88] [] 0] 0, .mk [78] [] 0], [78], true, [97], 0, 0⟩])) (.slice (some ⟨A, 0, none⟩) 2 cA) := rd_alts (x := ⟨[.mk [88] [] 0], [], false, [], 0, 0⟩) (y := ⟨[.mk [108] [.mk [88] [] 0] 0, .mk [78] [] 0], [78], true, [97], 0, 0⟩) (HA6.out.cell 10 (i := 4) rfl rfl) hU (HA6.out.cell 11 (i := 4) rfl rfl) (HA6.out.cell 12 (i := 4) rfl rfl) (HA6.out.cell 13 (i := 4) rfl rfl) (HA6.out.cell 14 (i := 4) rfl rfl) (HA6.out.cell 15 (i := 4) rfl rfl) (HA6.out.cell 16 (i := 4) rfl rfl) hV (HA6.out.cell 17 (i := 4) rfl rfl) (HA6.out.cell 18 (i := 4) rfl rfl) (HA6.out.cell 19 (i := 4) rfl rfl) (HA6.out.cell 20 (i := 4) rfl rfl) (HA6.out.cell 21 (i := 4) rfl rfl)
  have hR : Reads w6 (.row 38 4 1 (rusD [⟨s, [[88]], [⟨[.mk [88] [] 0], [], false, [], 0, 0⟩, ⟨[.mk [108] [.mk [88] [] 0] 0, .mk [78] [] 0], [78], true, [97], 0, 0⟩], 0⟩])) (.slice (some ⟨R, 0, none⟩) 1 q1) := rd_rule (x := ⟨s, [[88]], [⟨[.mk [88] [] 0], [], false, [], 0, 0⟩, ⟨[.mk [108] [.mk [88] [] 0] 0, .mk [78] [] 0], [78], true, [97], 0, 0⟩], 0⟩) (HA6.out.cell 5 (i := 2) rfl rfl) (HA6.out.cell 6 (i := 2) rfl rfl) (rd_str1 (HA6.out.cell 9 (i := 3) rfl rfl)) (HA6.out.cell 7 (i := 2) rfl rfl) hA (HA6.out.cell 8 (i := 2) rfl rfl)
  have hD : Reads w6 (.row 62 4 1 (desD [⟨[116, 111, 107, 101, 110], [105, 110, 116], [[78]], 0⟩])) (.slice (some ⟨D, 0, none⟩) 1 q0) := rd_decl (x := ⟨[116, 111, 107, 101, 110], [105, 110, 116], [[78]], 0⟩) (HA6.out.cell 0 (i := 0) rfl rfl) (HA6.out.cell 1 (i := 0) rfl rfl) (HA6.out.cell 2 (i := 0) rfl rfl) (rd_str1 (HA6.out.cell 4 (i := 1) rfl rfl)) (HA6.out.cell 3 (i := 0) rfl rfl)
  have hbig : bigT ⟨[⟨[116, 111, 107, 101, 110], [105, 110, 116], [[78]], 0⟩], [⟨s, [[88]], [⟨[.mk [88] [] 0], [], false, [], 0, 0⟩, ⟨[.mk [108] [.mk [88] [] 0] 0, .mk [78] [] 0], [78], true, [97], 0, 0⟩], 0⟩]⟩ := ⟨by simp [Lim], by simp [Lim], (fa1 ⟨(show ([116, 111, 107, 101, 110] : List UInt8).length ≤ 140737488351232 by decide), (show ([105, 110, 116] : List UInt8).length ≤ 140737488351232 by decide), by simp [Lim], (fa1 (show ([78] : List UInt8).length ≤ 140737488351232 by decide))⟩), (fa1 ⟨HSL.out, by simp [Lim], by simp [Lim], (fa1 (show ([88] : List UInt8).length ≤ 140737488351232 by decide)), (fa2 ⟨by simp [Lim], (show ([] : List UInt8).length ≤ 140737488351232 by decide), (show ([] : List UInt8).length ≤ 140737488351232 by decide), (fa1 (bw_of (show ([88] : List UInt8).length ≤ 140737488351232 by decide) (by simp [Lim]) (fa0 _)))⟩ ⟨by simp [Lim], (show ([78] : List UInt8).length ≤ 140737488351232 by decide), (show ([97] : List UInt8).length ≤ 140737488351232 by decide), (fa2 (bw_of (show ([108] : List UInt8).length ≤ 140737488351232 by decide) (by simp [Lim]) (fa1 (bw_of (show ([88] : List UInt8).length ≤ 140737488351232 by decide) (by simp [Lim]) (fa0 _)))) (bw_of (show ([78] : List UInt8).length ≤ 140737488351232 by decide) (by simp [Lim]) (fa0 _)))⟩)⟩)⟩
  exact bodyPost_ret (res_text rfl hx rfl) rfl ⟨⟨[⟨[116, 111, 107, 101, 110], [105, 110, 116], [[78]], 0⟩], [⟨s, [[88]], [⟨[.mk [88] [] 0], [], false, [], 0, 0⟩, ⟨[.mk [108] [.mk [88] [] 0] 0, .mk [78] [] 0], [78], true, [97], 0, 0⟩], 0⟩]⟩, _, _, rfl, hbig, hD, hR, by rw [HZ.out]; exact HFI.out⟩
end Go.Proofs.YtghebacphjglbaaGreat.BentC2
