/- The law WriteBack, walked. -/
import Derived.Test.YtelpkldlkpoioaaLaw12B
import Derived.Test.YtelpkldlkpoioaaWgB
namespace Go.Proofs.Ytelpkldlkpoioaa.Law12C
open Go.Proofs.Ytelpkldlkpoioaa.Law12B (plain_tx tx_rows)
open Go.RowKit Go.Proofs.Ytelpkldlkpoioaa.Lexy Go.Proofs.Ytelpkldlkpoioaa.LexA Go.Proofs.Ytelpkldlkpoioaa.LexB Go.Proofs.Ytelpkldlkpoioaa.LexC Go.Proofs.Ytelpkldlkpoioaa.LexD Go.Proofs.Ytelpkldlkpoioaa.LexE Go.Proofs.Ytelpkldlkpoioaa.LexF Go.Proofs.Ytelpkldlkpoioaa.LexG Go.Proofs.Ytelpkldlkpoioaa.Heap Go.Proofs.Ytelpkldlkpoioaa.Dat Go.Proofs.Ytelpkldlkpoioaa.Ready Go.Proofs.Ytelpkldlkpoioaa.ReadA Go.Proofs.Ytelpkldlkpoioaa.ReadC Go.Proofs.Ytelpkldlkpoioaa.ReadG Go.Proofs.Ytelpkldlkpoioaa.ReadH Go.Proofs.Ytelpkldlkpoioaa.ReadI Go.Proofs.Ytelpkldlkpoioaa.ReadJ Go.Proofs.Ytelpkldlkpoioaa.ReadM Go.Proofs.Ytelpkldlkpoioaa.ReadO Go.Proofs.Ytelpkldlkpoioaa.Same Go.Proofs.Ytelpkldlkpoioaa.Cut Go.Proofs.Ytelpkldlkpoioaa.WrE Go.Proofs.Ytelpkldlkpoioaa.WrG Go.Proofs.Ytelpkldlkpoioaa.WrP Go.Proofs.Ytelpkldlkpoioaa.WrS Go.Proofs.Ytelpkldlkpoioaa.WrT Go.Proofs.Ytelpkldlkpoioaa.WrO Go.Proofs.Ytelpkldlkpoioaa.WrK Go.Proofs.Ytelpkldlkpoioaa.WgB

/-- what is little, and may be written, is read as the same -/
theorem back_plain {x : Tx} (hok : okT x = true) (hs : (wrT x).length ≤ 65536) : ∃ y j, SaysR (wrT x) (.ok y j) ∧ TxOk y ∧ plainT y = plainT x := by
  obtain ⟨T2, y, j, h3, h4, h5⟩ := read_wr hok hs
  have hT2 := toks_told h3
  have hk2 := TextR_end hT2.1.ends h4
  have hlen2 := hT2.1.len
  exact ⟨y, j, .good h3 h4, (TextR_good (toks_places h3) h4 (by omega)).1, h5⟩
theorem beq_len (z : ByteArray) : (z.toList == z.toList) = true := beq_self_eq_true _
set_option maxRecDepth 100000 in
set_option maxHeartbeats 8000000 in
theorem back_any {x : Tx} {w : World} {m : Int} {sd sr : Value} (hm : w.cell? ⟨0, 0, none⟩ = some (.int .i64 m)) (hb : bigT x) (hD : Reads w (.row 45 4 x.decls.length (desD x.decls)) sd) (hR : Reads w (.row 48 4 x.rules.length (rusD x.rules)) sr) :
    Calls Try.prog 7 #[.agg #[sd, sr]] w fun e w' => e = .returned (.bool true) ∧ Below w.heap.size w w' := by
  have hml := World.block_lt_of_cell? _ _ hm
  obtain ⟨a0, c0, rfl⟩ := Reads.slice hD
  obtain ⟨a1, c1, rfl⟩ := Reads.slice hR
  have HX := Lib.hid (box1 w (.cells #[.slice a0 x.decls.length c0, .slice a1 x.rules.length c1] 39 (0, 0)))
  have HD := Lib.hid hD; have HR := Lib.hid hR; have HBG := Lib.hid hb; have HM := Lib.hid hm
  clear hD hR hb hm
  go_enter Try.func7, Try.ntmps7
  go_upto_region 1 with fail
  generalize hw1 : w.alloc (.cells #[.slice a0 x.decls.length c0, .slice a1 x.rules.length c1] 39 (0, 0)) = w1 at *
  clear hw1
  obtain ⟨x1, hbx, hsx⟩ := HX.out
  have HB1 := Lib.hid hbx
  have HM1 := Lib.hid ((hbx.cell (p := ⟨0, 0, none⟩) hml).trans HM.out)
  have hml1 := World.block_lt_of_cell? _ _ HM1.out
  have X1 := Lib.hid x1
  clear HX x1 hbx
  generalize hH : w.heap.size = H at *
  have HZ := Lib.hid hH; clear hH
  go_upto_region 3 with (go_at_call 21; refine (Law12A.awake_any HM1.out).mono ?_; rintro e w2 ⟨rfl, hb2⟩)
  have HB2 := Lib.hid (HB1.out.trans (hb2.mono (by omega)))
  have X2 := Lib.hid ((hb2.block H (by omega)).trans X1.out)
  have c10 : w2.cell? ⟨H, 0, none⟩ = some (.slice a0 x.decls.length c0) := cell_of_row w2 _ 0 _ _ (0, 0) X2.out
  have c11 : w2.cell? ⟨H, 1, none⟩ = some (.slice a1 x.rules.length c1) := cell_of_row w2 _ 1 _ _ (0, 0) X2.out
  have HBz : Below w.heap.size w w2 := by rw [HZ.out]; exact HB2.out
  have HGR := Lib.hid (great_any (Reads.below HBz HD.out) (Reads.below HBz HR.out) HBG.out)
  clear hb2 X1 HB1 HM1 hml1 HBz
  go_upto_region 5 with (go_at_call 22; refine (HGR.out).mono ?_; rintro e w3 hgq; obtain ⟨bb, hsm, hb3⟩ := hgq; cases bb)
  rotate_left
  · go_ret
    exact ⟨rfl, by rw [HZ.out]; exact HB2.out.trans (hb3.mono (by have := HB2.out.size; have := HZ.out; omega))⟩
  have hsml := hsm trivial
  have hs2 : H ≤ w2.heap.size := by have := HB2.out.size; have := HZ.out; omega
  have HB3 := Lib.hid (HB2.out.trans (hb3.mono (by omega)))
  have hs3 : H ≤ w3.heap.size := by have := HB3.out.size; have := HZ.out; omega
  have hX3 : H < w2.heap.size := (Array.getElem?_eq_some_iff.1 X2.out).1
  have X3 := Lib.hid ((hb3.block H hX3).trans X2.out)
  have hH3 : H < w3.heap.size := (Array.getElem?_eq_some_iff.1 X3.out).1
  have c20 : w3.cell? ⟨H, 0, none⟩ = some (.slice a0 x.decls.length c0) := cell_of_row w3 _ 0 _ _ (0, 0) X3.out
  have c21 : w3.cell? ⟨H, 1, none⟩ = some (.slice a1 x.rules.length c1) := cell_of_row w3 _ 1 _ _ (0, 0) X3.out
  have hok := WrT.small_ok hsml
  have hln := WrT.small_len hsml
  have hbz3 : Below w.heap.size w w3 := by rw [HZ.out]; exact HB3.out
  have HM3 := Lib.hid ((hbz3.cell (p := ⟨0, 0, none⟩) (by rw [HZ.out]; exact hml)).trans HM.out)
  have HTX := Lib.hid (WrN.text_any HM3.out (Reads.below hbz3 HD.out) (Reads.below hbz3 HR.out) hok (by omega))
  have HOX := Lib.hid hok
  clear hsm hb3 c10 c11 HGR X2 hbz3 hok
  by_cases hokT : okT x = true
  · have htx : Calls Try.prog 23 #[.agg #[.slice a0 x.decls.length c0, .slice a1 x.rules.length c1]] w3 fun e w' => e = .returned (.tuple #[.string (bs (wrT x)), .int .i64 0]) ∧ Below w3.heap.size w3 w' := by
      refine (HTX.out).mono ?_
      rintro e w' ⟨hb, rfl⟩
      rw [hokT]
      exact ⟨rfl, hb⟩
    have hlw : (wrT x).length ≤ 200003 := by rw [len_ok hokT]; exact hln
    have HT2 := Lib.hid htx; have HOK := Lib.hid hokT
    clear htx HTX hokT
    have hzl : (bs (wrT x)).data.toList = wrT x := by simp [bs]
    have hzs : (bs (wrT x)).size = (wrT x).length := by simp [bs, ByteArray.size]
    have HZB := Lib.hid (show bs (wrT x) = bs (wrT x) from rfl)
    generalize hz : bs (wrT x) = z at HT2 hzl hzs
    have HZZ := Lib.hid hz; clear hz
    go_upto_region 8 with (go_at_call 23; refine (HT2.out).mono ?_; rintro e w4 ⟨rfl, hb4⟩)
    have HB4 := Lib.hid (HB3.out.trans (hb4.mono (by omega)))
    have hs4 : H ≤ w4.heap.size := by have := HB4.out.size; have := HZ.out; omega
    have X4 := Lib.hid ((hb4.block H hH3).trans X3.out)
    have hH4 : H < w4.heap.size := (Array.getElem?_eq_some_iff.1 X4.out).1
    have HM4 := Lib.hid ((hb4.cell (p := ⟨0, 0, none⟩) (World.block_lt_of_cell? _ _ HM3.out)).trans HM3.out)
    clear hb4 HT2 X3 c20 c21 HM3
    by_cases hbig : (wrT x).length ≤ 65536
    · obtain ⟨y, j, hy, hoy, hpl⟩ := back_plain HOK.out hbig
      have hokY : okT y = true := (okT_alike hpl).trans HOK.out
      have hwY : wrT y = wrT x := wrT_alike hpl
      rw [← hzl] at hy
      have HY := Lib.hid hy; have HOY := Lib.hid hoy; have HPL := Lib.hid hpl; have HOKY := Lib.hid hokY; have HWY := Lib.hid hwY
      have hzb : z.size ≤ 65536 := by omega
      have hlY : lenT y ≤ 65536 := by rw [← len_ok hokY, hwY]; exact hbig
      clear hy hoy hpl hzl hbig hokY hwY
      have hgt : ¬ (65536 : Int) < (z.size : Int) := by omega
      go_upto_region 11 with (go_at_call 14; refine (ReadQ.text_any (by omega) HM4.out HY.out).mono ?_; rintro e wt ⟨da2, ra2, dc2, rc2, bk2, rfl, hL2, hnd2, hbt⟩; obtain ⟨k3, k4, _, q3, q4⟩ := tx_rows hL2; have R3 := Lib.hid q3.reads; have R4 := Lib.hid q4.reads; have HBT := Lib.hid hbt; have hts := hbt.size; clear hL2 q3 q4 hnd2 hbt)
      have HX2 := Lib.hid (WrL.boxes2 wt (.cells #[.slice da2 y.decls.length dc2, .slice ra2 y.rules.length rc2] 39 (0, 0)) (.cells #[.int .i64 0, .int .i64 0] 26 (0, 0)))
      generalize hW5 : (wt.alloc (.cells #[.slice da2 y.decls.length dc2, .slice ra2 y.rules.length rc2] 39 (0, 0))).alloc (.cells #[.int .i64 0, .int .i64 0] 26 (0, 0)) = W5 at *
      clear hW5
      obtain ⟨x0, x1, hbx, hsx2⟩ := HX2.out
      have HB5 := Lib.hid ((HB4.out.trans (HBT.out.mono hs4)).trans (hbx.mono (by omega)))
      have hs5 : H ≤ W5.heap.size := by have := HB5.out.size; have := HZ.out; omega
      have Q3 := Lib.hid (Reads.below hbx R3.out); have Q4 := Lib.hid (Reads.below hbx R4.out)
      have X5 := Lib.hid ((hbx.block H (by omega)).trans ((HBT.out.block H hH4).trans X4.out))
      have XA := Lib.hid x0; have XB := Lib.hid x1
      have hH2 : wt.heap.size + 1 < W5.heap.size := by omega
      have e0 : W5.cell? ⟨wt.heap.size, 0, none⟩ = some (.slice da2 y.decls.length dc2) := cell_of_row W5 _ 0 _ _ (0, 0) x0
      have e1 : W5.cell? ⟨wt.heap.size, 1, none⟩ = some (.slice ra2 y.rules.length rc2) := cell_of_row W5 _ 1 _ _ (0, 0) x0
      have HM5 := Lib.hid ((hbx.cell (p := ⟨0, 0, none⟩) (by have := World.block_lt_of_cell? _ _ HM4.out; omega)).trans ((HBT.out.cell (p := ⟨0, 0, none⟩) (World.block_lt_of_cell? _ _ HM4.out)).trans HM4.out))
      have hH5 : H < W5.heap.size := (Array.getElem?_eq_some_iff.1 X5.out).1
      clear HX2 x0 x1 hbx R3 R4 HBT X4 HM4 HY
      generalize wt.heap.size = H2 at *
      have htx : Calls Try.prog 23 #[.agg #[.slice da2 y.decls.length dc2, .slice ra2 y.rules.length rc2]] W5 fun e w' => e = .returned (.tuple #[.string z, .int .i64 0]) ∧ Below W5.heap.size W5 w' := by
        refine (WrN.text_any HM5.out Q3.out Q4.out HOY.out (by omega)).mono ?_
        rintro e w' ⟨hb, rfl⟩
        rw [HOKY.out, HWY.out, HZZ.out]
        exact ⟨rfl, hb⟩
      have HT3 := Lib.hid htx; clear htx
      go_upto_region 12 with (go_at_call 23; refine (HT3.out).mono ?_; rintro e w6 ⟨rfl, hb6⟩)
      have HB6 := Lib.hid (HB5.out.trans (hb6.mono hs5))
      have hbz6 : Below w.heap.size w w6 := by rw [HZ.out]; exact HB6.out
      have Q2 := Lib.hid (Reads.below hbz6 HD.out); have Q5 := Lib.hid (Reads.below hbz6 HR.out)
      have Q6 := Lib.hid (Reads.below hb6 Q3.out); have Q7 := Lib.hid (Reads.below hb6 Q4.out)
      have xH := (hb6.block H hH5).trans X5.out
      have xA := (hb6.block H2 (by omega)).trans XA.out
      have xB := (hb6.block (H2 + 1) hH2).trans XB.out
      clear hb6 HT3 e0 e1 XA XB X5 Q3 Q4 hbz6
      have c0' : w6.cell? ⟨H, 0, none⟩ = some (.slice a0 x.decls.length c0) := cell_of_row w6 _ 0 _ _ (0, 0) xH
      have c1' : w6.cell? ⟨H, 1, none⟩ = some (.slice a1 x.rules.length c1) := cell_of_row w6 _ 1 _ _ (0, 0) xH
      have d0 : w6.cell? ⟨H2, 0, none⟩ = some (.slice da2 y.decls.length dc2) := cell_of_row w6 _ 0 _ _ (0, 0) xA
      have d1 : w6.cell? ⟨H2, 1, none⟩ = some (.slice ra2 y.rules.length rc2) := cell_of_row w6 _ 1 _ _ (0, 0) xA
      have f0 : w6.cell? ⟨H2 + 1, 0, none⟩ = some (.int .i64 0) := cell_of_row w6 _ 0 _ _ (0, 0) xB
      have zeq := beq_len z
      clear xH xA xB
      refine wp_region_mixI (l1 := [_, _, _, _, _, _, _, _, _, _, _, _, _, _, _, _, _, _, _]) (l2 := [_]) [(0, true), (1, true), (2, true), (3, true), (4, true), (5, true), (6, true), (7, true), (8, true), (9, true), (10, true), (11, true), (12, true), (13, true), (15, true), (14, false), (16, false), (17, false), (18, true)] (fun u => u.cell? ⟨H2 + 1, 0, none⟩ = some (.int .i64 0) ∧ u.cell? ⟨H, 0, none⟩ = some (.slice a0 x.decls.length c0) ∧ u.cell? ⟨H, 1, none⟩ = some (.slice a1 x.rules.length c1) ∧ u.cell? ⟨H2, 0, none⟩ = some (.slice da2 y.decls.length dc2) ∧ u.cell? ⟨H2, 1, none⟩ = some (.slice ra2 y.rules.length rc2)) (by kernel_rfl) (by kernel_rfl) (by repeat (first | refine loose_then ?_ | refine loose_block ?_ | exact loose_body (P := Try.prog) (fn := Try.f7))) ⟨f0, c0', c1', d0, d1⟩ ?_
      refine mixI_take (.pointer (some ⟨H2 + 1, 0, none⟩)) rfl rfl (fun u hu => by go_simp) ?_
      refine mixI_take (.int .i64 0) rfl rfl (fun u hu => by obtain ⟨h1, h2, h3, h4, h5⟩ := hu; go_simp) ?_
      refine mixI_take (.bool true) rfl rfl (fun u hu => by go_simp) ?_
      refine mixI_take (.bool true) rfl rfl (fun u hu => by go_simp) ?_
      refine mixI_take (.int .i64 0) rfl (wanted_at (g := 3) (b := true) (t := 45) rfl rfl (by (repeat refine put_far (by decide) ?_); refine put_here rfl ?_; (repeat refine put_size ?_); exact of_decide_eq_true rfl)) (fun u hu => by go_simp) ?_
      refine mixI_take (.bool true) rfl (wanted_at (g := 3) (b := true) (t := 45) rfl rfl (by (repeat refine put_far (by decide) ?_); refine put_here rfl ?_; (repeat refine put_size ?_); exact of_decide_eq_true rfl)) (fun u hu => by go_simp) ?_
      refine mixI_take (.bool true) rfl rfl (fun u hu => by go_simp) ?_
      refine mixI_take (.bool true) rfl rfl (fun u hu => by go_simp) ?_
      refine mixI_take (.string z) rfl (wanted_at (g := 7) (b := true) (t := 49) rfl rfl (by (repeat refine put_far (by decide) ?_); refine put_here rfl ?_; (repeat refine put_size ?_); exact of_decide_eq_true rfl)) (fun u hu => by go_simp) ?_
      refine mixI_take (.string z) rfl (wanted_at (g := 7) (b := true) (t := 49) rfl rfl (by (repeat refine put_far (by decide) ?_); refine put_here rfl ?_; (repeat refine put_size ?_); exact of_decide_eq_true rfl)) (fun u hu => by go_simp) ?_
      refine mixI_take (.bool true) rfl (wanted_at (g := 7) (b := true) (t := 49) rfl rfl (by (repeat refine put_far (by decide) ?_); refine put_here rfl ?_; (repeat refine put_size ?_); exact of_decide_eq_true rfl)) (fun u hu => by go_simp) ?_
      refine mixI_take (.bool true) rfl rfl (fun u hu => by go_simp) ?_
      refine mixI_take (.bool true) rfl rfl (fun u hu => by go_simp) ?_
      refine mixI_take (.agg #[.slice a0 x.decls.length c0, .slice a1 x.rules.length c1]) rfl (wanted_at (g := 12) (b := true) (t := 54) rfl rfl (by (repeat refine put_far (by decide) ?_); refine put_here rfl ?_; (repeat refine put_size ?_); exact of_decide_eq_true rfl)) (fun u hu => by obtain ⟨h1, h2, h3, h4, h5⟩ := hu; go_simp) ?_
      refine mixI_take (.agg #[.slice da2 y.decls.length dc2, .slice ra2 y.rules.length rc2]) rfl (wanted_at (g := 12) (b := true) (t := 54) rfl rfl (by (repeat refine put_far (by decide) ?_); refine put_here rfl ?_; (repeat refine put_size ?_); exact of_decide_eq_true rfl)) (fun u hu => by obtain ⟨h1, h2, h3, h4, h5⟩ := hu; go_simp) ?_
      have hbd : Below w6.heap.size w6 w6.drew := (Below.refl _ _).drew
      refine mixI_go rfl (wanted_at (g := 12) (b := true) (t := 54) rfl rfl (by (repeat refine put_far (by decide) ?_); refine put_here rfl ?_; (repeat refine put_size ?_); exact of_decide_eq_true rfl)) fun K5 hK5 => wp_go (f := 24) (args := #[.agg #[.slice a0 x.decls.length c0, .slice a1 x.rules.length c1]]) (by go_simp) ((plain_tx (w := w6.drew) HOX.out rfl (Reads.below hbd Q2.out) (Reads.below hbd Q5.out)).mono ?_)
      rintro e w7 ⟨p0, q0, p1, q1, rfl, P0, P1, hb7'⟩
      have hb7 : Below w6.heap.size w6 w7 := hbd.trans hb7'
      refine hK5.out _ _ ⟨(hb7.cell (World.block_lt_of_cell? _ _ f0)).trans f0, (hb7.cell (World.block_lt_of_cell? _ _ c0')).trans c0', (hb7.cell (World.block_lt_of_cell? _ _ c1')).trans c1', (hb7.cell (World.block_lt_of_cell? _ _ d0)).trans d0, (hb7.cell (World.block_lt_of_cell? _ _ d1)).trans d1⟩ ?_
      refine mixI_go rfl (wanted_at (g := 12) (b := true) (t := 54) rfl rfl (by (repeat refine put_far (by decide) ?_); refine put_here rfl ?_; (repeat refine put_size ?_); exact of_decide_eq_true rfl)) fun K7 hK7 => wp_go (f := 24) (args := #[.agg #[.slice da2 y.decls.length dc2, .slice ra2 y.rules.length rc2]]) (by go_simp) ((plain_tx (w := w7) HOY.out HPL.out (Reads.below hb7 Q6.out) (Reads.below hb7 Q7.out)).mono ?_)
      rintro e w8 ⟨p2, q2, p3, q3, rfl, P2, P3, hb8'⟩
      have hb8 : Below w6.heap.size w6 w8 := hb7.trans (hb8'.mono hb7.size)
      refine hK7.out _ _ ⟨(hb8.cell (World.block_lt_of_cell? _ _ f0)).trans f0, (hb8.cell (World.block_lt_of_cell? _ _ c0')).trans c0', (hb8.cell (World.block_lt_of_cell? _ _ c1')).trans c1', (hb8.cell (World.block_lt_of_cell? _ _ d0)).trans d0, (hb8.cell (World.block_lt_of_cell? _ _ d1)).trans d1⟩ ?_
      refine mixI_go rfl (wanted_at (g := 12) (b := true) (t := 54) rfl rfl (by (repeat refine put_far (by decide) ?_); refine put_here rfl ?_; (repeat refine put_size ?_); exact of_decide_eq_true rfl)) fun K8 hK8 => wp_go (f := 17) (args := #[.agg #[.slice p0 (plainT x).decls.length q0, .slice p1 (plainT x).rules.length q1], .agg #[.slice p2 (plainT x).decls.length q2, .slice p3 (plainT x).rules.length q3]]) (by go_simp) ((same_source (x := plainT x) (w := w8) (Reads.below hb8' P0) P2 (Reads.below hb8' P1) P3).mono ?_)
      rintro e w9 ⟨rfl, hb9'⟩
      have hb9 : Below w6.heap.size w6 w9 := hb8.trans (hb9'.mono hb8.size)
      refine hK8.out _ _ ⟨(hb9.cell (World.block_lt_of_cell? _ _ f0)).trans f0, (hb9.cell (World.block_lt_of_cell? _ _ c0')).trans c0', (hb9.cell (World.block_lt_of_cell? _ _ c1')).trans c1', (hb9.cell (World.block_lt_of_cell? _ _ d0)).trans d0, (hb9.cell (World.block_lt_of_cell? _ _ d1)).trans d1⟩ ?_
      refine mixI_take (.bool true) rfl rfl (fun u hu => by go_simp) ?_
      show wpList _ _ _ _ _ _
      clear hK5 hK7 hK8
      go_wp2_with fail
      go_ret
      exact ⟨rfl, by rw [HZ.out]; exact HB6.out.trans (hb9.mono (by have := HB6.out.size; have := HZ.out; omega))⟩
    · have hzb : (65536 : Int) < (z.size : Int) := by omega
      have hzz : z.size ≤ 200003 := by omega
      have HY := Lib.hid (show SaysR z.data.toList (.bad 3 0) from .bad (by unfold toks; rw [if_pos (by rw [hzl]; omega)]))
      clear hzl hbig
      go_wp2_with (go_at_call 14; refine (ReadQ.text_any (by omega) HM4.out HY.out).mono ?_; rintro e wt ⟨rfl, hbt⟩)
      go_ret
      have hb5 := HB4.out.trans (hbt.mono hs4)
      exact ⟨rfl, by rw [HZ.out]; exact (hb5.alloc (by have := hb5.size; have := HZ.out; omega) _).alloc (by have := hb5.size; have := HZ.out; simp; omega) _⟩
  · have htx : Calls Try.prog 23 #[.agg #[.slice a0 x.decls.length c0, .slice a1 x.rules.length c1]] w3 fun e w' => e = .returned (.tuple #[.string { data := #[] }, .int .i64 4]) ∧ Below w3.heap.size w3 w' := by
      refine (HTX.out).mono ?_
      rintro e w' ⟨hb, rfl⟩
      rw [if_neg hokT, if_neg hokT]
      exact ⟨rfl, hb⟩
    have HT2 := Lib.hid htx
    clear htx HTX hokT
    go_wp2_with (go_at_call 23; refine (HT2.out).mono ?_; rintro e w4 ⟨rfl, hb4⟩)
    go_ret
    exact ⟨rfl, by rw [HZ.out]; exact HB3.out.trans (hb4.mono (by omega))⟩
end Go.Proofs.Ytelpkldlkpoioaa.Law12C
