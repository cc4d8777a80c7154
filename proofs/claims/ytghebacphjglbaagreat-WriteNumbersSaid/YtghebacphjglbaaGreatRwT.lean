/- The law WriteTells: of any text. -/
import Derived.Test.YtghebacphjglbaaGreatRwI
import Derived.Test.YtghebacphjglbaaGreatM10
import Derived.Test.YtghebacphjglbaaGreatLaw12A
import Derived.Test.YtghebacphjglbaaGreatM15
namespace Go.Proofs.YtghebacphjglbaaGreat.RwT
open Go.RowKit Go.Proofs.YtghebacphjglbaaGreat.Lexy Go.Proofs.YtghebacphjglbaaGreat.LexA Go.Proofs.YtghebacphjglbaaGreat.LexB Go.Proofs.YtghebacphjglbaaGreat.LexC Go.Proofs.YtghebacphjglbaaGreat.LexD Go.Proofs.YtghebacphjglbaaGreat.LexE Go.Proofs.YtghebacphjglbaaGreat.LexF Go.Proofs.YtghebacphjglbaaGreat.LexG Go.Proofs.YtghebacphjglbaaGreat.Heap Go.Proofs.YtghebacphjglbaaGreat.Dat Go.Proofs.YtghebacphjglbaaGreat.Ready Go.Proofs.YtghebacphjglbaaGreat.ReadA Go.Proofs.YtghebacphjglbaaGreat.ReadC Go.Proofs.YtghebacphjglbaaGreat.ReadI Go.Proofs.YtghebacphjglbaaGreat.ReadM Go.Proofs.YtghebacphjglbaaGreat.ReadO Go.Proofs.YtghebacphjglbaaGreat.Same Go.Proofs.YtghebacphjglbaaGreat.WrE Go.Proofs.YtghebacphjglbaaGreat.WrO Go.Proofs.YtghebacphjglbaaGreat.WrK Go.Proofs.YtghebacphjglbaaGreat.WgB Go.Proofs.YtghebacphjglbaaGreat.LentK

/-- a little text's actions are little -/
theorem small_act {x : Tx} (h : WrT.gT x ≤ 2000) : ∀ r ∈ x.rules, ∀ a ∈ r.alts, a.action.length ≤ 1000000 := fun r hr a ha => by
  unfold WrT.gT at h
  have h1 := WrT.sumF_mem WrT.gR hr
  have e : WrT.gR r = r.params.length + r.alts.length + r.name.length / 20 + WrT.gNs r.params + WrT.sumF WrT.gA r.alts := rfl
  have h2 := WrT.sumF_mem WrT.gA ha
  have e2 : WrT.gA a = a.words.length + a.action.length / 50 + a.prec.length / 20 + WrT.sumF (fun w => szW w + WrT.nmW w) a.words := rfl
  omega
set_option maxRecDepth 100000 in
set_option maxHeartbeats 8000000 in
theorem tells_any {x : Tx} {w : World} {m : Int} {sd sr : Value} (hm : w.cell? ⟨0, 0, none⟩ = some (.int .i64 m)) (hb : bigT x) (hD : Reads w (.row 62 4 x.decls.length (desD x.decls)) sd) (hR : Reads w (.row 38 4 x.rules.length (rusD x.rules)) sr) :
    Calls Tryz.prog 5 #[.agg #[sd, sr]] w fun e w' => e = .returned (.bool true) ∧ Below w.heap.size w w' := by
  have hml := World.block_lt_of_cell? _ _ hm
  obtain ⟨a0, c0, rfl⟩ := Reads.slice hD
  obtain ⟨a1, c1, rfl⟩ := Reads.slice hR
  have HX := Lib.hid (box1 w (.cells #[.slice a0 x.decls.length c0, .slice a1 x.rules.length c1] 28 (0, 0)))
  have HD := Lib.hid hD; have HR := Lib.hid hR; have HBG := Lib.hid hb; have HM := Lib.hid hm
  clear hD hR hb hm
  go_enter Tryz.func5, Tryz.ntmps5
  go_upto_region 1 with fail
  generalize hw1 : w.alloc (.cells #[.slice a0 x.decls.length c0, .slice a1 x.rules.length c1] 28 (0, 0)) = w1 at *
  clear hw1
  obtain ⟨x1, hbx, hsx⟩ := HX.out
  have HB1 := Lib.hid hbx
  have X1 := Lib.hid x1
  have HGR := Lib.hid (great_any (Reads.below hbx HD.out) (Reads.below hbx HR.out) HBG.out)
  have HMX := Lib.hid (fun (u : World) (hu : Below w.heap.size w u) => ((hu.cell (p := ⟨0, 0, none⟩) hml).trans HM.out : u.cell? ⟨0, 0, none⟩ = some (.int .i64 m)))
  have HRD := Lib.hid (fun (u : World) (hu : Below w.heap.size w u) => And.intro (Reads.below hu HD.out) (Reads.below hu HR.out))
  have c10 : w1.cell? ⟨w.heap.size, 0, none⟩ = some (.slice a0 x.decls.length c0) := cell_of_row w1 _ 0 _ _ (0, 0) x1
  have c11 : w1.cell? ⟨w.heap.size, 1, none⟩ = some (.slice a1 x.rules.length c1) := cell_of_row w1 _ 1 _ _ (0, 0) x1
  clear HX x1 hbx HM HD HR hml
  generalize hH : w.heap.size = H at *
  have HZ := Lib.hid hH; clear hH
  go_upto_region 3 with (first
    | (go_at_call 15; go_must (refine (HGR.out).mono ?_; rintro e w2 hgq; obtain ⟨bb, hsm, hb2⟩ := hgq; have HB2 := Lib.hid (HB1.out.trans (hb2.mono (by omega))); cases bb))
    | (go_at_call 8; go_must (refine (Law12A.awake_any (HMX.out _ HB2.out)).mono ?_; rintro e w3 ⟨rfl, hb3⟩)))
  rotate_left
  · go_ret
    exact ⟨rfl, by rw [HZ.out]; exact HB2.out.trans (hb3.mono (by have := HB2.out.size; have := HZ.out; omega))⟩
  have hsml := hsm trivial
  have HOK := Lib.hid (WrT.small_ok hsml); have HLN := Lib.hid (WrT.small_len hsml); have HAC := Lib.hid (small_act hsml)
  have X2 := Lib.hid ((hb2.block H (by omega)).trans X1.out)
  clear hsml hsm c10 c11 HGR X1 HB1 hsx hb2
  have c20 : w2.cell? ⟨H, 0, none⟩ = some (.slice a0 x.decls.length c0) := cell_of_row w2 _ 0 _ _ (0, 0) X2.out
  have c21 : w2.cell? ⟨H, 1, none⟩ = some (.slice a1 x.rules.length c1) := cell_of_row w2 _ 1 _ _ (0, 0) X2.out
  have HL := Lib.hid (SrcA.lent_Text (HRD.out w2 HB2.out).1 (HRD.out w2 HB2.out).2 HOK.out)
  have hs2 : H ≤ w2.heap.size := by have := HB2.out.size; have := HZ.out; omega
  -- lent
  go_upto_region 4 with (go_at_call 16; go_must (refine (HL.out).mono ?_; rintro e w3 ⟨g0, g1, rfl, hv0, hv1, hb3⟩; have HV0 := Lib.hid hv0; have HV1 := Lib.hid hv1; have HB3 := Lib.hid hb3; clear hv0 hv1 hb3))
  have HX4 := Lib.hid (box1 w3 (.cells #[.slice (some ⟨g0, 0, none⟩) x.decls.length (x.decls.length + 12), .slice (some ⟨g1, 0, none⟩) x.rules.length (x.rules.length + 12)] 28 (0, 0)))
  generalize hw4 : w3.alloc (.cells #[.slice (some ⟨g0, 0, none⟩) x.decls.length (x.decls.length + 12), .slice (some ⟨g1, 0, none⟩) x.rules.length (x.rules.length + 12)] 28 (0, 0)) = w4 at *
  clear hw4
  obtain ⟨x4, hb4, hs4⟩ := HX4.out
  have hH2 : H < w2.heap.size := (Array.getElem?_eq_some_iff.1 X2.out).1
  have hs3 := HB3.out.size
  have HB4 := Lib.hid (HB2.out.trans ((HB3.out.trans (hb4.mono hs3)).mono hs2))
  have X4 := Lib.hid (((HB3.out.trans (hb4.mono hs3)).block H hH2).trans X2.out)
  have Y4 := Lib.hid x4
  have HU0 := Lib.hid (LentD.below HV0.out hb4); have HU1 := Lib.hid (LentD.below HV1.out hb4)
  clear HX4 hb4 HV0 HV1 HB3 HB2 X2 c20 c21 HL x4
  generalize hG : w3.heap.size = G at *
  have HG := Lib.hid hG; clear hG
  have hG4 : G < w4.heap.size := by omega
  have hHG : H < G := by omega
  have d0 : w4.cell? ⟨G, 0, none⟩ = some (.slice (some ⟨g0, 0, none⟩) x.decls.length (x.decls.length + 12)) := cell_of_row w4 _ 0 _ _ (0, 0) Y4.out
  have d1 : w4.cell? ⟨G, 1, none⟩ = some (.slice (some ⟨g1, 0, none⟩) x.rules.length (x.rules.length + 12)) := cell_of_row w4 _ 1 _ _ (0, 0) Y4.out
  have HT := Lib.hid (WrN.text_any (x := x) (HMX.out w4 HB4.out) HU0.out.reads HU1.out.reads HOK.out (by have := HLN.out; omega))
  go_upto_region 5 with (go_at_call 17; go_must (refine (HT.out).mono ?_; rintro e w5 ⟨hb5, rfl⟩; have HB5 := Lib.hid hb5; clear hb5))
  have hs5 := HB5.out.size
  have HB6 := Lib.hid (HB4.out.trans (HB5.out.mono (by omega)))
  have X5 := Lib.hid ((HB5.out.block H (by omega)).trans X4.out)
  have Y5 := Lib.hid ((HB5.out.block G hG4).trans Y4.out)
  have HU2 := Lib.hid (LentD.below HU0.out HB5.out); have HU3 := Lib.hid (LentD.below HU1.out HB5.out)
  clear d0 d1 HT X4 Y4 HU0 HU1 HB4
  have e0 : w5.cell? ⟨H, 0, none⟩ = some (.slice a0 x.decls.length c0) := cell_of_row w5 _ 0 _ _ (0, 0) X5.out
  have e1 : w5.cell? ⟨H, 1, none⟩ = some (.slice a1 x.rules.length c1) := cell_of_row w5 _ 1 _ _ (0, 0) X5.out
  have HT2 := Lib.hid (RwI.text_ref (HRD.out w5 HB6.out).1 (HRD.out w5 HB6.out).2 HBG.out HAC.out (by have := HLN.out; omega))
  go_upto_region 6 with (go_at_call 18; go_must (refine (HT2.out).mono ?_; rintro e w6 ⟨hb6, rfl⟩; have HB7 := Lib.hid hb6; clear hb6))
  have hs6 := HB7.out.size
  have HB8 := Lib.hid (HB6.out.trans (HB7.out.mono (by omega)))
  have X6 := Lib.hid ((HB7.out.block H (by omega)).trans X5.out)
  have Y6 := Lib.hid ((HB7.out.block G (by omega)).trans Y5.out)
  have HU4 := Lib.hid (LentD.below HU2.out HB7.out); have HU5 := Lib.hid (LentD.below HU3.out HB7.out)
  clear e0 e1 HT2 X5 Y5 HU2 HU3 HB6
  have f0 : w6.cell? ⟨H, 0, none⟩ = some (.slice a0 x.decls.length c0) := cell_of_row w6 _ 0 _ _ (0, 0) X6.out
  have f1 : w6.cell? ⟨H, 1, none⟩ = some (.slice a1 x.rules.length c1) := cell_of_row w6 _ 1 _ _ (0, 0) X6.out
  have k0 : w6.cell? ⟨G, 0, none⟩ = some (.slice (some ⟨g0, 0, none⟩) x.decls.length (x.decls.length + 12)) := cell_of_row w6 _ 0 _ _ (0, 0) Y6.out
  have k1 : w6.cell? ⟨G, 1, none⟩ = some (.slice (some ⟨g1, 0, none⟩) x.rules.length (x.rules.length + 12)) := cell_of_row w6 _ 1 _ _ (0, 0) Y6.out
  have HKS := Lib.hid (SrcF.kept_Text (y := x) HU4.out (HRD.out w6 HB8.out).1 HU5.out (HRD.out w6 HB8.out).2 HOK.out)
  generalize (if okT x = true then bs (wrT x) else { data := #[] }) = zo at *
  generalize (if okT x = true then (0 : Int) else 4) = zi at *
  have q1 : (zo.toList == zo.toList) = true := beq_self_eq_true _
  have q2 : (zi == zi) = true := beq_self_eq_true _
  go_wp2_with (first
    | (go_at_call 19; go_must (refine (HKS.out).mono ?_; rintro e w7 ⟨rfl, hb7⟩; have HB9 := Lib.hid (HB8.out.trans (hb7.mono (by omega))); clear hb7))
    | (go_at_call 8; go_must (refine (Law12A.awake_any (HMX.out _ HB9.out)).mono ?_; rintro e w8 ⟨rfl, hb8⟩)))
  go_ret
  exact ⟨rfl, by rw [HZ.out]; exact HB9.out.trans (hb8.mono (by have := HB9.out.size; have := HZ.out; omega))⟩
end Go.Proofs.YtghebacphjglbaaGreat.RwT
