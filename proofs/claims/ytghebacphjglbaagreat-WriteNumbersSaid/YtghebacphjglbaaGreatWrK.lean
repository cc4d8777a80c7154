/- The writer of grammars' texts: alternatives, walked. -/
import Derived.Test.YtghebacphjglbaaGreatWrJ
namespace Go.Proofs.YtghebacphjglbaaGreat.WrK
open Go.RowKit Go.Proofs.YtghebacphjglbaaGreat.Lexy Go.Proofs.YtghebacphjglbaaGreat.LexA Go.Proofs.YtghebacphjglbaaGreat.LexB Go.Proofs.YtghebacphjglbaaGreat.LexC Go.Proofs.YtghebacphjglbaaGreat.LexD Go.Proofs.YtghebacphjglbaaGreat.LexE Go.Proofs.YtghebacphjglbaaGreat.LexF Go.Proofs.YtghebacphjglbaaGreat.LexG Go.Proofs.YtghebacphjglbaaGreat.Heap Go.Proofs.YtghebacphjglbaaGreat.Dat Go.Proofs.YtghebacphjglbaaGreat.Ready Go.Proofs.YtghebacphjglbaaGreat.ReadA Go.Proofs.YtghebacphjglbaaGreat.ReadC Go.Proofs.YtghebacphjglbaaGreat.ReadI Go.Proofs.YtghebacphjglbaaGreat.Same Go.Proofs.YtghebacphjglbaaGreat.WrB Go.Proofs.YtghebacphjglbaaGreat.WrD Go.Proofs.YtghebacphjglbaaGreat.WrE Go.Proofs.YtghebacphjglbaaGreat.WrF Go.Proofs.YtghebacphjglbaaGreat.WrG Go.Proofs.YtghebacphjglbaaGreat.WrH Go.Proofs.YtghebacphjglbaaGreat.WrI Go.Proofs.YtghebacphjglbaaGreat.WrJ

/-- one thing boxed -/
theorem box1 (w : World) (o1 : Obj) : (w.alloc o1).heap[w.heap.size]? = some o1 ∧ Below w.heap.size w (w.alloc o1) ∧ (w.alloc o1).heap.size = w.heap.size + 1 :=
  ⟨heap_alloc_new w o1, (Below.refl _ _).alloc (Nat.le_refl _) _, by simp⟩
theorem Wrote.onto {B b : Nat} {w wa w' : World} {l la p add : List UInt8} {ok : Bool} {e : Ending} (hk : Kb B b w wa) (hl : la = l ++ p) (h : Wrote B b wa la ok add e w') : Wrote B b w l ok (p ++ add) e w' := by
  subst hl
  refine ⟨hk.trans h.1, h.2.imp (fun h => ⟨h.1, h.2.1, ?_⟩) id⟩
  rw [← List.append_assoc]; exact h.2.2
set_option maxRecDepth 100000 in
set_option maxHeartbeats 8000000 in
theorem alt_any {W0 : World} {x : Al} {b : Nat} {m : Int} {l : List UInt8} {w : World} {s : Value} (hI : IsW W0.heap.size b l w) (hE : Env W0.heap.size m w) (hW : Below W0.heap.size W0 w) (hR : Reads W0 (.row 33 3 x.words.length (wdsD x.words)) s) (hlen : l.length + (wrA x).length ≤ 140737488351232) (hok : AlOk x) :
    Calls Tryz.prog 52 #[.pointer (some ⟨b, 0, none⟩), .agg #[s, .string (bs x.prec), .bool x.has, .string (bs x.action), .int .i64 x.whr, .int .i64 x.at_]] w (Wrote W0.heap.size b w l (okA x) (wrA x)) := by
  obtain ⟨ws, prec, has, act, whr, at_⟩ := x
  obtain ⟨hn, hwd⟩ := hok
  simp only at hR hn hwd ⊢
  unfold wrA at hlen ⊢
  unfold okA
  simp only [List.length_append, List.length_singleton] at hlen ⊢
  obtain ⟨a0, c, rfl⟩ := Reads.slice hR
  have hbl := hI.lt
  have hsz := hW.size
  have HX := Lib.hid (box1 w (.cells #[.slice a0 ws.length c, .string (bs prec), .bool has, .string (bs act), .int .i64 whr, .int .i64 at_] 35 (0, 0)))
  -- the parts' contracts
  have hwd1 : ∀ (k : Nat) (hk : k < ws.length) (u : World) (l' n : List UInt8) (ys : List Wd) (z : Int) (a1 : Option Addr) (c1 : Nat), ws[k] = .mk n ys z → IsW W0.heap.size b l' u → Env W0.heap.size m u → Below W0.heap.size W0 u → Reads W0 (.row 33 3 ys.length (wdsD ys)) (.slice a1 ys.length c1) → l'.length + (wrW ws[k]).length ≤ 140737488351232 →
      Calls Tryz.prog 70 #[.pointer (some ⟨b, 0, none⟩), .agg #[.string (bs n), .slice a1 ys.length c1, .int .i64 z], .int .i64 0] u (Wrote W0.heap.size b u l' (okW 0 ws[k]) (wrW ws[k])) := fun k hk u l' n ys z a1 c1 hy hi he hw hr hl =>
    word_any W0 ws[k] 0 b m l' u n ys z _ hy hi he hw hr hl (wdsOk_mem hwd _ (List.getElem_mem hk)) (by omega)
  have hpn : ∀ (u : World) (l' : List UInt8) (g : Nat), g = u.heap.size → IsW W0.heap.size b l' u → Env W0.heap.size m u → l'.length + (7 + prec.length) ≤ 140737488351232 → Calls Tryz.prog 49 #[.pointer (some ⟨b, 0, none⟩), .string { data := #[32, 37, 112, 114, 101, 99, 32] }, .slice (some ⟨g, 0, none⟩) 1 1] (u.alloc (.cells #[.string (bs prec)] 9)) (Wrote W0.heap.size b u l' (nameB prec) (32 :: 37 :: (precT ++ 32 :: prec))) := fun u l' g hg hu he hl => name1 (n := prec) (a := [32, 37, 112, 114, 101, 99, 32]) hg rfl rfl hu he (by simpa using hl)
  have hon : ∀ (u : World), Env W0.heap.size m u → act.length ≤ 140737488351230 → Calls Tryz.prog 71 #[.string (bs (123 :: (act ++ [125]))), .int .u8 9, .string (bs act)] u fun e w' => e = .returned (.bool (actB act)) ∧ Below u.heap.size u w' := fun u he hl => one_any (k := 9) (by simp; omega) he.cell rfl rfl
  have HWD := Lib.hid hwd1; have HPN := Lib.hid hpn; have HON := Lib.hid hon;
  have HI := Lib.hid hI; have HE := Lib.hid hE; have HW := Lib.hid hW; have HL := Lib.hid hlen; have HR := Lib.hid hR
  clear hI hE hW hR hlen hwd hwd1 hpn hon
  have hfl := fm_len (fun x : Wd => 32 :: wrW x) ws
  have HFL := Lib.hid hfl; clear hfl
  go_enter Tryz.func52, Tryz.ntmps52
  go_upto_region 1 with fail
  generalize hw1 : (w.alloc (.cells #[.slice a0 ws.length c, .string (bs prec), .bool has, .string (bs act), .int .i64 whr, .int .i64 at_] 35 (0, 0))) = w1 at *
  clear hw1
  obtain ⟨x1, hbx, hsx⟩ := HX.out
  have HI1 := Lib.hid (HI.out.new hbx)
  have HK1 := Lib.hid ((Kb.refl W0.heap.size b w).new hbx hsz)
  have X1 := Lib.hid x1
  generalize w.heap.size = H at *
  have y0 : w1.cell? ⟨H, 0, none⟩ = some (.slice a0 ws.length c) := cell_of_row w1 H 0 _ _ (0, 0) x1
  clear HX hbx x1
  go_wp2
  go_loopg [10] ws.length (fun gk i wr => ∃ (k : Nat), k ≤ ws.length ∧ gk = ws.length - k ∧ i = .int .i64 (k : Int) ∧ IsW W0.heap.size b (l ++ (ws.take k).flatMap (fun x => 32 :: wrW x)) wr ∧ Kb W0.heap.size b w1 wr ∧ (ws.take k).all (okW 0) = true)
  case atStart => exact ⟨0, by omega, by omega, rfl, by simpa using HI1.out, .refl _ _ _, by simp⟩
  case round =>
    clear HI1 y0
    obtain ⟨k, hk, rfl, rfl, hIr, hKr, hA⟩ := hrel
    have hKw := HK1.out.trans hKr
    have HWr := Lib.hid (HW.out.trans hKw.below)
    have HEr := Lib.hid (HE.out.kb hKw)
    have hszr := HWr.out.size
    by_cases hlt : k < ws.length
    · obtain ⟨g, o, rfl, r1⟩ := Reads.elems HR.out (by omega)
      obtain ⟨n1, ys, z1, hy⟩ : ∃ n1 ys z1, ws[k] = .mk n1 ys z1 := by cases ws[k]; exact ⟨_, _, _, rfl⟩
      obtain ⟨a1, c1, e0, e1, e2, hry⟩ := word_cells r1 hlt hy
      have hgl : g < W0.heap.size := World.block_lt_of_cell? _ _ e0
      have q0 := (HWr.out.cell (p := ⟨g, o + k * 3, none⟩) hgl).trans e0
      have q1 := (HWr.out.cell (p := ⟨g, o + k * 3 + 1, none⟩) hgl).trans e1
      have q2 := (HWr.out.cell (p := ⟨g, o + k * 3 + 2, none⟩) hgl).trans e2
      have hnx := fm_next (fun x : Wd => 32 :: wrW x) hlt
      have hle := HFL.out (k + 1)
      rw [hnx] at hle
      simp only [List.length_append, List.length_cons] at hle
      have hwc := fun (u : World) (l' : List UInt8) hi he hw hl => HWD.out k hlt u l' n1 ys z1 a1 c1 hy hi he hw hry hl
      have HV0 := Lib.hid (all_false (okW 0) hlt); have HV1 := Lib.hid (all_take (okW 0) hlt hA)
      have HN := Lib.hid hnx; have HWC := Lib.hid hwc
      clear hnx hwc hy hry r1 e0 e1 e2 hA
      have hl0 := HL.out
      unfold wrL at hl0
      generalize wrW ws[k] = wv at hle HN HWC
      generalize okW 0 ws[k] = okv at HV0 HV1 HWC
      have hle2 : l.length + (((ws.take k).flatMap (fun x => 32 :: wrW x)).length + (wv.length + 1)) ≤ 140737488351232 := by omega
      clear hle hl0
      have j0 : (0 : Int) ≤ (k : Int) := by omega
      have j1 : (k : Int) < (ws.length : Int) := by omega
      generalize bs n1 = zn1 at *
      have HIr := Lib.hid hIr; have HKr := Lib.hid hKr; have HKw := Lib.hid hKw; clear hIr hKr hKw
      go_upto_region 4 with fail
      have HX2 := Lib.hid (box1 wr (.cells #[.string zn1, .slice a1 ys.length c1, .int .i64 z1] 33 (0, 0)))
      generalize hw2 : wr.alloc (.cells #[.string zn1, .slice a1 ys.length c1, .int .i64 z1] 33 (0, 0)) = w2 at *
      clear hw2
      obtain ⟨v1, hb2, hs2⟩ := HX2.out
      have HI2 := Lib.hid (HIr.out.new hb2); have HE2 := Lib.hid (HEr.out.new hb2); have HK2 := Lib.hid ((Kb.refl W0.heap.size b wr).new hb2 hszr)
      have hbr := HIr.out.lt
      generalize wr.heap.size = G at *
      clear HX2 hb2
      go_upto_region 5 with (go_at_call 32; refine (put1 (w := w2) (s := [32]) (by omega) rfl HI2.out (by omega) (by simp only [List.length_append, List.length_singleton]; omega)).mono ?_; rintro e w3 ⟨rfl, hI3, hK3⟩)
      have v2 := hK3.heap v1 (by omega) (by decide)
      have HI3 := Lib.hid hI3
      have HK3 := Lib.hid (HK2.out.trans hK3)
      have HE3 := Lib.hid (HE2.out.kb hK3)
      have HW3 := Lib.hid (HWr.out.trans HK3.out.below)
      have v3 := cell_of_row w3 G 0 _ _ (0, 0) v2
      have v4 := cell_of_row w3 G 1 _ _ (0, 0) v2
      have v5 := cell_of_row w3 G 2 _ _ (0, 0) v2
      clear hI3 hK3 v1 v2 q0 q1 q2 HI2 HE2 HK2
      have HC := Lib.hid (HWC.out w3 _ HI3.out HE3.out HW3.out (by simp only [List.length_append, List.length_singleton]; omega))
      go_wp2_with (go_at_call 70; refine (HC.out).mono ?_; rintro e w4 ⟨hK4, hr⟩; rcases hr with ⟨rfl, rfl, hI4⟩ | ⟨rfl, rfl⟩)
      · have HI4 := Lib.hid hI4; have HK4 := Lib.hid hK4; clear hI4 hK4
        go_roundg (ws.length - (k + 1))
        case measure => omega
        case rel => exact ⟨k + 1, by omega, rfl, by go_num, by rw [HN.out]; have := HI4.out; simpa using this, (HKr.out.trans HK3.out).trans HK4.out, HV1.out trivial⟩
      · exact ⟨rfl, (HKw.out.trans HK3.out).trans hK4, .inr ⟨by rw [HV0.out trivial]; rfl, rfl⟩⟩
    · obtain rfl : k = ws.length := by omega
      rw [List.take_length] at hIr hA
      have hfl := HFL.out 0
      rw [hA, Bool.true_and]
      have hl0 := HL.out
      have X2 := Lib.hid (hKr.heap X1.out (by omega) (by decide))
      have HIr := Lib.hid (show IsW W0.heap.size b (l ++ wrL ws) wr from hIr); have HKw := Lib.hid hKw
      have HA := Lib.hid hA
      clear hIr hKr hA hKw HWD HFL hfl HR
      generalize wrL ws = wl at *
      have hlA : l.length + (wl.length + ((wrPrec prec).length + ((wrAct has act).length + 1))) ≤ 140737488351232 := by omega
      have HLA := Lib.hid hlA
      clear hl0 hlA HL
      generalize hokT : ((has || decide (act = [])) && (!has || actB act)) = okT at *
      generalize haddT : wrAct has act ++ [10] = addT at *
      have HOKT := Lib.hid hokT; have HADDT := Lib.hid haddT; clear hokT haddT
      generalize hF : (ws.all (okW 0) && ((decide (prec = []) || nameB prec) && okT)) = okF at *
      generalize hG : wl ++ (wrPrec prec ++ addT) = addF at *
      have HF := Lib.hid hF; have HG := Lib.hid hG; clear hF hG
      -- what stands behind the precedence
      by_cases hp : prec = []
      case' pos =>
        obtain ⟨wa, hwa⟩ : ∃ wa, wa = wr := ⟨_, rfl⟩
        subst hwa
        have HO := Lib.hid (show ∀ (e : Ending) (w' : World), Wrote W0.heap.size b wa (l ++ wl) okT addT e w' → Wrote W0.heap.size b w l okF addF e w' from fun e w' h => by
          rw [← HF.out, ← HG.out, HA.out, hp]
          exact Wrote.onto HKw.out rfl h)
        have HLB := Lib.hid (show (l ++ wl).length + ((wrAct has act).length + 1) ≤ 140737488351232 by have := HLA.out; simp only [List.length_append]; omega)
        have HIa := HIr; have HEa := HEr; have XA := X2; have hsa := hszr
        have tp : ((bs prec).toList == ([] : List UInt8)) = true := by rw [hp, bs_toList]; rfl
        have tp2 : ((bs prec).toList == ({ data := #[] } : ByteArray).toList) = true := by rw [hp]; exact (strs_eq [] []).trans rfl
        have c1 := cell_of_row wa H 1 _ _ (0, 0) X2.out
        generalize l ++ wl = la at *
        clear hp HIr HWr HEr X2 HKw HPN HA HLA hszr HF HG
        generalize bs prec = zp at *
        go_upto_region 9 with fail
        clear tp tp2 c1
      case' neg =>
        have tp : ((bs prec).toList == ([] : List UInt8)) = false := by rw [bs_toList]; exact beq_eq_false_iff_ne.2 hp
        have tp2 : ((bs prec).toList == ({ data := #[] } : ByteArray).toList) = false := (strs_eq prec []).trans (decide_eq_false hp)
        have HWP := Lib.hid (show wrPrec prec = 32 :: 37 :: (precT ++ 32 :: prec) by unfold wrPrec; rw [if_neg hp])
        have HO := Lib.hid (show ∀ (wa : World) (e : Ending) (w' : World), nameB prec = true → Kb W0.heap.size b wr wa → Wrote W0.heap.size b wa (l ++ wl ++ wrPrec prec) okT addT e w' → Wrote W0.heap.size b w l okF addF e w' from fun wa e w' hn hk h => by
          rw [← HF.out, ← HG.out, HA.out, decide_eq_false hp, hn, ← List.append_assoc]
          exact Wrote.onto (HKw.out.trans hk) (by rw [List.append_assoc]) h)
        have HOF := Lib.hid (show ∀ (w' : World), nameB prec = false → Kb W0.heap.size b wr w' → Wrote W0.heap.size b w l okF addF (.panicked wrongP) w' from fun w' hn hk =>
          ⟨HKw.out.trans hk, .inr ⟨by rw [← HF.out, HA.out, decide_eq_false hp, hn]; rfl, rfl⟩⟩)
        have HC := Lib.hid (HPN.out wr _ _ rfl HIr.out HEr.out (by have := HLA.out; rw [HWP.out] at this; simp only [List.length_append, List.length_cons, precT, List.length_nil] at this ⊢; omega))
        have HLB := Lib.hid (show (l ++ wl ++ wrPrec prec).length + ((wrAct has act).length + 1) ≤ 140737488351232 by have := HLA.out; simp only [List.length_append]; omega)
        have c1 := cell_of_row wr H 1 _ _ (0, 0) X2.out
        clear hp HPN HA HLA HF HG
        generalize bs prec = zp at *
        generalize hnv : nameB prec = nv at *
        clear hnv
        go_upto_region 9 with (go_at_call 49; refine (HC.out).mono ?_; rintro e wa ⟨hK5, hr⟩; rcases hr with ⟨rfl, rfl, hI5⟩ | ⟨rfl, rfl⟩)
        rotate_left
        · exact ⟨rfl, HOF.out _ trivial hK5⟩
        have XA := Lib.hid (hK5.heap X2.out (by omega) (by decide))
        have HEa := Lib.hid (HEr.out.kb hK5)
        have hsa := HEa.out.size
        have HO2 := Lib.hid fun e w' => HO.out wa e w' trivial hK5
        clear HO
        have HO := HO2
        have HIa := Lib.hid (show IsW W0.heap.size b (l ++ wl ++ wrPrec prec) wa by rw [HWP.out]; exact hI5)
        clear HO2 hI5 hK5 HIr HWr HEr X2 HKw HOF HC hszr HWP tp tp2 c1
        generalize l ++ wl ++ wrPrec prec = la at *
      all_goals
        have hba := HIa.out.lt
        have hHa := (Array.getElem?_eq_some_iff.1 XA.out).1
        have a2 := cell_of_row wa H 2 _ _ (0, 0) XA.out
        have a3 := cell_of_row wa H 3 _ _ (0, 0) XA.out
        cases has with
        | true =>
          have HT := Lib.hid (show okT = actB act by rw [← HOKT.out]; rfl)
          have HTA := Lib.hid (show addT = 32 :: (123 :: (act ++ [125])) ++ [10] by rw [← HADDT.out]; rfl)
          have hact : (wrAct true act).length = act.length + 3 := by simp [wrAct]
          have HLC := Lib.hid (show la.length + (act.length + 4) ≤ 140737488351232 by have := HLB.out; omega)
          have HX1 := Lib.hid (box1 wa (.cells #[.bool true] 4 (0, 0)))
          clear HOKT HADDT HLB
          go_upto_region 10 with (go_at_call 48; refine (must_t (w := wa) (by omega)).mono ?_; rintro e w2 ⟨rfl, rfl⟩)
          generalize hw2 : wa.alloc (.cells #[.bool true] 4 (0, 0)) = w2 at *
          clear hw2
          obtain ⟨x2, hb2, hs2⟩ := HX1.out
          have XB := Lib.hid ((hb2.block H hHa).trans XA.out)
          have HIb := Lib.hid (HIa.out.new hb2)
          have HEb := Lib.hid (HEa.out.new hb2)
          have HKb := Lib.hid ((Kb.refl W0.heap.size b wa).new hb2 hsa)
          have HON2 := Lib.hid (HON.out w2 HEb.out (by have := HLC.out; omega))
          have hcat1 : ({ data := #[123] } : ByteArray) ++ bs act = bs (123 :: act) := by apply ByteArray.ext; simp [bs]
          have hcat2 : bs (123 :: act) ++ ({ data := #[125] } : ByteArray) = bs (123 :: (act ++ [125])) := by apply ByteArray.ext; simp [bs]
          have hsz1 : (bs act).size = act.length := by simp [bs, ByteArray.size]
          have hsz2 : (bs (123 :: act)).size = act.length + 1 := by simp [bs, ByteArray.size]
          have hla1 := HLC.out
          have b2 := cell_of_row w2 H 2 _ _ (0, 0) XB.out
          have b3 := cell_of_row w2 H 3 _ _ (0, 0) XB.out
          have hsb : W0.heap.size ≤ w2.heap.size := by omega
          clear HX1 x2 hb2 XA XB HIa HEa HON a2 a3
          generalize hzb : bs (123 :: (act ++ [125])) = zb at *
          have HZB := Lib.hid hzb.symm
          clear hzb
          generalize bs (123 :: act) = zc at *
          generalize bs act = za at *
          go_upto_region 12 with fail
          clear hcat1 hcat2 hsz1 hsz2 b2
          generalize actB act = av at *
          cases av with
          | true =>
            go_upto_region 13 with (first | (go_at_call 71; refine (HON2.out).mono ?_; rintro e w3 ⟨rfl, hb3⟩; have hz3 := hb3.size) | (go_at_call 48; refine (must_t (w := w3) (by omega)).mono ?_; rintro e w4 ⟨rfl, rfl⟩))
            have HI4 := Lib.hid ((HIb.out.new hb3).new ((Below.refl _ w3).alloc (Nat.le_refl _) (.cells #[.bool true] 4 (0, 0))))
            have HK4 := Lib.hid (kb_alloc (HKb.out.new hb3 hsb) (by omega) (.cells #[.bool true] 4 (0, 0)))
            have hs4 : W0.heap.size ≤ (w3.alloc (.cells #[.bool true] 4 (0, 0))).heap.size := by simp; omega
            clear HIb HKb HON2 hb3 b3 hz3
            generalize w3.alloc (.cells #[.bool true] 4 (0, 0)) = w4 at *
            go_upto_region 14 with (go_at_call 32; refine (put2 (w := w4) (s := [32]) (t := 123 :: (act ++ [125])) (by omega) rfl HZB.out HI4.out hs4 (by simp only [List.length_append, List.length_cons, List.length_nil]; omega)).mono ?_; rintro e w5 ⟨rfl, hI5, hK5⟩; have hs5 := hK5.size)
            have HI5 := Lib.hid hI5; have HK5 := Lib.hid (HK4.out.trans hK5); clear hI5 hK5 HI4 HK4
            go_wp2_with (go_at_call 32; refine (put1 (w := w5) (s := [10]) (by omega) rfl HI5.out (by omega) (by simp only [List.length_append, List.length_cons, List.length_nil]; omega)).mono ?_; rintro e w6 ⟨rfl, hI6, hK6⟩)
            go_end0
            exact HO.out _ _ ⟨HK5.out.trans hK6, .inl ⟨HT.out, rfl, by rw [HTA.out]; have := hI6; simpa using this⟩⟩
          | false =>
            go_wp2_with (first | (go_at_call 71; refine (HON2.out).mono ?_; rintro e w3 ⟨rfl, hb3⟩; have hz3 := hb3.size) | (go_at_call 48; refine (must_f (w := w3) (by omega)).mono ?_; rintro e w4 ⟨rfl, rfl⟩))
            exact ⟨rfl, HO.out _ _ ⟨kb_alloc (HKb.out.new hb3 hsb) (by omega) _, .inr ⟨HT.out, rfl⟩⟩⟩
        | false =>
          have HT := Lib.hid (show okT = decide (act = []) by rw [← HOKT.out]; simp)
          have HTA := Lib.hid (show addT = [10] by rw [← HADDT.out]; rfl)
          have HLC := Lib.hid (show la.length + 1 ≤ 140737488351232 by have := HLB.out; omega)
          have ta := strs_eq act []
          have ta1 : ((bs act).toList == ([] : List UInt8)) = decide (act = []) := by rw [bs_toList]; by_cases e : act = [] <;> simp [e]
          have ta2 : ((bs act).toList == ({ data := #[] } : ByteArray).toList) = decide (act = []) := ta
          clear ta HON HOKT HADDT HLB
          generalize bs act = za at *
          generalize decide (act = []) = da at *
          cases da with
          | true =>
            go_upto_region 10 with (go_at_call 48; refine (must_t (w := wa) (by omega)).mono ?_; rintro e w2 ⟨rfl, rfl⟩)
            have HX1 := Lib.hid (box1 wa (.cells #[.bool true] 4 (0, 0)))
            generalize hw2 : wa.alloc (.cells #[.bool true] 4 (0, 0)) = w2 at *
            clear hw2
            obtain ⟨x2, hb2, hs2⟩ := HX1.out
            have b2 := cell_of_row w2 H 2 _ _ (0, 0) ((hb2.block H hHa).trans XA.out)
            have HIb := Lib.hid (HIa.out.new hb2)
            have HKb := Lib.hid ((Kb.refl W0.heap.size b wa).new hb2 hsa)
            have hla1 := HLC.out
            clear HX1 x2 hb2 XA HIa HEa a2 a3
            go_wp2_with (go_at_call 32; refine (put1 (w := w2) (s := [10]) (by omega) rfl HIb.out (by omega) (by simp only [List.length_cons, List.length_nil]; omega)).mono ?_; rintro e w6 ⟨rfl, hI6, hK6⟩)
            go_end0
            exact HO.out _ _ ⟨HKb.out.trans hK6, .inl ⟨HT.out, rfl, by rw [HTA.out]; exact hI6⟩⟩
          | false =>
            go_wp2_with (go_at_call 48; refine (must_f (w := wa) (by omega)).mono ?_; rintro e w2 ⟨rfl, rfl⟩)
            exact ⟨rfl, HO.out _ _ ⟨kb_alloc (.refl _ _ _) hsa _, .inr ⟨HT.out, rfl⟩⟩⟩
end Go.Proofs.YtghebacphjglbaaGreat.WrK
