/- The law ReadPlaces, walked at a good source. -/
import Derived.Test.YtelpkldlkpoioaaLaw11D
namespace Go.Proofs.Ytelpkldlkpoioaa.Law11E
open Go.RowKit Go.Proofs.Ytelpkldlkpoioaa.Lexy Go.Proofs.Ytelpkldlkpoioaa.LexA Go.Proofs.Ytelpkldlkpoioaa.LexB Go.Proofs.Ytelpkldlkpoioaa.LexC Go.Proofs.Ytelpkldlkpoioaa.LexD Go.Proofs.Ytelpkldlkpoioaa.LexE Go.Proofs.Ytelpkldlkpoioaa.LexF Go.Proofs.Ytelpkldlkpoioaa.LexG Go.Proofs.Ytelpkldlkpoioaa.Heap Go.Proofs.Ytelpkldlkpoioaa.Dat Go.Proofs.Ytelpkldlkpoioaa.Ready Go.Proofs.Ytelpkldlkpoioaa.ReadA Go.Proofs.Ytelpkldlkpoioaa.ReadC Go.Proofs.Ytelpkldlkpoioaa.ReadG Go.Proofs.Ytelpkldlkpoioaa.ReadH Go.Proofs.Ytelpkldlkpoioaa.ReadI Go.Proofs.Ytelpkldlkpoioaa.ReadJ Go.Proofs.Ytelpkldlkpoioaa.ReadM Go.Proofs.Ytelpkldlkpoioaa.ReadO Go.Proofs.Ytelpkldlkpoioaa.ReadQ Go.Proofs.Ytelpkldlkpoioaa.Same Go.Proofs.Ytelpkldlkpoioaa.Law11A Go.Proofs.Ytelpkldlkpoioaa.Law11B Go.Proofs.Ytelpkldlkpoioaa.Law11C Go.Proofs.Ytelpkldlkpoioaa.Law11D Go.Proofs.Ytelpkldlkpoioaa.Cut

theorem cat_bs (a b : List UInt8) : bs a ++ bs b = bs (a ++ b) := by
  apply ByteArray.ext
  simp [bs]
theorem bs_size (l : List UInt8) : (bs l).size = l.length := by simp [bs, ByteArray.size]
theorem bs_small {s t u : ByteArray} {a : Nat} (hs : s.size ≤ 20000) (h : standsL s.data.toList a t.data.toList) (hu : u.size ≤ t.size) : u.size ≤ 20000 := by
  have h1 := h.1
  have h2 : s.data.toList.length = s.size := by simp
  have h3 : t.data.toList.length = t.size := by simp
  omega
theorem stands_i {s t : ByteArray} {a : Nat} {z : Int} {w : World} (hs : s.size ≤ 1000000) (hz : z = (a : Int)) (h : standsL s.data.toList a t.data.toList) :
    Calls Try.prog 15 #[.string s, .int .i64 z, .string t] w fun e w' => e = .returned (.bool true) ∧ w = w' := by
  subst hz; exact stands_t hs h
theorem ext_stands {B : Nat} {W : World} {x : Ext (Below B W)} {s t : ByteArray} {a : Nat} {z : Int} (hs : s.size ≤ 1000000) (hz : z = (a : Int)) (h : standsL s.data.toList a t.data.toList) :
    Calls Try.prog 15 #[.string s, .int .i64 z, .string t] x.w fun e w'' => e = .returned (.bool true) ∧ ∃ y : Ext (Below B W), w'' = y.w := by
  subst hz; exact ext_same (stands_t hs h)
set_option maxRecDepth 100000 in
set_option maxHeartbeats 4000000 in
theorem places_good {s : ByteArray} {w : World} {m : Int} {x : Tx} {kx : Nat} (hm : w.cell? ⟨0, 0, none⟩ = some (.int .i64 m)) (hs : s.size ≤ 20000) (h : SaysR s.data.toList (.ok x kx)) :
    Calls Try.prog 5 #[.string s] w fun e w' => e = .returned (.bool true) ∧ Below w.heap.size w w' := by
  have hml := World.block_lt_of_cell? _ _ hm
  obtain ⟨hok, hth, x2, kx2, hsay2, hok2, hpl⟩ := says_wrap h (by simpa using hs)
  have HM := Lib.hid hm; have HT := Lib.hid h; have HO := Lib.hid hok; have HTD := Lib.hid hth.1; have HTR := Lib.hid hth.2; have HS2 := Lib.hid hsay2; have HO2 := Lib.hid hok2; have HPL := Lib.hid hpl
  have hdn := hok.n; have hrn := hok.m
  clear hm h hok hth hsay2 hok2 hpl
  go_enter Try.func5, Try.ntmps5
  go_wp2_with (first | (go_at_call 13; refine (Law11C.awake_any HM.out).mono ?_; rintro e w1 ⟨rfl, hb1⟩; have HM1 := Lib.hid ((hb1.cell (p := ⟨0, 0, none⟩) hml).trans HM.out)) | (go_at_call 14; refine (text_any (by omega) HM1.out HT.out).mono ?_; rintro e w2 ⟨da, ra, dc, rc, bk, rfl, hL, hnd, hb2⟩; have hb3 := hb1.trans (hb2.mono hb1.size); obtain ⟨k0, k1, _, q0, q1⟩ := tx_rows hL; have R0 := Lib.hid q0.reads; have R1 := Lib.hid q1.reads; clear hL q0 q1 hnd hb2))
  have hbx := ((Below.refl _ w2).alloc (Nat.le_refl _) (.cells #[.slice da x.decls.length dc, .slice ra x.rules.length rc] 39)).alloc (by simp) (.cells #[.int .i64 0, .int .i64 0] 26)
  have hb4 := hb3.trans (hbx.mono hb3.size)
  have r0 := Reads.below hbx R0.out; have r1 := Reads.below hbx R1.out
  have g1 := Copy.alloc1 w2 (.cells #[.slice da x.decls.length dc, .slice ra x.rules.length rc] 39) (.cells #[.int .i64 0, .int .i64 0] 26)
  have gs := Copy.size2 w2 (.cells #[.slice da x.decls.length dc, .slice ra x.rules.length rc] 39) (.cells #[.int .i64 0, .int .i64 0] 26)
  clear R0 R1 hb3 hbx
  have R0 := Lib.hid r0; have R1 := Lib.hid r1; have G1 := Lib.hid g1; have GS := Lib.hid gs; have HB := Lib.hid hb4
  clear r0 r1 g1 gs hb4
  generalize (w2.alloc (.cells #[.slice da x.decls.length dc, .slice ra x.rules.length rc] 39)).alloc (.cells #[.int .i64 0, .int .i64 0] 26) = W at *
  generalize w2.heap.size = H at *
  go_loopg [5] x.decls.length (fun gk t5 wr => ∃ i : Nat, i ≤ x.decls.length ∧ gk = x.decls.length - i ∧ t5 = .int .i64 (i : Int) ∧ Below W.heap.size W wr)
  case atStart => exact ⟨0, by omega, by omega, rfl, Below.refl _ _⟩
  case round =>
    obtain ⟨i, hi, rfl, rfl, hbw⟩ := hrel
    have hH := (hbw.block H (by have := GS.out; omega)).trans G1.out
    obtain ⟨c0, c1, _⟩ := cells2 hH
    by_cases hlt : i < x.decls.length
    · have q0 := Reads.below hbw R0.out
      obtain ⟨b1, o1, rfl, r1⟩ := Reads.elems q0 (by omega)
      obtain ⟨e1, f1, d10, d11, d12, d13, _⟩ := decl_cells r1 hlt
      have hst := HTD.out _ (List.getElem_mem hlt)
      generalize x.decls[i] = y at *
      have HST := Lib.hid (show standsL s.data.toList y.at_ (bs (37 :: y.kind)).data.toList by have hst' : standsL s.data.toList y.at_ (37 :: y.kind) := hst; simpa [bs] using hst')
      have hks : (bs y.kind).size ≤ 20000 := bs_small hs HST.out (by rw [bs_size, bs_size]; simp)
      have hcat : ({ data := #[37] } : ByteArray) ++ bs y.kind = bs (37 :: y.kind) := cat_bs [37] y.kind
      have g0 := ext_cell c0; have g10 := ext_cell d10; have g13 := ext_cell d13
      clear r1 q0 hst hH d10 d11 d12 d13
      have j0 : (0 : Int) ≤ (i : Int) := by omega
      have j1 : (i : Int) < (x.decls.length : Int) := by omega
      go_wp2_with fail
      refine wp_region_ext (Below wr.heap.size wr) ((Below.refl _ _).drew) (by kernel_rfl) (by kernel_rfl) ?_
      repeat (go_big_quiet_step ((go_at_call 15; exact ext_stands (by omega) rfl HST.out)))
      refine wpQuiet_nil ?_
      intro _ hw'
      obtain ⟨xx, hw''⟩ := hw'
      subst hw''
      go_wp2_with fail
      go_roundg (x.decls.length - (i + 1))
      case measure => omega
      case rel => exact ⟨i + 1, by omega, rfl, by go_num, hbw.trans (xx.i.mono hbw.size)⟩
    · go_wp2_with fail
      obtain ⟨wo, rfl⟩ : ∃ wo : World, wo = wr := ⟨_, rfl⟩
      clear c0 c1 hH
      go_loopg [6] x.rules.length (fun gk t6 wr => ∃ i : Nat, i ≤ x.rules.length ∧ gk = x.rules.length - i ∧ t6 = .int .i64 (i : Int) ∧ Below W.heap.size W wr)
      case atStart => exact ⟨0, by omega, by omega, rfl, hbw⟩
      case round =>
        clear hbw
        obtain ⟨i, hi, rfl, rfl, hbw⟩ := hrel
        have hH := (hbw.block H (by have := GS.out; omega)).trans G1.out
        obtain ⟨c0, c1, _⟩ := cells2 hH
        by_cases hlt : i < x.rules.length
        · have q0 := Reads.below hbw R1.out
          obtain ⟨b1, o1, rfl, r1⟩ := Reads.elems q0 (by omega)
          obtain ⟨e1, f1, e2, f2, d10, d11, d12, d13, m1, m2⟩ := rule_cells r1 hlt
          have hst := HTR.out _ (List.getElem_mem hlt)
          have hrok := HO.out.rules _ (List.getElem_mem hlt)
          generalize x.rules[i] = y at *
          have HST := Lib.hid (show standsL s.data.toList y.at_ (bs y.name).data.toList by have hst' : standsL s.data.toList y.at_ y.name := hst.1; simpa [bs] using hst')
          have HTA := Lib.hid hst.2; have HRO := Lib.hid hrok
          have M2 := Lib.hid m2
          have ham := hrok.m
          have g1 := ext_cell c1; have g10 := ext_cell d10; have g13 := ext_cell d13
          have D12 := Lib.hid d12; have C1 := Lib.hid c1
          clear r1 q0 hst hH d10 d11 d12 d13 m1 m2 hrok
          have j0 : (0 : Int) ≤ (i : Int) := by omega
          have j1 : (i : Int) < (x.rules.length : Int) := by omega
          go_wp2_with fail
          refine wp_region_ext (Below wr.heap.size wr) ((Below.refl _ _).drew) (by kernel_rfl) (by kernel_rfl) ?_
          repeat (go_big_quiet_step ((go_at_call 15; exact ext_stands (by omega) rfl HST.out)))
          refine wpQuiet_nil ?_
          intro _ hw'
          obtain ⟨xx, hw''⟩ := hw'
          subst hw''
          go_wp2_with fail
          have hbz := xx.i
          have hbv := hbw.trans (xx.i.mono hbw.size)
          have C2 := Lib.hid (ext_cell C1.out xx); have D2 := Lib.hid (ext_cell D12.out xx); have M3 := Lib.hid (Reads.below hbz M2.out)
          clear c0 c1 g1 g10 g13 C1 D12 M2 hbz
          generalize xx.w = wq at *
          clear hbw
          go_loopg [7] y.alts.length (fun gk t7 wr => ∃ k : Nat, k ≤ y.alts.length ∧ gk = y.alts.length - k ∧ t7 = .int .i64 (k : Int) ∧ Below wq.heap.size wq wr)
          case atStart => exact ⟨0, by omega, by omega, rfl, Below.refl _ _⟩
          case round =>
            obtain ⟨k, hk, rfl, rfl, hbw⟩ := hrel
            have c1 := (hbw.cell (p := ⟨H, 1, none⟩) (World.block_lt_of_cell? _ _ C2.out)).trans C2.out
            have d2 := (hbw.cell (World.block_lt_of_cell? _ _ D2.out)).trans D2.out
            by_cases hlk : k < y.alts.length
            · have q0 := Reads.below hbw M3.out
              obtain ⟨b2, o2, rfl, r1⟩ := Reads.elems q0 (by omega)
              obtain ⟨e3, f3, a0, a1, a2, a3, a4, a5, m1⟩ := alt_cells r1 hlk
              have hst := HTA.out _ (List.getElem_mem hlk)
              have haok := HRO.out.alts _ (List.getElem_mem hlk)
              generalize y.alts[k] = z at *
              have M1 := Lib.hid m1
              have HTW := Lib.hid (thereWs_mem hst.1)
              have hwn := haok.n
              have k0' : (0 : Int) ≤ (k : Int) := by omega
              have k1' : (k : Int) < (y.alts.length : Int) := by omega
              have hzw := World.block_lt_of_cell? _ _ a0
              have hzh : z.has = true → 1 ≤ z.whr ∧ z.whr ≤ 20001 ∧ (bs z.action).size ≤ 20000 ∧ standsL s.data.toList (z.whr - 1) (bs (123 :: (z.action ++ [125]))).data.toList := fun hh => by
                have h1 := hst.2 hh
                have h2 : standsL s.data.toList (z.whr - 1) (bs (123 :: (z.action ++ [125]))).data.toList := by simpa [bs] using h1.2
                have h3 := h2.1
                have h4 : s.data.toList.length = s.size := by simp
                exact ⟨h1.1, by omega, bs_small hs h2 (by rw [bs_size, bs_size]; simp; omega), h2⟩
              have HZH := Lib.hid hzh
              clear hst hzh haok
              generalize z.has = hb at *
              have hbel := (Below.refl wr.heap.size wr).alloc (Nat.le_refl _) (.cells #[.slice e3 z.words.length f3, .string (bs z.prec), .bool hb, .string (bs z.action), .int .i64 (z.whr : Int), .int .i64 (z.at_ : Int)] 51)
              have HBEL := Lib.hid hbel
              have HAN := Lib.hid (heap_alloc_new wr (.cells #[.slice e3 z.words.length f3, .string (bs z.prec), .bool hb, .string (bs z.action), .int .i64 (z.whr : Int), .int .i64 (z.at_ : Int)] 51))
              have MW := Lib.hid (Reads.below hbel m1)
              have HWS := Lib.hid (show (wr.alloc (.cells #[.slice e3 z.words.length f3, .string (bs z.prec), .bool hb, .string (bs z.action), .int .i64 (z.whr : Int), .int .i64 (z.at_ : Int)] 51)).heap.size = wr.heap.size + 1 by simp)
              clear q0 r1 m1 hbel
              cases hb with
              | true =>
                obtain ⟨hw1, hw2, hw3, hw4⟩ := HZH.out rfl
                have hcat1 : ({ data := #[123] } : ByteArray) ++ bs z.action = bs (123 :: z.action) := cat_bs [123] z.action
                have hcat2 : bs (123 :: z.action) ++ ({ data := #[125] } : ByteArray) = bs (123 :: (z.action ++ [125])) := by have := cat_bs (123 :: z.action) [125]; exact this
                have hw5 : (bs (123 :: z.action)).size ≤ 20001 := by rw [bs_size] at hw3 ⊢; simp; omega
                have HW4 := Lib.hid hw4
                clear hw4
                go_wp2_with (go_at_call 15; go_must (refine (stands_i (a := z.whr - 1) (by omega) (by omega) HW4.out).mono ?_); rintro e w7 ⟨rfl, rfl⟩)
                clear hcat1 hcat2 hw5 hw3 hw2 hw1 a0 a1 a2 a3 a4 a5 c1 d2
                generalize wr.alloc (.cells #[.slice e3 z.words.length f3, .string (bs z.prec), .bool true, .string (bs z.action), .int .i64 (z.whr : Int), .int .i64 (z.at_ : Int)] 51) = W4 at *
                go_loopg [9] z.words.length (fun gk t9 wv => ∃ v : Nat, v ≤ z.words.length ∧ gk = z.words.length - v ∧ t9 = .int .i64 (v : Int) ∧ Below W4.heap.size W4 wv)
                case atStart => exact ⟨0, by omega, by omega, rfl, Below.refl _ _⟩
                case round =>
                  obtain ⟨v, hv, rfl, rfl, hbq⟩ := hrel
                  have hA4 := (hbq.block _ (by rw [HWS.out]; omega)).trans HAN.out
                  obtain ⟨⟨c40, _⟩, _⟩ := cells6 hA4
                  by_cases hlv : v < z.words.length
                  · have q0 := Reads.below hbq MW.out
                    obtain ⟨b5, o5, rfl, r1⟩ := Reads.elems q0 (by omega)
                    obtain ⟨n', ws', z', hxw⟩ : ∃ n1 l1 z1, z.words[v] = Wd.mk n1 l1 z1 := ⟨_, _, _, (wd_eta z.words[v])⟩
                    obtain ⟨e7, f7, d70, d71, d72, d73⟩ := word_cells r1 hlv hxw
                    have HE := Lib.hid (there_w (s := s) (by omega) z.words[v] (HTW.out _ (List.getElem_mem hlv)))
                    have HX := Lib.hid hxw; have HD := Lib.hid d73
                    clear r1 q0 d73 hxw hA4
                    have v0 : (0 : Int) ≤ (v : Int) := by omega
                    have v1 : (v : Int) < (z.words.length : Int) := by omega
                    go_wp2_with (go_at_call 16; go_must (refine (HE.out _ _ _ _ _ _ HX.out HD.out).mono ?_); rintro e w8 ⟨rfl, hb8⟩)
                    go_roundg (z.words.length - (v + 1))
                    case measure => omega
                    case rel => exact ⟨v + 1, by omega, rfl, by go_num, hbq.trans (hb8.mono hbq.size)⟩
                  · go_wp2_with fail
                    go_roundg (y.alts.length - (k + 1))
                    case measure => omega
                    case rel => exact ⟨k + 1, by omega, rfl, by go_num, (hbw.trans (HBEL.out.mono hbw.size)).trans (hbq.mono (by rw [HWS.out]; have := hbw.size; omega))⟩
              | false =>
                go_wp2_with fail
                clear a0 a1 a2 a3 a4 a5 c1 d2
                generalize wr.alloc (.cells #[.slice e3 z.words.length f3, .string (bs z.prec), .bool false, .string (bs z.action), .int .i64 (z.whr : Int), .int .i64 (z.at_ : Int)] 51) = W4 at *
                go_loopg [9] z.words.length (fun gk t9 wv => ∃ v : Nat, v ≤ z.words.length ∧ gk = z.words.length - v ∧ t9 = .int .i64 (v : Int) ∧ Below W4.heap.size W4 wv)
                case atStart => exact ⟨0, by omega, by omega, rfl, Below.refl _ _⟩
                case round =>
                  obtain ⟨v, hv, rfl, rfl, hbq⟩ := hrel
                  have hA4 := (hbq.block _ (by rw [HWS.out]; omega)).trans HAN.out
                  obtain ⟨⟨c40, _⟩, _⟩ := cells6 hA4
                  by_cases hlv : v < z.words.length
                  · have q0 := Reads.below hbq MW.out
                    obtain ⟨b5, o5, rfl, r1⟩ := Reads.elems q0 (by omega)
                    obtain ⟨n', ws', z', hxw⟩ : ∃ n1 l1 z1, z.words[v] = Wd.mk n1 l1 z1 := ⟨_, _, _, (wd_eta z.words[v])⟩
                    obtain ⟨e7, f7, d70, d71, d72, d73⟩ := word_cells r1 hlv hxw
                    have HE := Lib.hid (there_w (s := s) (by omega) z.words[v] (HTW.out _ (List.getElem_mem hlv)))
                    have HX := Lib.hid hxw; have HD := Lib.hid d73
                    clear r1 q0 d73 hxw hA4
                    have v0 : (0 : Int) ≤ (v : Int) := by omega
                    have v1 : (v : Int) < (z.words.length : Int) := by omega
                    go_wp2_with (go_at_call 16; go_must (refine (HE.out _ _ _ _ _ _ HX.out HD.out).mono ?_); rintro e w8 ⟨rfl, hb8⟩)
                    go_roundg (z.words.length - (v + 1))
                    case measure => omega
                    case rel => exact ⟨v + 1, by omega, rfl, by go_num, hbq.trans (hb8.mono hbq.size)⟩
                  · go_wp2_with fail
                    go_roundg (y.alts.length - (k + 1))
                    case measure => omega
                    case rel => exact ⟨k + 1, by omega, rfl, by go_num, (hbw.trans (HBEL.out.mono hbw.size)).trans (hbq.mono (by rw [HWS.out]; have := hbw.size; omega))⟩
            · go_wp2_with fail
              go_roundg (x.rules.length - (i + 1))
              case measure => omega
              case rel => exact ⟨i + 1, by omega, rfl, by go_num, hbv.trans (hbw.mono hbv.size)⟩
        · have hbz : Below w.heap.size w wr := HB.out.trans (hbw.mono HB.out.size)
          have HMw := Lib.hid ((hbz.cell (p := ⟨0, 0, none⟩) hml).trans HM.out)
          obtain ⟨A, hA⟩ : ∃ A, ({ data := #[47, 47, 32, 37, 10, 9] } : ByteArray) ++ s = A := ⟨_, rfl⟩
          obtain ⟨Bq, hBq⟩ : ∃ Bq, A ++ ({ data := #[32, 47, 47, 32, 123] } : ByteArray) = Bq := ⟨_, rfl⟩
          have z6 : ({ data := #[47, 47, 32, 37, 10, 9] } : ByteArray).size = 6 := by decide
          have z5 : ({ data := #[32, 47, 47, 32, 123] } : ByteArray).size = 5 := by decide
          have hAs : A.size = s.size + 6 := by rw [← hA, ByteArray.size_append, z6]; omega
          have hAs' : A.size ≤ 20006 := by omega
          have hBs : Bq.size ≤ 20011 := by rw [← hBq, ByteArray.size_append, z5]; omega
          have hSAY : SaysR Bq.data.toList (.ok x2 kx2) := by rw [← hBq, ← hA]; simpa using HS2.out
          have HSAY := Lib.hid hSAY; clear hSAY hAs
          go_wp2_with (go_at_call 14; go_loud (refine (text_any (by omega) HMw.out HSAY.out).mono ?_; rintro e wt ⟨da2, ra2, dc2, rc2, bk2, rfl, hL2, hnd2, hbt⟩; obtain ⟨k3, k4, _, q3, q4⟩ := tx_rows hL2; have R3 := Lib.hid q3.reads; have R4 := Lib.hid q4.reads; have HBT := Lib.hid hbt; have hts := hbt.size; clear hL2 q3 q4 hnd2 hbt))
          have hb5 := ((Below.refl _ wt).alloc (Nat.le_refl _) (.cells #[.slice da2 x2.decls.length dc2, .slice ra2 x2.rules.length rc2] 39)).alloc (by simp) (.cells #[.int .i64 0, .int .i64 0] 26)
          have r3 := Reads.below hb5 R3.out; have r4 := Reads.below hb5 R4.out
          have a1 := Copy.alloc1 wt (.cells #[.slice da2 x2.decls.length dc2, .slice ra2 x2.rules.length rc2] 39) (.cells #[.int .i64 0, .int .i64 0] 26)
          have a2 := Copy.alloc2 wt (.cells #[.slice da2 x2.decls.length dc2, .slice ra2 x2.rules.length rc2] 39) (.cells #[.int .i64 0, .int .i64 0] 26)
          have az := Copy.size2 wt (.cells #[.slice da2 x2.decls.length dc2, .slice ra2 x2.rules.length rc2] 39) (.cells #[.int .i64 0, .int .i64 0] 26)
          have hbg : Below w.heap.size w ((wt.alloc (.cells #[.slice da2 x2.decls.length dc2, .slice ra2 x2.rules.length rc2] 39)).alloc (.cells #[.int .i64 0, .int .i64 0] 26)) := (hbz.trans (HBT.out.mono hbz.size)).trans (hb5.mono (Nat.le_trans hbz.size hts))
          have hbW : Below W.heap.size W ((wt.alloc (.cells #[.slice da2 x2.decls.length dc2, .slice ra2 x2.rules.length rc2] 39)).alloc (.cells #[.int .i64 0, .int .i64 0] 26)) := (hbw.trans (HBT.out.mono hbw.size)).trans (hb5.mono (Nat.le_trans hbw.size hts))
          have Q3 := Lib.hid r3; have Q4 := Lib.hid r4; have Q0 := Lib.hid (Reads.below hbW R0.out); have Q1 := Lib.hid (Reads.below hbW R1.out); have HBG := Lib.hid hbg
          have hH5 := (hbW.block H (by have := GS.out; omega)).trans G1.out
          clear r3 r4 hb5 hbg hbW R3 R4 HBT hH c0 c1 hA hBq hAs' hBs z6 z5 HSAY HMw az
          generalize (wt.alloc (.cells #[.slice da2 x2.decls.length dc2, .slice ra2 x2.rules.length rc2] 39)).alloc (.cells #[.int .i64 0, .int .i64 0] 26) = W5 at *
          generalize wt.heap.size = H2 at *
          obtain ⟨c0, c1, _⟩ := cells2 hH5
          obtain ⟨d0, d1, _⟩ := cells2 a1
          obtain ⟨f0, _⟩ := cells2 a2
          clear hH5 a1 a2
          refine wp_region_mixI (l1 := [_, _, _, _, _, _, _, _, _, _]) (l2 := [_]) [(0, true), (1, true), (2, true), (3, true), (4, true), (6, true), (5, false), (7, false), (8, false), (9, true)] (fun u => u.cell? ⟨H2 + 1, 0, none⟩ = some (.int .i64 0) ∧ u.cell? ⟨H, 0, none⟩ = some (.slice da x.decls.length dc) ∧ u.cell? ⟨H, 1, none⟩ = some (.slice ra x.rules.length rc) ∧ u.cell? ⟨H2, 0, none⟩ = some (.slice da2 x2.decls.length dc2) ∧ u.cell? ⟨H2, 1, none⟩ = some (.slice ra2 x2.rules.length rc2)) (by kernel_rfl) (by kernel_rfl) (by repeat (first | refine loose_then ?_ | refine loose_block ?_ | exact loose_body (P := Try.prog) (fn := Try.f5))) ⟨f0, c0, c1, d0, d1⟩ ?_
          refine mixI_take (.pointer (some ⟨H2 + 1, 0, none⟩)) rfl rfl (fun u hu => by go_simp) ?_
          refine mixI_take (.int .i64 0) rfl rfl (fun u hu => by obtain ⟨h1, h2, h3, h4, h5⟩ := hu; go_simp) ?_
          refine mixI_take (.bool true) rfl rfl (fun u hu => by go_simp) ?_
          refine mixI_take (.bool true) rfl rfl (fun u hu => by go_simp) ?_
          refine mixI_take (.agg #[.slice da x.decls.length dc, .slice ra x.rules.length rc]) rfl (wanted_at (g := 3) (b := true) (t := 149) rfl rfl rfl) (fun u hu => by obtain ⟨h1, h2, h3, h4, h5⟩ := hu; go_simp) ?_
          refine mixI_take (.agg #[.slice da2 x2.decls.length dc2, .slice ra2 x2.rules.length rc2]) rfl (wanted_at (g := 3) (b := true) (t := 149) rfl rfl (put_far (by decide) rfl)) (fun u hu => by obtain ⟨h1, h2, h3, h4, h5⟩ := hu; go_simp) ?_
          have hbd : Below W5.heap.size W5 W5.drew := (Below.refl _ _).drew
          refine mixI_go rfl (wanted_at (g := 3) (b := true) (t := 149) rfl rfl (put_far (by decide) (put_far (by decide) rfl))) fun K5 hK5 => wp_go (f := 18) (args := #[.agg #[.slice da x.decls.length dc, .slice ra x.rules.length rc]]) (by go_simp) ((plain_tx (w := W5.drew) HO.out rfl (Reads.below hbd Q0.out) (Reads.below hbd Q1.out)).mono ?_)
          rintro e w6 ⟨p0, q0, p1, q1, rfl, P0, P1, hb6'⟩
          have hb6 : Below W5.heap.size W5 w6 := hbd.trans hb6'
          refine hK5.out _ _ ⟨(hb6.cell (World.block_lt_of_cell? _ _ f0)).trans f0, (hb6.cell (World.block_lt_of_cell? _ _ c0)).trans c0, (hb6.cell (World.block_lt_of_cell? _ _ c1)).trans c1, (hb6.cell (World.block_lt_of_cell? _ _ d0)).trans d0, (hb6.cell (World.block_lt_of_cell? _ _ d1)).trans d1⟩ ?_
          refine mixI_go rfl (wanted_at (g := 3) (b := true) (t := 149) rfl rfl (put_far (by decide) (put_far (by decide) (put_far (by decide) rfl)))) fun K7 hK7 => wp_go (f := 18) (args := #[.agg #[.slice da2 x2.decls.length dc2, .slice ra2 x2.rules.length rc2]]) (by go_simp) ((plain_tx (w := w6) HO2.out HPL.out (Reads.below hb6 Q3.out) (Reads.below hb6 Q4.out)).mono ?_)
          rintro e w7 ⟨p2, q2, p3, q3, rfl, P2, P3, hb7'⟩
          have hb7 : Below W5.heap.size W5 w7 := hb6.trans (hb7'.mono hb6.size)
          refine hK7.out _ _ ⟨(hb7.cell (World.block_lt_of_cell? _ _ f0)).trans f0, (hb7.cell (World.block_lt_of_cell? _ _ c0)).trans c0, (hb7.cell (World.block_lt_of_cell? _ _ c1)).trans c1, (hb7.cell (World.block_lt_of_cell? _ _ d0)).trans d0, (hb7.cell (World.block_lt_of_cell? _ _ d1)).trans d1⟩ ?_
          refine mixI_go rfl (wanted_at (g := 3) (b := true) (t := 149) rfl rfl (put_far (by decide) (put_far (by decide) (put_far (by decide) (put_far (by decide) rfl))))) fun K8 hK8 => wp_go (f := 17) (args := #[.agg #[.slice p0 (plainT x).decls.length q0, .slice p1 (plainT x).rules.length q1], .agg #[.slice p2 (plainT x).decls.length q2, .slice p3 (plainT x).rules.length q3]]) (by go_simp) ((same_source (x := plainT x) (w := w7) (Reads.below hb7' P0) P2 (Reads.below hb7' P1) P3).mono ?_)
          rintro e w8 ⟨rfl, hb8'⟩
          have hb8 : Below W5.heap.size W5 w8 := hb7.trans (hb8'.mono hb7.size)
          refine hK8.out _ _ ⟨(hb8.cell (World.block_lt_of_cell? _ _ f0)).trans f0, (hb8.cell (World.block_lt_of_cell? _ _ c0)).trans c0, (hb8.cell (World.block_lt_of_cell? _ _ c1)).trans c1, (hb8.cell (World.block_lt_of_cell? _ _ d0)).trans d0, (hb8.cell (World.block_lt_of_cell? _ _ d1)).trans d1⟩ ?_
          refine mixI_take (.bool true) rfl rfl (fun u hu => by go_simp) ?_
          show wpList _ _ _ _ _ _
          clear hK5 hK7 hK8
          go_wp2_with fail
          go_ret
          exact ⟨rfl, HBG.out.trans (hb8.mono HBG.out.size)⟩
theorem places_any {s : ByteArray} {w : World} {m : Int} (hs : s.size ≤ 140737488351232) (hm : w.cell? ⟨0, 0, none⟩ = some (.int .i64 m)) :
    Calls Try.prog 5 #[.string s] w fun e w' => e = .returned (.bool true) ∧ Below w.heap.size w w' := by
  by_cases h : s.size ≤ 20000
  · obtain ⟨o, ho⟩ := says s.data.toList
    cases o with
    | bad e p => exact places_bad hm h ho
    | ok x k => exact places_good hm h ho
  · exact places_big hm (by omega) hs
end Go.Proofs.Ytelpkldlkpoioaa.Law11E
