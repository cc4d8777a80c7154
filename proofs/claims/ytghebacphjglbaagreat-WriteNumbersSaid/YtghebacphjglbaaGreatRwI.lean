/- The document's writer, whole: it tells of any text what the writer tells. -/
import Derived.Test.YtghebacphjglbaaGreatM6
import Derived.Test.YtghebacphjglbaaGreatM7
import Derived.Test.YtghebacphjglbaaGreatWrN
namespace Go.Proofs.YtghebacphjglbaaGreat.RwI
open Go.RowKit Go.Proofs.YtghebacphjglbaaGreat.Lexy Go.Proofs.YtghebacphjglbaaGreat.LexA Go.Proofs.YtghebacphjglbaaGreat.LexB Go.Proofs.YtghebacphjglbaaGreat.LexC Go.Proofs.YtghebacphjglbaaGreat.LexD Go.Proofs.YtghebacphjglbaaGreat.LexE Go.Proofs.YtghebacphjglbaaGreat.LexF Go.Proofs.YtghebacphjglbaaGreat.LexG Go.Proofs.YtghebacphjglbaaGreat.Heap Go.Proofs.YtghebacphjglbaaGreat.Dat Go.Proofs.YtghebacphjglbaaGreat.Ready Go.Proofs.YtghebacphjglbaaGreat.ReadA Go.Proofs.YtghebacphjglbaaGreat.ReadC Go.Proofs.YtghebacphjglbaaGreat.ReadH Go.Proofs.YtghebacphjglbaaGreat.ReadI Go.Proofs.YtghebacphjglbaaGreat.ReadM Go.Proofs.YtghebacphjglbaaGreat.ReadO Go.Proofs.YtghebacphjglbaaGreat.Same Go.Proofs.YtghebacphjglbaaGreat.WrA Go.Proofs.YtghebacphjglbaaGreat.WrB Go.Proofs.YtghebacphjglbaaGreat.WrC Go.Proofs.YtghebacphjglbaaGreat.WrD Go.Proofs.YtghebacphjglbaaGreat.WrE Go.Proofs.YtghebacphjglbaaGreat.WrP Go.Proofs.YtghebacphjglbaaGreat.WrS Go.Proofs.YtghebacphjglbaaGreat.WrT Go.Proofs.YtghebacphjglbaaGreat.WrG Go.Proofs.YtghebacphjglbaaGreat.WrH Go.Proofs.YtghebacphjglbaaGreat.WrK Go.Proofs.YtghebacphjglbaaGreat.WrN Go.Proofs.YtghebacphjglbaaGreat.WrO Go.Proofs.YtghebacphjglbaaGreat.RwA Go.Proofs.YtghebacphjglbaaGreat.RwB Go.Proofs.YtghebacphjglbaaGreat.RwC Go.Proofs.YtghebacphjglbaaGreat.RwE Go.Proofs.YtghebacphjglbaaGreat.RwH

theorem blanks_next {ns : List (List UInt8)} {k : Nat} (h : k < ns.length) : blanks (ns.take (k + 1)) = blanks (ns.take k) ++ [32] ++ ns[k] := by
  unfold blanks; rw [fm_next _ h]; simp
theorem wrAs_next {l : List Al} {k : Nat} (h : k < l.length) : wrAs (l.take (k + 1)) = wrAs (l.take k) ++ [9, 124] ++ wrA l[k] := by
  unfold wrAs; rw [fm_next _ h]; simp
theorem fm_cnt {α β : Type} (f : α → List β) (hf : ∀ a, 0 < (f a).length) : ∀ l : List α, l.length ≤ (l.flatMap f).length
  | [] => Nat.zero_le _
  | a :: l => by
    have h1 := fm_cnt f hf l
    have h2 := hf a
    rw [List.flatMap_cons, List.length_append, List.length_cons]; omega
theorem wrD_pos (d : De) : 0 < (wrD d).length := by unfold wrD; simp
theorem wrR_pos (r : Ru) : 0 < (wrR r).length := by unfold wrR; simp only [List.length_append, List.length_cons, List.length_nil]; omega
theorem blanks_cnt (l : List (List UInt8)) : l.length ≤ (blanks l).length := fm_cnt _ (fun a => by simp) l
theorem wrAs_cnt (l : List Al) : l.length ≤ (wrAs l).length := fm_cnt _ (fun a => by simp) l
/-- the two results -/
theorem res_t {w : World} {v0 v1 : Value} {tmps : Array Value} (h2 : tmps[2]?.getD undef = v0) (h3 : tmps[3]?.getD undef = v1) : (results Tryz.f18 tmps).run Tryz.prog w = .ok (.tuple #[v0, v1]) w := by
  simp [results, Tryz.results18, go_sem, h2, h3]
/-- may not be written -/
theorem text_no {x : Tx} {w : World} {sd sr : Value} (hD : Reads w (.row 62 4 x.decls.length (desD x.decls)) sd) (hR : Reads w (.row 38 4 x.rules.length (rusD x.rules)) sr) (hbg : bigT x) (hact : ∀ r ∈ x.rules, ∀ a ∈ r.alts, a.action.length ≤ 1000000) (hok : okT x = false) :
    Calls Tryz.prog 18 #[.agg #[sd, sr]] w (TextW w x) := by
  have HX := Lib.hid (box1 w (.cells #[sd, sr] 28 (0, 0)))
  obtain ⟨a0, c0, rfl⟩ := Reads.slice hD
  obtain ⟨a1, c1, rfl⟩ := Reads.slice hR
  have HM := Lib.hid (fun (u : World) (hu : Below w.heap.size w u) => may_r (Reads.below hu hD) (Reads.below hu hR) hbg hact)
  rw [hok] at HM
  have HOK := Lib.hid hok
  clear hD hR hbg hact hok
  go_enter Tryz.func18, Tryz.ntmps18
  go_upto_region 1 with fail
  generalize hw1 : w.alloc (.cells #[.slice a0 x.decls.length c0, .slice a1 x.rules.length c1] 28 (0, 0)) = w1 at *
  clear hw1
  obtain ⟨x1, hbx, hsx⟩ := HX.out
  have y0 := cell_of_row w1 _ 0 _ _ (0, 0) x1
  have y1 := cell_of_row w1 _ 1 _ _ (0, 0) x1
  have HB := Lib.hid hbx; have HC := Lib.hid (HM.out w1 hbx)
  clear HX x1 hbx hsx HM
  go_wp2_with ((go_at_call 34; go_must (refine (HC.out).mono ?_; rintro e w2 ⟨rfl, hb2⟩; have HB2 := Lib.hid hb2; clear hb2)))
  refine bodyPost_ret (res_t rfl rfl) rfl ?_
  refine ⟨HB.out.trans (HB2.out.mono HB.out.size), ?_⟩
  rw [HOK.out]; rfl
set_option maxRecDepth 100000 in
set_option maxHeartbeats 16000000 in
theorem text_yes {x : Tx} {w : World} {sd sr : Value} (hD : Reads w (.row 62 4 x.decls.length (desD x.decls)) sd) (hR : Reads w (.row 38 4 x.rules.length (rusD x.rules)) sr) (hbg : bigT x) (hact : ∀ r ∈ x.rules, ∀ a ∈ r.alts, a.action.length ≤ 1000000) (hok : okT x = true) (hlen : (wrT x).length ≤ 1000000000) :
    Calls Tryz.prog 18 #[.agg #[sd, sr]] w (TextW w x) := by
  have HX := Lib.hid (box1 w (.cells #[sd, sr] 28 (0, 0)))
  obtain ⟨a0, c0, rfl⟩ := Reads.slice hD
  obtain ⟨a1, c1, rfl⟩ := Reads.slice hR
  have hm := fun (u : World) (hu : Below w.heap.size w u) => may_r (Reads.below hu hD) (Reads.below hu hR) hbg hact
  rw [hok] at hm
  have HM := Lib.hid hm; clear hm hbg hact
  obtain ⟨ds, rs⟩ := x
  have HF := Lib.hid (show ∀ w', Below w.heap.size w w' → TextW w ⟨ds, rs⟩ (.returned (.tuple #[.string (bs (wrT ⟨ds, rs⟩)), .int .i64 0])) w' from fun w' hb => ⟨hb, by rw [hok]; rfl⟩)
  have hne : ∀ r ∈ rs, r.alts ≠ [] := fun r hr => by
    unfold okT at hok
    simp only [Bool.and_eq_true, List.all_eq_true] at hok
    have := hok.2 r hr
    unfold okR at this
    simp only [Bool.and_eq_true, decide_eq_true_eq] at this
    exact this.1
  simp only at hD hR HM HX ⊢
  have hT : wrT ⟨ds, rs⟩ = ds.flatMap wrD ++ [37, 37, 10] ++ rs.flatMap wrR := by unfold wrT; simp
  rw [hT] at hlen
  simp only [List.length_append, List.length_cons, List.length_nil] at hlen
  have HT := Lib.hid hT
  have hcd := fm_cnt wrD wrD_pos ds; have hcr := fm_cnt wrR wrR_pos rs
  have HLD := Lib.hid (fm_len wrD ds); have HLR := Lib.hid (fm_len wrR rs)
  have HD := Lib.hid hD; have HR := Lib.hid hR; have HNE := Lib.hid hne
  clear hD hR hne hok hT
  go_enter Tryz.func18, Tryz.ntmps18
  go_upto_region 1 with fail
  generalize hw1 : w.alloc (.cells #[.slice a0 ds.length c0, .slice a1 rs.length c1] 28 (0, 0)) = w1 at *
  clear hw1
  obtain ⟨x1, hbx, hsx⟩ := HX.out
  have y0 : w1.cell? ⟨w.heap.size, 0, none⟩ = some (.slice a0 ds.length c0) := cell_of_row w1 _ 0 _ _ (0, 0) x1
  have y1 : w1.cell? ⟨w.heap.size, 1, none⟩ = some (.slice a1 rs.length c1) := cell_of_row w1 _ 1 _ _ (0, 0) x1
  have HC := Lib.hid (HM.out w1 hbx)
  have X1 := Lib.hid x1; have HB1 := Lib.hid hbx; have HS1 := Lib.hid hsx
  clear HX x1 hbx hsx HM
  generalize hH : w.heap.size = H at *
  have HZ := Lib.hid hH; clear hH
  go_upto_region 3 with ((go_at_call 34; go_must (refine (HC.out).mono ?_; rintro e w2 ⟨rfl, hb2⟩; have HB2 := Lib.hid hb2; clear hb2)))
  clear y0 y1 HC
  have hHl : H < w2.heap.size := by have := HB2.out.size; have := HS1.out; omega
  have X2 := Lib.hid ((HB2.out.block H (by have := HS1.out; omega)).trans X1.out)
  have HBa := Lib.hid (HB1.out.trans (HB2.out.mono (by have := HS1.out; omega)))
  clear X1 HB1 HB2 HS1
  go_wp2
  go_loopg [4, 5] ds.length (fun gk s i wr => ∃ (k : Nat), k ≤ ds.length ∧ gk = ds.length - k ∧ i = .int .i64 (k : Int) ∧ s = .string (bs ((ds.take k).flatMap wrD)) ∧ Below w2.heap.size w2 wr)
  case atStart => exact ⟨0, by omega, by omega, rfl, rfl, .refl _ _⟩
  case round => as_aux_lemma =>
    obtain ⟨k, hk, rfl, rfl, rfl, hb0⟩ := hrel
    have X3 := Lib.hid ((hb0.block H hHl).trans X2.out)
    have HBr := Lib.hid (HBa.out.trans (hb0.mono (by omega)))
    have hbz := hb0.size
    have HB0 := Lib.hid hb0; clear hb0
    by_cases hlt : k < ds.length
    · have y0 : wr.cell? ⟨H, 0, none⟩ = some (.slice a0 ds.length c0) := cell_of_row wr _ 0 _ _ (0, 0) X3.out
      obtain ⟨g, o, rfl, r1⟩ := Reads.elems HD.out (by omega)
      obtain ⟨a5, c5, e0, e1, e2, e3, hry⟩ := decl_cells r1 hlt
      have q0 := ext_at HZ.out HBr.out e0
      have q1 := ext_at HZ.out HBr.out e1
      have q2 := ext_at HZ.out HBr.out e2
      have q3 := ext_at HZ.out HBr.out e3
      have hnx := fm_next wrD hlt
      have hle := HLD.out (k + 1)
      rw [hnx] at hle
      rw [List.length_append] at hle
      have HN := Lib.hid hnx
      have HRY := Lib.hid (Reads.below (w := w) (by rw [HZ.out]; exact HBr.out) hry)
      have j0 : (0 : Int) ≤ (k : Int) := by omega
      have j1 : (k : Int) < (ds.length : Int) := by omega
      clear r1 e0 e1 e2 e3 hnx hry
      generalize ds[k] = y at *
      obtain ⟨yk, yt, yn, ya⟩ := y
      simp only at q0 q1 q2 q3 HRY
      have hwd : wrD ⟨yk, yt, yn, ya⟩ = 37 :: (yk ++ (wrTy yt ++ (blanks yn ++ [59, 10]))) := rfl
      generalize hla : (ds.take k).flatMap wrD = la at *
      clear hla
      have hc1 : bs la ++ ({ data := #[37] } : ByteArray) = bs (la ++ [37]) := cat_bs _ [37]
      have hc2 : bs (la ++ [37]) ++ bs yk = bs (la ++ [37] ++ yk) := cat_bs _ _
      have hs1 := RwC.bs_size la; have hs2 := RwC.bs_size (la ++ [37]); have hs3 := RwC.bs_size yk; have hs4 := RwC.bs_size (la ++ [37] ++ yk)
      simp only [List.length_append, List.length_cons, List.length_nil] at hs2 hs4
      rw [hwd] at hle
      simp only [List.length_append, List.length_cons, List.length_nil] at hle
      have HL := Lib.hid (show la.length + (yk.length + ((wrTy yt).length + ((blanks yn).length + 3))) ≤ 1000000000 by omega)
      have HNX := Lib.hid (show List.flatMap wrD (List.take (k + 1) ds) = la ++ [37] ++ yk ++ wrTy yt ++ blanks yn ++ [59, 10] by rw [HN.out, hwd]; simp)
      clear HN hwd hle
      have hl0 := HL.out
      have tp : ((bs yt).toList == ([] : List UInt8)) = decide (yt = []) := WrM.test_eq yt []
      have tp2 : ((bs yt).toList == ({ data := #[] } : ByteArray).toList) = decide (yt = []) := strs_eq yt []
      have HX2 := Lib.hid (box1 wr (.cells #[.string (bs yk), .string (bs yt), .slice a5 yn.length c5, .int .i64 ya] 62 (0, 0)))
      generalize hzk : bs yk = zk at *
      clear hzk
      generalize bs (la ++ [37]) = z2 at *
      generalize hz1 : bs la = z1 at *
      clear hz1
      go_upto_region 8 with fail
      generalize hw3 : wr.alloc (.cells #[.string zk, .string (bs yt), .slice a5 yn.length c5, .int .i64 ya] 62 (0, 0)) = w3 at *
      clear hw3
      obtain ⟨x3, hb3, hs3z⟩ := HX2.out
      have v0 := cell_of_row w3 wr.heap.size 0 _ _ (0, 0) x3
      have v1 := cell_of_row w3 wr.heap.size 1 _ _ (0, 0) x3
      have v2 : w3.cell? ⟨wr.heap.size, 2, none⟩ = some (.slice a5 yn.length c5) := cell_of_row w3 wr.heap.size 2 _ _ (0, 0) x3
      have M2 := Lib.hid v2
      have HB3 := Lib.hid (HB0.out.trans (hb3.mono hbz))
      have HRY3 := Lib.hid (Reads.below hb3 HRY.out)
      clear HX2 x3 hb3 q0 q1 q2 q3 HRY y0
      generalize wr.heap.size = G at *
      have HG := Lib.hid hs3z; clear hs3z
      by_cases hty : yt = []
      case' pos =>
        rw [decide_eq_true hty] at tp tp2
        have hlc : la ++ [37] ++ yk = la ++ [37] ++ yk ++ wrTy yt := by unfold wrTy; rw [if_pos hty, List.append_nil]
        rw [hlc] at hc2 hs4
        have hnx := HNX.out
        clear HNX
        generalize la ++ [37] ++ yk ++ wrTy yt = lc at *
        have HNX := Lib.hid hnx; clear hnx
        have hlcl : lc.length + ((blanks yn).length + 2) ≤ 1000000000 := by
          have : lc.length = la.length + 1 + yk.length := by rw [← hlc]; simp only [List.length_append, List.length_cons, List.length_nil]
          omega
        have HLC := Lib.hid hlcl
        clear hlc hty hlcl hs4
        generalize hzc : bs lc = zc at *
        have HZC := Lib.hid hzc; clear hzc
        generalize bs yt = zt at *
        go_upto_region 11 with fail
        go_wp2
        clear hc1 hc2 hs1 hs2 hs3 tp tp2 v0 v1 v2
      case' neg =>
        rw [decide_eq_false hty] at tp tp2
        have hlc : la ++ [37] ++ yk ++ [32, 60] ++ yt ++ [62] = la ++ [37] ++ yk ++ wrTy yt := by unfold wrTy; rw [if_neg hty]; simp
        have hc3 : bs (la ++ [37] ++ yk) ++ ({ data := #[32, 60] } : ByteArray) = bs (la ++ [37] ++ yk ++ [32, 60]) := cat_bs _ [32, 60]
        have hc4 : bs (la ++ [37] ++ yk ++ [32, 60]) ++ bs yt = bs (la ++ [37] ++ yk ++ [32, 60] ++ yt) := cat_bs _ _
        have hc5 : bs (la ++ [37] ++ yk ++ [32, 60] ++ yt) ++ ({ data := #[62] } : ByteArray) = bs (la ++ [37] ++ yk ++ wrTy yt) := by rw [← hlc]; exact cat_bs _ [62]
        have hs5 := RwC.bs_size (la ++ [37] ++ yk ++ [32, 60]); have hs6 := RwC.bs_size yt; have hs7 := RwC.bs_size (la ++ [37] ++ yk ++ [32, 60] ++ yt)
        have hwt : (wrTy yt).length = yt.length + 3 := by unfold wrTy; rw [if_neg hty]; simp
        have hlcl : (la ++ [37] ++ yk ++ wrTy yt).length + ((blanks yn).length + 2) ≤ 1000000000 := by
          simp only [List.length_append, List.length_cons, List.length_nil]; omega
        simp only [List.length_append, List.length_cons, List.length_nil] at hs5 hs7
        rw [hwt] at hl0
        have HLC := Lib.hid hlcl
        have hnx := HNX.out
        clear hlc hty hlcl hwt HNX
        generalize la ++ [37] ++ yk ++ wrTy yt = lc at *
        have HNX := Lib.hid hnx; clear hnx
        generalize hzc : bs lc = zc at *
        have HZC := Lib.hid hzc; clear hzc
        generalize bs (la ++ [37] ++ yk ++ [32, 60] ++ yt) = z5 at *
        generalize bs (la ++ [37] ++ yk ++ [32, 60]) = z4 at *
        generalize bs (la ++ [37] ++ yk) = z3 at *
        generalize bs yt = zt at *
        go_upto_region 11 with fail
        go_wp2
        clear hc1 hc2 hc3 hc4 hc5 hs1 hs2 hs3 hs4 hs5 hs6 hs7 tp tp2 v0 v1 v2 hl0
      all_goals
        go_loopg [4, 7] yn.length (fun gk s i wz => ∃ (j : Nat), j ≤ yn.length ∧ gk = yn.length - j ∧ i = .int .i64 (j : Int) ∧ s = .string (bs (lc ++ blanks (yn.take j))) ∧ Below w3.heap.size w3 wz)
        case atStart => exact ⟨0, by omega, by omega, rfl, by rw [← HZC.out]; simp [blanks], .refl _ _⟩
        case round => as_aux_lemma =>
          obtain ⟨j, hj, rfl, rfl, rfl, hb5⟩ := hrel
          have hb5z := hb5.size
          have m2 : wr.cell? ⟨G, 2, none⟩ = some (.slice a5 yn.length c5) := (hb5.cell (show G < _ by have := HG.out; omega)).trans M2.out
          have HB5 := Lib.hid hb5; clear hb5
          have hbl := fm_len (fun s : List UInt8 => 32 :: s) yn
          have hbc := blanks_cnt yn
          have hll := HLC.out
          by_cases hlj : j < yn.length
          · obtain ⟨g2, o2, rfl, r2⟩ := Reads.elems HRY3.out (by omega)
            have n0 := name_cell r2 hlj
            have n1 := ext_at rfl HB5.out n0
            have hnx := blanks_next hlj
            have hle := hbl (j + 1)
            change (blanks (yn.take (j + 1))).length ≤ (blanks yn).length at hle
            rw [hnx] at hle
            simp only [List.length_append, List.length_cons, List.length_nil] at hle
            have hc1 : bs (lc ++ blanks (yn.take j)) ++ ({ data := #[32] } : ByteArray) = bs (lc ++ blanks (yn.take j) ++ [32]) := cat_bs _ [32]
            have hc2 : bs (lc ++ blanks (yn.take j) ++ [32]) ++ bs yn[j] = bs (lc ++ blanks (yn.take (j + 1))) := by rw [cat_bs, hnx]; simp only [List.append_assoc]
            have hs1 := RwC.bs_size (lc ++ blanks (yn.take j)); have hs2 := RwC.bs_size (lc ++ blanks (yn.take j) ++ [32]); have hs3 := RwC.bs_size yn[j]
            simp only [List.length_append, List.length_cons, List.length_nil] at hs1 hs2
            clear hnx n0 r2 hbl
            generalize hzn : bs (lc ++ blanks (yn.take (j + 1))) = zn at *
            have HZN := Lib.hid hzn; clear hzn
            generalize bs (lc ++ blanks (yn.take j) ++ [32]) = zb at *
            generalize bs (lc ++ blanks (yn.take j)) = za at *
            generalize (blanks (yn.take j)).length = lb at *
            generalize bs yn[j] = zy at *
            generalize yn[j].length = ly at *
            have i0 : (0 : Int) ≤ (j : Int) := by omega
            have i1 : (j : Int) < (yn.length : Int) := by omega
            go_wp2
            go_roundg (yn.length - (j + 1))
            case measure => omega
            case rel => exact ⟨j + 1, by omega, rfl, by go_num, by rw [HZN.out], HB5.out⟩
          · obtain rfl : j = yn.length := by omega
            rw [List.take_length] at *
            have hc1 : bs (lc ++ blanks yn) ++ ({ data := #[59, 10] } : ByteArray) = bs (List.flatMap wrD (List.take (k + 1) ds)) := by rw [HNX.out]; exact cat_bs _ [59, 10]
            have hs1 := RwC.bs_size (lc ++ blanks yn)
            rw [List.length_append] at hs1
            generalize hzn : bs (List.flatMap wrD (List.take (k + 1) ds)) = zn at *
            have HZN := Lib.hid hzn; clear hzn
            generalize bs (lc ++ blanks yn) = za at *
            clear hbl
            go_wp2
            go_roundg (ds.length - (k + 1))
            case measure => omega
            case rel => exact ⟨k + 1, by omega, rfl, by go_num, by rw [HZN.out], HB3.out.trans (HB5.out.mono HB3.out.size)⟩
    · obtain rfl : k = ds.length := by omega
      have hcl1 : bs (ds.flatMap wrD) ++ ({ data := #[37, 37, 10] } : ByteArray) = bs (ds.flatMap wrD ++ [37, 37, 10]) := cat_bs _ [37, 37, 10]
      have hs1 := RwC.bs_size (ds.flatMap wrD)
      have hla2 : (ds.flatMap wrD ++ [37, 37, 10]).length = (ds.flatMap wrD).length + 3 := by simp
      rw [List.take_length]
      obtain ⟨wo, rfl⟩ : ∃ wo : World, wo = wr := ⟨_, rfl⟩
      have hl1 : (ds.flatMap wrD ++ [37, 37, 10]).length + (rs.flatMap wrR).length ≤ 1000000000 := by omega
      have HT2 := Lib.hid HT.out
      clear HLD HD HB0 hbz HT hla2
      generalize ds.flatMap wrD ++ [37, 37, 10] = la at *
      generalize bs (ds.flatMap wrD) = zd at *
      generalize (ds.flatMap wrD).length = ld at *
      clear X2
      have hHo : H < wo.heap.size := (Array.getElem?_eq_some_iff.1 X3.out).1
      have y0 : wo.cell? ⟨H, 0, none⟩ = some (.slice a0 ds.length c0) := cell_of_row wo _ 0 _ _ (0, 0) X3.out
      go_wp2
      clear y0 hcl1 hs1 hlen
      go_loopg [4, 8] rs.length (fun gk s i wz => ∃ (k : Nat), k ≤ rs.length ∧ gk = rs.length - k ∧ i = .int .i64 (k : Int) ∧ s = .string (bs (la ++ (rs.take k).flatMap wrR)) ∧ Below wo.heap.size wo wz)
      case atStart => exact ⟨0, by omega, by omega, rfl, by simp, .refl _ _⟩
      case round => as_aux_lemma =>
        obtain ⟨k, hk, rfl, rfl, rfl, hb0⟩ := hrel
        have X4 := Lib.hid ((hb0.block H hHo).trans X3.out)
        have HBs := Lib.hid (HBr.out.trans (hb0.mono (by omega)))
        have hbz := hb0.size
        have HB0 := Lib.hid hb0; clear hb0
        have y1 : wr.cell? ⟨H, 1, none⟩ = some (.slice a1 rs.length c1) := cell_of_row wr _ 1 _ _ (0, 0) X4.out
        by_cases hlt : k < rs.length
        · obtain ⟨g, o, rfl, r1⟩ := Reads.elems HR.out (by omega)
          obtain ⟨a5, c5, a6, c6, e0, e1, e2, e3, hry, hrz⟩ := rule_cells r1 hlt
          have q0 := ext_at HZ.out HBs.out e0
          have q1 := ext_at HZ.out HBs.out e1
          have q2 := ext_at HZ.out HBs.out e2
          have q3 := ext_at HZ.out HBs.out e3
          have hnx := fm_next wrR hlt
          have hle := HLR.out (k + 1)
          rw [hnx] at hle
          rw [List.length_append] at hle
          have HN := Lib.hid hnx
          have hne := HNE.out _ (List.getElem_mem hlt)
          have HRY := Lib.hid (Reads.below (w := w) (by rw [HZ.out]; exact HBs.out) hry)
          have HRZ := Lib.hid (Reads.below (w := w) (by rw [HZ.out]; exact HBs.out) hrz)
          have j0 : (0 : Int) ≤ (k : Int) := by omega
          have j1 : (k : Int) < (rs.length : Int) := by omega
          clear r1 e0 e1 e2 e3 hnx hry hrz
          generalize rs[k] = y at *
          obtain ⟨yn, yp, ya, yt⟩ := y
          simp only at q0 q1 q2 q3 HRY HRZ hne
          obtain ⟨a, l, rfl⟩ : ∃ a l, ya = a :: l := by cases ya with
            | nil => exact absurd rfl hne
            | cons a l => exact ⟨a, l, rfl⟩
          clear hne
          have hwr : wrR ⟨yn, yp, a :: l, yt⟩ = yn ++ wrN yp ++ [58] ++ wrA a ++ wrAs l ++ [9, 59, 10] := by unfold wrR; simp [wrAlts]
          rw [hwr] at hle
          simp only [List.length_append, List.length_cons, List.length_nil] at hle
          generalize hlb : la ++ (rs.take k).flatMap wrR = lb at *
          have hlbl : lb.length = la.length + ((rs.take k).flatMap wrR).length := by rw [← hlb, List.length_append]
          have HL := Lib.hid (show lb.length + (yn.length + ((wrN yp).length + ((wrA a).length + ((wrAs l).length + 4)))) ≤ 1000000000 by omega)
          have HNX := Lib.hid (show la ++ List.flatMap wrR (List.take (k + 1) rs) = lb ++ yn ++ wrN yp ++ [58] ++ wrA a ++ wrAs l ++ [9, 59, 10] by rw [HN.out, hwr, ← hlb]; simp)
          clear HN hwr hle hlb hlbl
          have hl0 := HL.out
          have hplen := (RwD.wrN_len yp).1
          have HROW := Lib.hid (fun (u : World) (hu : Below wr.heap.size wr u) => row_r (w := u) (Reads.below hu HRY.out) (by omega) (by omega))
          obtain ⟨g2, o2, rfl, r2⟩ := Reads.elems HRZ.out (by simp)
          obtain ⟨a7, c7, f0, f1, f2, f3, f4, f5, hrw⟩ := alt_cells r2 (k := 0) (by simp)
          simp only [List.getElem_cons_zero, Nat.zero_mul, Nat.add_zero] at f0 f1 f2 f3 f4 f5 hrw
          have HR2 := Lib.hid r2
          have HLN := Lib.hid (fun (u : World) (hu : Below wr.heap.size wr u) => line_r (x := a) (w := u) (Reads.below hu hrw) (by omega))
          have hc1 : bs lb ++ bs yn = bs (lb ++ yn) := cat_bs _ _
          have hc2 : bs (lb ++ yn) ++ bs (wrN yp) = bs (lb ++ yn ++ wrN yp) := cat_bs _ _
          have hc3 : bs (lb ++ yn ++ wrN yp) ++ ({ data := #[58] } : ByteArray) = bs (lb ++ yn ++ wrN yp ++ [58]) := cat_bs _ [58]
          have hc4 : bs (lb ++ yn ++ wrN yp ++ [58]) ++ bs (wrA a) = bs (lb ++ yn ++ wrN yp ++ [58] ++ wrA a) := cat_bs _ _
          have hs1 := RwC.bs_size lb; have hs2 := RwC.bs_size yn; have hs3 := RwC.bs_size (lb ++ yn); have hs4 := RwC.bs_size (wrN yp); have hs5 := RwC.bs_size (lb ++ yn ++ wrN yp); have hs6 := RwC.bs_size (lb ++ yn ++ wrN yp ++ [58]); have hs7 := RwC.bs_size (wrA a)
          have hlz : (lb ++ yn ++ wrN yp ++ [58] ++ wrA a).length + ((wrAs l).length + 3) ≤ 1000000000 := by simp only [List.length_append, List.length_cons, List.length_nil]; omega
          simp only [List.length_append, List.length_cons, List.length_nil] at hs3 hs5 hs6
          have HNZ := HNX
          clear HNX hrw r2 HL hplen
          generalize lb ++ yn ++ wrN yp ++ [58] ++ wrA a = lz at *
          have HLZ := Lib.hid hlz; clear hlz
          generalize hzz : bs lz = zz at *
          have HZZ := Lib.hid hzz; clear hzz
          generalize bs (lb ++ yn ++ wrN yp ++ [58]) = z4 at *
          generalize bs (lb ++ yn ++ wrN yp) = z3 at *
          generalize bs (lb ++ yn) = z2 at *
          generalize bs lb = z1 at *
          generalize bs (wrN yp) = zp at *
          generalize bs (wrA a) = za at *
          generalize bs yn = zn at *
          generalize (wrN yp).length = lwn at *
          generalize (wrA a).length = lwa at *
          generalize lb.length = llb at *
          generalize yn.length = lyn at *
          have HX3 := Lib.hid (box1 wr (.cells #[.string zn, .slice a5 yp.length c5, .slice (some ⟨g2, o2, none⟩) (a :: l).length c6, .int .i64 yt] 38 (0, 0)))
          go_upto_region 21 with fail
          generalize hw3 : wr.alloc (.cells #[.string zn, .slice a5 yp.length c5, .slice (some ⟨g2, o2, none⟩) (a :: l).length c6, .int .i64 yt] 38 (0, 0)) = w3 at *
          clear hw3
          obtain ⟨x3, hb3, hs3z⟩ := HX3.out
          have v0 := ext_cell (cell_of_row w3 wr.heap.size 0 _ _ (0, 0) x3)
          have v1 := ext_cell (cell_of_row w3 wr.heap.size 1 _ _ (0, 0) x3)
          have v2' : w3.cell? ⟨wr.heap.size, 2, none⟩ = some (.slice (some ⟨g2, o2, none⟩) (a :: l).length c6) := cell_of_row w3 wr.heap.size 2 _ _ (0, 0) x3
          have v2 := ext_cell v2'
          have M2 := Lib.hid v2'; clear v2'
          have p0 := ext_cell (ext_at rfl hb3 f0); have p1 := ext_cell (ext_at rfl hb3 f1); have p2 := ext_cell (ext_at rfl hb3 f2); have p3 := ext_cell (ext_at rfl hb3 f3); have p4 := ext_cell (ext_at rfl hb3 f4); have p5 := ext_cell (ext_at rfl hb3 f5)
          have HB3 := Lib.hid (HB0.out.trans (hb3.mono hbz))
          have HROW3 := Lib.hid (fun (x : Ext (Below w3.heap.size w3)) => (HROW.out x.w (hb3.trans (x.i.mono hb3.size))).mono fun e w' h => (⟨h.1, by rw [h.2]; exact Below.refl _ _⟩ : _ ∧ Below x.w.heap.size x.w w'))
          have HLN3 := Lib.hid (fun (x : Ext (Below w3.heap.size w3)) => HLN.out x.w (hb3.trans (x.i.mono hb3.size)))
          have HRC := Lib.hid (ReadsL.below hb3 HR2.out)
          clear HX3 x3 hb3 q0 q1 q2 q3 f0 f1 f2 f3 f4 f5 y1 HROW HLN HR2 HRY HRZ
          generalize hG : wr.heap.size = G at *
          have HG := Lib.hid hs3z; clear hs3z hG
          have hlen1 : (0 : Int) < ((a :: l).length : Int) := by simp only [List.length_cons]; omega
          have hlen2 : (a :: l).length = l.length + 1 := rfl
          generalize (a :: l).length = la1 at *
          refine wp_region_ext (Below w3.heap.size w3) ((Below.refl _ _).drew) (by kernel_rfl) (by kernel_rfl) ?_
          repeat (go_big_quiet_step (first | (go_at_call 35; exact ext_new (Nat.le_refl _) (HROW3.out _)) | (go_at_call 36; exact ext_new (Nat.le_refl _) (HLN3.out _))))
          refine wpQuiet_nil ?_
          intro _ hw'
          obtain ⟨xx, hw''⟩ := hw'
          subst hw''
          have HXI := Lib.hid xx.i
          generalize xx.w = w4 at *
          clear p0 p1 p2 p3 p4 p5 v0 v1 v2 hc1 hc2 hc3 hc4 hs1 hs2 hs3 hs4 hs5 hs6 hs7 HROW3 HLN3 xx
          go_wp2
          go_loopg [4, 10] l.length (fun gk s i wz => ∃ (m j : Nat), j = m + 1 ∧ m ≤ l.length ∧ gk = l.length - m ∧ i = .int .i64 (j : Int) ∧ s = .string (bs (lz ++ wrAs (l.take m))) ∧ Below w4.heap.size w4 wz)
          case atStart => exact ⟨0, 1, rfl, by omega, by omega, rfl, by rw [← HZZ.out]; simp [wrAs], .refl _ _⟩
          case round => as_aux_lemma =>
            obtain ⟨m, j, hjm, hm, rfl, rfl, rfl, hb5⟩ := hrel
            have hb5z := hb5.size
            have hb6 := HXI.out.trans (hb5.mono HXI.out.size)
            have m2 : wr.cell? ⟨G, 2, none⟩ = some (.slice (some ⟨g2, o2, none⟩) la1 c6) := ext_at rfl hb6 M2.out
            have HB5 := Lib.hid hb5; clear hb5
            have HB6 := Lib.hid hb6; clear hb6
            have hbl := fm_len (fun a : Al => 9 :: 124 :: wrA a) l
            have hbc := wrAs_cnt l
            have hll := HLZ.out
            by_cases hlm : m < l.length
            · obtain ⟨a7, c7, f0, f1, f2, f3, f4, f5, hrw⟩ := alt_cells HRC.out (k := j) (by rw [List.length_cons]; omega)
              subst hjm
              simp only [List.getElem_cons_succ] at f0 f1 f2 f3 f4 f5 hrw
              have q0 := ext_at rfl HB6.out f0
              have q1 := ext_at rfl HB6.out f1
              have q2 := ext_at rfl HB6.out f2
              have q3 := ext_at rfl HB6.out f3
              have q4 := ext_at rfl HB6.out f4
              have q5 := ext_at rfl HB6.out f5
              have hnx := wrAs_next hlm
              have hle := hbl (m + 1)
              change (wrAs (l.take (m + 1))).length ≤ (wrAs l).length at hle
              rw [hnx] at hle
              simp only [List.length_append, List.length_cons, List.length_nil] at hle
              have HLN := Lib.hid (line_r (x := l[m]) (w := wr) (Reads.below HB6.out hrw) (by omega))
              have hc1 : bs (lz ++ wrAs (l.take m)) ++ ({ data := #[9, 124] } : ByteArray) = bs (lz ++ wrAs (l.take m) ++ [9, 124]) := cat_bs _ [9, 124]
              have hc2 : bs (lz ++ wrAs (l.take m) ++ [9, 124]) ++ bs (wrA l[m]) = bs (lz ++ wrAs (l.take (m + 1))) := by rw [cat_bs, hnx]; simp only [List.append_assoc]
              have hs1 := RwC.bs_size (lz ++ wrAs (l.take m)); have hs2 := RwC.bs_size (lz ++ wrAs (l.take m) ++ [9, 124]); have hs3 := RwC.bs_size (wrA l[m])
              simp only [List.length_append, List.length_cons, List.length_nil] at hs1 hs2
              clear hnx f0 f1 f2 f3 f4 f5 hrw hbl
              generalize hzn : bs (lz ++ wrAs (l.take (m + 1))) = zn at *
              have HZN := Lib.hid hzn; clear hzn
              generalize bs (lz ++ wrAs (l.take m) ++ [9, 124]) = zb at *
              generalize bs (lz ++ wrAs (l.take m)) = za at *
              generalize (wrAs (l.take m)).length = lb at *
              generalize bs (wrA l[m]) = zy at *
              generalize (wrA l[m]).length = ly at *
              generalize l[m] = y at *
              generalize hjm : m + 1 = j at *
              have i0 : (0 : Int) ≤ (j : Int) := by omega
              have i1 : (j : Int) < (la1 : Int) := by omega
              generalize bs y.prec = zyp at *
              generalize bs y.action = zya at *
              go_wp2_with ((go_at_call 36; go_must (refine (HLN.out).mono ?_; rintro e w5 ⟨rfl, hb7⟩; have HB7 := Lib.hid hb7; clear hb7)))
              go_roundg (l.length - (m + 1))
              case measure => omega
              case rel => exact ⟨j, j + 1, rfl, by omega, by omega, by go_num, by rw [HZN.out], HB5.out.trans (HB7.out.mono hb5z)⟩
            · obtain rfl : m = l.length := by omega
              have i1 : ¬ (j : Int) < (la1 : Int) := by omega
              have i2 : ¬ j < la1 := by omega
              rw [List.take_length] at *
              have hc1 : bs (lz ++ wrAs l) ++ ({ data := #[9, 59, 10] } : ByteArray) = bs (la ++ List.flatMap wrR (List.take (k + 1) rs)) := by rw [HNZ.out]; exact cat_bs _ [9, 59, 10]
              have hs1 := RwC.bs_size (lz ++ wrAs l)
              rw [List.length_append] at hs1
              generalize hzn : bs (la ++ List.flatMap wrR (List.take (k + 1) rs)) = zn at *
              have HZN := Lib.hid hzn; clear hzn
              generalize bs (lz ++ wrAs l) = za at *
              clear hbl
              go_wp2
              go_roundg (rs.length - (k + 1))
              case measure => omega
              case rel => exact ⟨k + 1, by omega, rfl, by go_num, by rw [HZN.out], HB3.out.trans (HB6.out.mono HB3.out.size)⟩
        · obtain rfl : k = rs.length := by omega
          have HT3 := Lib.hid HT2.out
          rw [List.take_length]
          rw [← HT3.out]
          go_wp2
          refine bodyPost_ret (res_t rfl rfl) rfl ?_
          exact HF.out _ HBs.out
theorem text_ref {x : Tx} {w : World} {sd sr : Value} (hD : Reads w (.row 62 4 x.decls.length (desD x.decls)) sd) (hR : Reads w (.row 38 4 x.rules.length (rusD x.rules)) sr) (hbg : bigT x) (hact : ∀ r ∈ x.rules, ∀ a ∈ r.alts, a.action.length ≤ 1000000) (hlen : lenT x ≤ 1000000000) :
    Calls Tryz.prog 18 #[.agg #[sd, sr]] w (TextW w x) := by
  cases hok : okT x with
  | false => exact text_no hD hR hbg hact hok
  | true => exact text_yes hD hR hbg hact hok (by rw [len_ok hok]; exact hlen)
end Go.Proofs.YtghebacphjglbaaGreat.RwI
