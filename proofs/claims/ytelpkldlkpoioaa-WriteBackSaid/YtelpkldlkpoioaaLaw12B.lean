/- The law WriteRead, walked. -/
import Derived.Test.YtelpkldlkpoioaaLaw12A
import Derived.Test.YtelpkldlkpoioaaWrE
import Derived.Test.YtelpkldlkpoioaaPlain12
import Derived.Test.YtelpkldlkpoioaaReadQ
import Derived.Test.YtelpkldlkpoioaaCutU
namespace Go.Proofs.Ytelpkldlkpoioaa.Law12B
open Go.RowKit Go.Proofs.Ytelpkldlkpoioaa.Lexy Go.Proofs.Ytelpkldlkpoioaa.LexA Go.Proofs.Ytelpkldlkpoioaa.LexB Go.Proofs.Ytelpkldlkpoioaa.LexC Go.Proofs.Ytelpkldlkpoioaa.LexD Go.Proofs.Ytelpkldlkpoioaa.LexE Go.Proofs.Ytelpkldlkpoioaa.LexF Go.Proofs.Ytelpkldlkpoioaa.LexG Go.Proofs.Ytelpkldlkpoioaa.Heap Go.Proofs.Ytelpkldlkpoioaa.Dat Go.Proofs.Ytelpkldlkpoioaa.Ready Go.Proofs.Ytelpkldlkpoioaa.ReadA Go.Proofs.Ytelpkldlkpoioaa.ReadC Go.Proofs.Ytelpkldlkpoioaa.ReadG Go.Proofs.Ytelpkldlkpoioaa.ReadH Go.Proofs.Ytelpkldlkpoioaa.ReadI Go.Proofs.Ytelpkldlkpoioaa.ReadJ Go.Proofs.Ytelpkldlkpoioaa.ReadM Go.Proofs.Ytelpkldlkpoioaa.ReadO Go.Proofs.Ytelpkldlkpoioaa.Same Go.Proofs.Ytelpkldlkpoioaa.Cut Go.Proofs.Ytelpkldlkpoioaa.WrE Go.Proofs.Ytelpkldlkpoioaa.WrP Go.Proofs.Ytelpkldlkpoioaa.WrS

/-- 'plain', told as data that is read -/
theorem plain_tx {x y : Tx} (hx : TxOk x) (hy : plainT x = y) {w : World} {s1 s2 : Value} (h1 : Reads w (.row 45 4 x.decls.length (desD x.decls)) s1) (h2 : Reads w (.row 48 4 x.rules.length (rusD x.rules)) s2) :
    Calls Try.prog 24 #[.agg #[s1, s2]] w fun e w' => ∃ (p0 : Option Addr) (q0 : Nat) (p1 : Option Addr) (q1 : Nat), e = .returned (.agg #[.slice p0 y.decls.length q0, .slice p1 y.rules.length q1]) ∧ Reads w' (.row 45 4 y.decls.length (desD y.decls)) (.slice p0 y.decls.length q0) ∧ Reads w' (.row 48 4 y.rules.length (rusD y.rules)) (.slice p1 y.rules.length q1) ∧ Below w.heap.size w w' := by
  refine (Plain12.plain_any hx h1 h2).mono ?_
  rintro e w' ⟨p0, q0, k0, p1, q1, k1, rfl, hL0, hL1, _, hb⟩
  subst hy
  have e0 : (plainT x).decls.length = x.decls.length := by simp [plainT]
  have e1 : (plainT x).rules.length = x.rules.length := by simp [plainT]
  rw [← e0] at hL0
  rw [← e1] at hL1
  refine ⟨p0, q0, p1, q1, by rw [e0, e1], hL0.reads, hL1.reads, hb⟩
/-- a text in memory, in its two rows -/
theorem tx_rows {w : World} {B : Nat} {x : Tx} {v0 v1 : Value} {bk : List Nat} (h : LiesL w B (txD x) [v0, v1] bk) : ∃ k0 k1, bk = k0 ++ k1 ∧ Lies w B (.row 45 4 x.decls.length (desD x.decls)) v0 k0 ∧ Lies w B (.row 48 4 x.rules.length (rusD x.rules)) v1 k1 := by
  unfold txD at h
  rw [LiesL.cons] at h
  obtain ⟨y0, ys, b1, b2, he, rfl, h1, h2⟩ := h
  rw [LiesL.cons] at h2
  obtain ⟨y1, zs, b3, b4, he2, rfl, h3, h4⟩ := h2
  rw [LiesL.nil] at h4
  obtain ⟨rfl, rfl⟩ := h4
  subst he2
  simp only [List.cons.injEq] at he
  obtain ⟨rfl, rfl, _⟩ := he
  exact ⟨_, _, by simp, h1, h3⟩
theorem says_ok {s : List UInt8} {x : Tx} {k : Nat} (h : SaysR s (.ok x k)) : ∃ T, toks s = .good T ∧ TextR T (.ok x k) := by
  generalize ho : Out.ok x k = o at h
  cases h with
  | bad _ => cases ho
  | good h1 h2 => subst ho; exact ⟨_, h1, h2⟩
theorem says_bad {s : List UInt8} {e p : Nat} (h : SaysR s (.bad e p)) : e ≠ 0 := by
  generalize ho : Out.bad e p = o at h
  cases h with
  | bad h => cases ho; exact (toks_bad _ _ _ h).1
  | good h1 h2 =>
    subst ho
    obtain ⟨h3, k, rfl⟩ := TextR_bad h2
    omega
/-- what a small source says may be written; and is read as the same -/
theorem says_wr {s : List UInt8} {x : Tx} {k : Nat} (h : SaysR s (.ok x k)) (hs : s.length ≤ 15000) : TxOk x ∧ okT x = true ∧ (wrT x).length ≤ 1000000000 ∧ ((wrT x).length ≤ 65536 → ∃ y j, SaysR (wrT x) (.ok y j) ∧ TxOk y ∧ plainT y = plainT x) := by
  obtain ⟨T, h1, h2⟩ := says_ok h
  have hT := toks_told h1
  have hk := TextR_end hT.1.ends h2
  have hlen := hT.1.len
  obtain ⟨g1, _, _⟩ := TextR_good (toks_places h1) h2 (by omega)
  have hok := text_ok h1 h2
  have hsz := text_sz h1 h2
  refine ⟨g1, hok, by omega, fun hw => ?_⟩
  obtain ⟨T2, y, j, h3, h4, h5⟩ := read_wr hok hw
  have hT2 := toks_told h3
  have hk2 := TextR_end hT2.1.ends h4
  have hlen2 := hT2.1.len
  exact ⟨y, j, .good h3 h4, (TextR_good (toks_places h3) h4 (by omega)).1, h5⟩
set_option maxRecDepth 100000 in
set_option maxHeartbeats 1000000 in
theorem read_big {s : ByteArray} {w : World} {m : Int} (hm : w.cell? ⟨0, 0, none⟩ = some (.int .i64 m)) (hb : 15000 < s.size) (hs : s.size ≤ 140737488351232) :
    Calls Try.prog 8 #[.string s] w fun e w' => e = .returned (.bool true) ∧ Below w.heap.size w w' := by
  have HM := Lib.hid hm; clear hm
  go_enter Try.func8, Try.ntmps8
  go_wp2_with (go_at_call 21; refine (Law12A.awake_any HM.out).mono ?_; rintro e w1 ⟨rfl, hb1⟩)
  go_ret
  exact ⟨rfl, hb1⟩
set_option maxRecDepth 100000 in
set_option maxHeartbeats 1000000 in
theorem read_bad {s : ByteArray} {w : World} {m : Int} {x p : Nat} (hm : w.cell? ⟨0, 0, none⟩ = some (.int .i64 m)) (hs : s.size ≤ 15000) (h : SaysR s.data.toList (.bad x p)) :
    Calls Try.prog 8 #[.string s] w fun e w' => e = .returned (.bool true) ∧ Below w.heap.size w w' := by
  have hml := World.block_lt_of_cell? _ _ hm
  have hx : ((x : Int) != 0) = true := by have := says_bad h; simp; omega
  have HM := Lib.hid hm; have HT := Lib.hid h; clear hm h
  go_enter Try.func8, Try.ntmps8
  go_wp2_with (first | (go_at_call 21; refine (Law12A.awake_any HM.out).mono ?_; rintro e w1 ⟨rfl, hb1⟩; have HM1 := Lib.hid ((hb1.cell (p := ⟨0, 0, none⟩) hml).trans HM.out)) | (go_at_call 14; refine (ReadQ.text_any (by omega) HM1.out HT.out).mono ?_; rintro e w2 ⟨rfl, hb2⟩; have hb3 := hb1.trans (hb2.mono hb1.size)))
  go_ret
  exact ⟨rfl, (hb3.alloc hb3.size _).alloc (by have := hb3.size; simp; omega) _⟩
set_option maxRecDepth 100000 in
set_option maxHeartbeats 4000000 in
theorem read_good {s : ByteArray} {w : World} {m : Int} {x : Tx} {kx : Nat} (hm : w.cell? ⟨0, 0, none⟩ = some (.int .i64 m)) (hs : s.size ≤ 15000) (h : SaysR s.data.toList (.ok x kx)) :
    Calls Try.prog 8 #[.string s] w fun e w' => e = .returned (.bool true) ∧ Below w.heap.size w w' := by
  have hml := World.block_lt_of_cell? _ _ hm
  obtain ⟨hok, hokT, hlen, hag⟩ := says_wr h (by simpa using hs)
  have HM := Lib.hid hm; have HT := Lib.hid h; have HO := Lib.hid hok; have HOK := Lib.hid hokT; have HAG := Lib.hid hag; have HLEN := Lib.hid hlen
  have hdn := hok.n; have hrn := hok.m
  clear hm h hok hokT hag hlen
  go_enter Try.func8, Try.ntmps8
  go_upto_region 8 with (first | (go_at_call 21; refine (Law12A.awake_any HM.out).mono ?_; rintro e w1 ⟨rfl, hb1⟩; have HM1 := Lib.hid ((hb1.cell (p := ⟨0, 0, none⟩) hml).trans HM.out)) | (go_at_call 14; refine (ReadQ.text_any (by omega) HM1.out HT.out).mono ?_; rintro e w2 ⟨da, ra, dc, rc, bk, rfl, hL, hnd, hb2⟩; have hb3 := hb1.trans (hb2.mono hb1.size); obtain ⟨k0, k1, _, q0, q1⟩ := tx_rows hL; have R0 := Lib.hid q0.reads; have R1 := Lib.hid q1.reads; clear hL q0 q1 hnd hb2))
  have HX := Lib.hid (WrL.boxes2 w2 (.cells #[.slice da x.decls.length dc, .slice ra x.rules.length rc] 39 (0, 0)) (.cells #[.int .i64 0, .int .i64 0] 26 (0, 0)))
  generalize hW : (w2.alloc (.cells #[.slice da x.decls.length dc, .slice ra x.rules.length rc] 39 (0, 0))).alloc (.cells #[.int .i64 0, .int .i64 0] 26 (0, 0)) = W at *
  clear hW
  obtain ⟨x0, x1, hbx, hsx⟩ := HX.out
  have hb4 := hb3.trans (hbx.mono hb3.size)
  have Q0 := Lib.hid (Reads.below hbx R0.out); have Q1 := Lib.hid (Reads.below hbx R1.out)
  have X0 := Lib.hid x0; have HB := Lib.hid hb4
  have HMW := Lib.hid ((hb4.cell (p := ⟨0, 0, none⟩) hml).trans HM.out)
  have c0 : W.cell? ⟨w2.heap.size, 0, none⟩ = some (.slice da x.decls.length dc) := cell_of_row W _ 0 _ _ (0, 0) x0
  have c1 : W.cell? ⟨w2.heap.size, 1, none⟩ = some (.slice ra x.rules.length rc) := cell_of_row W _ 1 _ _ (0, 0) x0
  clear HX R0 R1 hb3 hbx x0 x1 hb4 HT hb1 HM1
  generalize w2.heap.size = H at *
  have htx : Calls Try.prog 23 #[.agg #[.slice da x.decls.length dc, .slice ra x.rules.length rc]] W fun e w' => e = .returned (.tuple #[.string (bs (wrT x)), .int .i64 0]) ∧ Below W.heap.size W w' := by
    refine (WrN.text_any HMW.out Q0.out Q1.out HO.out (by rw [← WrT.len_ok HOK.out]; have := HLEN.out; omega)).mono ?_
    rintro e w' ⟨hb, rfl⟩
    rw [HOK.out]
    exact ⟨rfl, hb⟩
  have HTX := Lib.hid htx; clear htx HOK
  have hzl : (bs (wrT x)).data.toList = wrT x := by simp [bs]
  have hzs : (bs (wrT x)).size = (wrT x).length := by simp [bs, ByteArray.size]
  generalize bs (wrT x) = z at *
  go_upto_region 11 with (go_at_call 23; refine (HTX.out).mono ?_; rintro e w3 ⟨rfl, hb3⟩)
  have hb5 := HB.out.trans (hb3.mono HB.out.size)
  have HM3 := Lib.hid ((hb5.cell (p := ⟨0, 0, none⟩) hml).trans HM.out)
  have X3 := Lib.hid ((hb3.block H (by omega)).trans X0.out)
  have HB3 := Lib.hid hb3
  have HB5 := Lib.hid hb5
  clear HTX c0 c1 X0 HMW hb5
  by_cases hbig : (wrT x).length ≤ 65536
  · obtain ⟨y, j, hy, hoy, hpl⟩ := HAG.out hbig
    rw [← hzl] at hy
    have HY := Lib.hid hy; have HOY := Lib.hid hoy; have HPL := Lib.hid hpl
    have hzb : z.size ≤ 65536 := by omega
    clear hy hoy hpl hzl hzs hbig HAG HLEN
    go_upto_region 12 with (go_at_call 14; refine (ReadQ.text_any (by omega) HM3.out HY.out).mono ?_; rintro e wt ⟨da2, ra2, dc2, rc2, bk2, rfl, hL2, hnd2, hbt⟩; obtain ⟨k3, k4, _, q3, q4⟩ := tx_rows hL2; have R3 := Lib.hid q3.reads; have R4 := Lib.hid q4.reads; have HBT := Lib.hid hbt; have hts := hbt.size; clear hL2 q3 q4 hnd2 hbt)
    have HX2 := Lib.hid (WrL.boxes2 wt (.cells #[.slice da2 y.decls.length dc2, .slice ra2 y.rules.length rc2] 39 (0, 0)) (.cells #[.int .i64 0, .int .i64 0] 26 (0, 0)))
    generalize hW5 : (wt.alloc (.cells #[.slice da2 y.decls.length dc2, .slice ra2 y.rules.length rc2] 39 (0, 0))).alloc (.cells #[.int .i64 0, .int .i64 0] 26 (0, 0)) = W5 at *
    clear hW5
    obtain ⟨x0, x1, hbx, hsx2⟩ := HX2.out
    have hb6 := HB3.out.trans (HBT.out.mono HB3.out.size)
    have hbW := hb6.trans (hbx.mono hb6.size)
    have HBG := Lib.hid ((HB5.out.trans (HBT.out.mono HB5.out.size)).trans (hbx.mono (Nat.le_trans HB5.out.size hts)))
    have Q2 := Lib.hid (Reads.below hbW Q0.out); have Q5 := Lib.hid (Reads.below hbW Q1.out); have Q3 := Lib.hid (Reads.below hbx R3.out); have Q4 := Lib.hid (Reads.below hbx R4.out)
    have hHlt : H < w3.heap.size := (Array.getElem?_eq_some_iff.1 X3.out).1
    have xH := (hbx.block H (by omega)).trans ((HBT.out.block H hHlt).trans X3.out)
    have c0 : W5.cell? ⟨H, 0, none⟩ = some (.slice da x.decls.length dc) := cell_of_row W5 _ 0 _ _ (0, 0) xH
    have c1 : W5.cell? ⟨H, 1, none⟩ = some (.slice ra x.rules.length rc) := cell_of_row W5 _ 1 _ _ (0, 0) xH
    have d0 : W5.cell? ⟨wt.heap.size, 0, none⟩ = some (.slice da2 y.decls.length dc2) := cell_of_row W5 _ 0 _ _ (0, 0) x0
    have d1 : W5.cell? ⟨wt.heap.size, 1, none⟩ = some (.slice ra2 y.rules.length rc2) := cell_of_row W5 _ 1 _ _ (0, 0) x0
    have f0 : W5.cell? ⟨wt.heap.size + 1, 0, none⟩ = some (.int .i64 0) := cell_of_row W5 _ 0 _ _ (0, 0) x1
    have hdn2 := HOY.out.n; have hrn2 := HOY.out.m
    clear HX2 x0 x1 hb6 hbW hbx xH R3 R4 HBT HB3 HB5 X3 HM3 HY Q0 Q1
    generalize wt.heap.size = H2 at *
    have hgt : ¬ (65536 : Int) < (z.size : Int) := by omega
    have hgd : decide ((65536 : Int) < (z.size : Int)) = false := decide_eq_false hgt
    refine wp_region_mixI (l1 := [_, _, _, _, _, _, _, _, _, _, _, _, _, _, _]) (l2 := [_]) [(0, true), (1, true), (2, true), (3, true), (4, true), (5, true), (6, true), (7, true), (8, true), (10, true), (9, false), (11, false), (12, false), (13, true), (14, true)] (fun u => u.cell? ⟨H2 + 1, 0, none⟩ = some (.int .i64 0) ∧ u.cell? ⟨H, 0, none⟩ = some (.slice da x.decls.length dc) ∧ u.cell? ⟨H, 1, none⟩ = some (.slice ra x.rules.length rc) ∧ u.cell? ⟨H2, 0, none⟩ = some (.slice da2 y.decls.length dc2) ∧ u.cell? ⟨H2, 1, none⟩ = some (.slice ra2 y.rules.length rc2)) (by kernel_rfl) (by kernel_rfl) (by repeat (first | refine loose_then ?_ | refine loose_block ?_ | exact loose_body (P := Try.prog) (fn := Try.f8))) ⟨f0, c0, c1, d0, d1⟩ ?_
    refine mixI_take (.string z) rfl rfl (fun u hu => by go_simp) ?_
    refine mixI_take (.int .i64 (z.size : Int)) rfl rfl (fun u hu => by go_simp) ?_
    refine mixI_take (.bool false) rfl rfl (fun u hu => by go_simp) ?_
    refine mixI_take (.bool false) rfl rfl (fun u hu => by go_simp) ?_
    refine mixI_take (.pointer (some ⟨H2 + 1, 0, none⟩)) rfl (wanted_at (g := 3) (b := false) (t := 37) rfl rfl (by (repeat refine put_far (by decide) ?_); refine put_here rfl ?_; (repeat refine put_size ?_); exact of_decide_eq_true rfl)) (fun u hu => by go_simp) ?_
    refine mixI_take (.int .i64 0) rfl (wanted_at (g := 3) (b := false) (t := 37) rfl rfl (by (repeat refine put_far (by decide) ?_); refine put_here rfl ?_; (repeat refine put_size ?_); exact of_decide_eq_true rfl)) (fun u hu => by obtain ⟨h1, h2, h3, h4, h5⟩ := hu; go_simp) ?_
    refine mixI_take (.bool true) rfl (wanted_at (g := 3) (b := false) (t := 37) rfl rfl (by (repeat refine put_far (by decide) ?_); refine put_here rfl ?_; (repeat refine put_size ?_); exact of_decide_eq_true rfl)) (fun u hu => by go_simp) ?_
    refine mixI_take (.bool true) rfl (wanted_at (g := 3) (b := false) (t := 37) rfl rfl (by (repeat refine put_far (by decide) ?_); refine put_here rfl ?_; (repeat refine put_size ?_); exact of_decide_eq_true rfl)) (fun u hu => by go_simp) ?_
    refine mixI_take (.agg #[.slice da x.decls.length dc, .slice ra x.rules.length rc]) rfl (wanted_at (g := 7) (b := true) (t := 41) rfl rfl (by (repeat refine put_far (by decide) ?_); refine put_here rfl ?_; (repeat refine put_size ?_); exact of_decide_eq_true rfl)) (fun u hu => by obtain ⟨h1, h2, h3, h4, h5⟩ := hu; go_simp) ?_
    refine mixI_take (.agg #[.slice da2 y.decls.length dc2, .slice ra2 y.rules.length rc2]) rfl (wanted_at (g := 7) (b := true) (t := 41) rfl rfl (by (repeat refine put_far (by decide) ?_); refine put_here rfl ?_; (repeat refine put_size ?_); exact of_decide_eq_true rfl)) (fun u hu => by obtain ⟨h1, h2, h3, h4, h5⟩ := hu; go_simp) ?_
    have hbd : Below W5.heap.size W5 W5.drew := (Below.refl _ _).drew
    refine mixI_go rfl (wanted_at (g := 7) (b := true) (t := 41) rfl rfl (by (repeat refine put_far (by decide) ?_); refine put_here rfl ?_; (repeat refine put_size ?_); exact of_decide_eq_true rfl)) fun K5 hK5 => wp_go (f := 24) (args := #[.agg #[.slice da x.decls.length dc, .slice ra x.rules.length rc]]) (by go_simp) ((plain_tx (w := W5.drew) HO.out rfl (Reads.below hbd Q2.out) (Reads.below hbd Q5.out)).mono ?_)
    rintro e w6 ⟨p0, q0, p1, q1, rfl, P0, P1, hb6'⟩
    have hb6 : Below W5.heap.size W5 w6 := hbd.trans hb6'
    refine hK5.out _ _ ⟨(hb6.cell (World.block_lt_of_cell? _ _ f0)).trans f0, (hb6.cell (World.block_lt_of_cell? _ _ c0)).trans c0, (hb6.cell (World.block_lt_of_cell? _ _ c1)).trans c1, (hb6.cell (World.block_lt_of_cell? _ _ d0)).trans d0, (hb6.cell (World.block_lt_of_cell? _ _ d1)).trans d1⟩ ?_
    refine mixI_go rfl (wanted_at (g := 7) (b := true) (t := 41) rfl rfl (by (repeat refine put_far (by decide) ?_); refine put_here rfl ?_; (repeat refine put_size ?_); exact of_decide_eq_true rfl)) fun K7 hK7 => wp_go (f := 24) (args := #[.agg #[.slice da2 y.decls.length dc2, .slice ra2 y.rules.length rc2]]) (by go_simp) ((plain_tx (w := w6) HOY.out HPL.out (Reads.below hb6 Q3.out) (Reads.below hb6 Q4.out)).mono ?_)
    rintro e w7 ⟨p2, q2, p3, q3, rfl, P2, P3, hb7'⟩
    have hb7 : Below W5.heap.size W5 w7 := hb6.trans (hb7'.mono hb6.size)
    refine hK7.out _ _ ⟨(hb7.cell (World.block_lt_of_cell? _ _ f0)).trans f0, (hb7.cell (World.block_lt_of_cell? _ _ c0)).trans c0, (hb7.cell (World.block_lt_of_cell? _ _ c1)).trans c1, (hb7.cell (World.block_lt_of_cell? _ _ d0)).trans d0, (hb7.cell (World.block_lt_of_cell? _ _ d1)).trans d1⟩ ?_
    refine mixI_go rfl (wanted_at (g := 7) (b := true) (t := 41) rfl rfl (by (repeat refine put_far (by decide) ?_); refine put_here rfl ?_; (repeat refine put_size ?_); exact of_decide_eq_true rfl)) fun K8 hK8 => wp_go (f := 17) (args := #[.agg #[.slice p0 (plainT x).decls.length q0, .slice p1 (plainT x).rules.length q1], .agg #[.slice p2 (plainT x).decls.length q2, .slice p3 (plainT x).rules.length q3]]) (by go_simp) ((same_source (x := plainT x) (w := w7) (Reads.below hb7' P0) P2 (Reads.below hb7' P1) P3).mono ?_)
    rintro e w8 ⟨rfl, hb8'⟩
    have hb8 : Below W5.heap.size W5 w8 := hb7.trans (hb8'.mono hb7.size)
    refine hK8.out _ _ ⟨(hb8.cell (World.block_lt_of_cell? _ _ f0)).trans f0, (hb8.cell (World.block_lt_of_cell? _ _ c0)).trans c0, (hb8.cell (World.block_lt_of_cell? _ _ c1)).trans c1, (hb8.cell (World.block_lt_of_cell? _ _ d0)).trans d0, (hb8.cell (World.block_lt_of_cell? _ _ d1)).trans d1⟩ ?_
    refine mixI_take (.bool true) rfl (wanted_at (g := 3) (b := false) (t := 37) rfl rfl (by (repeat refine put_far (by decide) ?_); refine put_here rfl ?_; (repeat refine put_size ?_); exact of_decide_eq_true rfl)) (fun u hu => by go_simp) ?_
    refine mixI_take (.bool true) rfl rfl (fun u hu => by go_simp) ?_
    show wpList _ _ _ _ _ _
    clear hK5 hK7 hK8
    go_wp2_with fail
    go_ret
    exact ⟨rfl, HBG.out.trans (hb8.mono HBG.out.size)⟩
  · obtain hzb : 65536 < z.size := by omega
    have hzz : z.size ≤ 1000000000 := by have := HLEN.out; omega
    have HY := Lib.hid (show SaysR z.data.toList (.bad 3 0) from .bad (by unfold toks; rw [if_pos (by rw [hzl]; omega)]))
    clear hzl hzs hbig HAG HLEN
    go_wp2_with (go_at_call 14; refine (ReadQ.text_any (by omega) HM3.out HY.out).mono ?_; rintro e wt ⟨rfl, hbt⟩)
    have hgt : (65536 : Int) < (z.size : Int) := by omega
    have hgd : decide ((65536 : Int) < (z.size : Int)) = true := decide_eq_true hgt
    have hmix : Try.prog.follows Departure.mixedOrders = true := by kernel_rfl
    go_region_o
    all_goals (go_wp2; go_ret; have hb6 := HB5.out.trans (hbt.mono HB5.out.size); exact ⟨rfl, ((hb6.alloc hb6.size _).alloc (by have := hb6.size; simp; omega) _).drew⟩)
theorem read_any {s : ByteArray} {w : World} {m : Int} (hs : s.size ≤ 140737488351232) (hm : w.cell? ⟨0, 0, none⟩ = some (.int .i64 m)) :
    Calls Try.prog 8 #[.string s] w fun e w' => e = .returned (.bool true) ∧ Below w.heap.size w w' := by
  by_cases h : s.size ≤ 15000
  · obtain ⟨o, ho⟩ := ReadQ.says s.data.toList
    cases o with
    | bad e p => exact read_bad hm h ho
    | ok x k => exact read_good hm h ho
  · exact read_big hm (by omega) hs
end Go.Proofs.Ytelpkldlkpoioaa.Law12B
