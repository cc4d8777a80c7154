/- The document's writer: may a word be written? -/
import Derived.Test.YtghebacphjglbaaGreatM5
import Derived.Test.YtghebacphjglbaaGreatWrO
import Derived.Test.YtghebacphjglbaaGreatWrK
import Derived.Test.YtghebacphjglbaaGreatM17
import Derived.Test.YtghebacphjglbaaGreatM2
import Derived.Deep.AppendLies
namespace Go.Proofs.YtghebacphjglbaaGreat.RwB
open Go.RowKit Go.Proofs.YtghebacphjglbaaGreat.Lexy Go.Proofs.YtghebacphjglbaaGreat.LexA Go.Proofs.YtghebacphjglbaaGreat.LexB Go.Proofs.YtghebacphjglbaaGreat.LexC Go.Proofs.YtghebacphjglbaaGreat.LexD Go.Proofs.YtghebacphjglbaaGreat.LexE Go.Proofs.YtghebacphjglbaaGreat.LexF Go.Proofs.YtghebacphjglbaaGreat.LexG Go.Proofs.YtghebacphjglbaaGreat.Heap Go.Proofs.YtghebacphjglbaaGreat.Dat Go.Proofs.YtghebacphjglbaaGreat.Ready Go.Proofs.YtghebacphjglbaaGreat.ReadC Go.Proofs.YtghebacphjglbaaGreat.ReadI Go.Proofs.YtghebacphjglbaaGreat.Same Go.Proofs.YtghebacphjglbaaGreat.WrE Go.Proofs.YtghebacphjglbaaGreat.WrO Go.Proofs.YtghebacphjglbaaGreat.WrK Go.Proofs.YtghebacphjglbaaGreat.RwP Go.Proofs.YtghebacphjglbaaGreat.RwA

theorem okWs_all (d : Nat) : ∀ xs : List Wd, okWs d xs = xs.all (okW d)
  | [] => by rw [okWs]; rfl
  | x :: xs => by rw [okWs, okWs_all d xs]; rfl
def WordRef (x : Wd) : Prop := ∀ (w : World) (n : List UInt8) (xs : List Wd) (z : Int) (s : Value) (d : Nat), x = .mk n xs z → Reads w (.row 33 3 xs.length (wdsD xs)) s → bigW x → d ≤ 1000 →
  Calls Tryz.prog 73 #[.agg #[.string (bs n), s, .int .i64 z], .int .i64 (d : Int)] w fun e w' => e = .returned (.bool (okW d x)) ∧ Below w.heap.size w w'
set_option maxRecDepth 100000 in
set_option maxHeartbeats 4000000 in
theorem word_step {n : List UInt8} {xs : List Wd} {z : Int} (ih : ∀ y ∈ xs, WordRef y) : WordRef (.mk n xs z) := by
  intro w n' xs' z' s d he hR hbg hd1
  injection he with e1 e2 e3
  subst e1 e2 e3
  rw [bigW] at hbg
  obtain ⟨hn, hl, hbs⟩ := hbg
  unfold Lim at hn hl
  obtain ⟨a0, c0, rfl⟩ := Reads.slice hR
  rw [okW, okWs_all]
  have HX := Lib.hid (box1 w (.cells #[.string (bs n), .slice a0 xs.length c0, .int .i64 z] 33 (0, 0)))
  have HR := Lib.hid hR; have HBS := Lib.hid (bigWs_mem hbs)
  have hnc : ∀ (u : World) (v : Bool), nameB n = v → Calls Tryz.prog 54 #[.string (bs n)] u fun e w' => e = .returned (.bool v) ∧ u = w' := fun u v hv => name_b hn hv
  have HNC := Lib.hid hnc
  -- an argument's
  have hih : d ≤ 60 → ∀ (k : Nat) (hk : k < xs.length) (u : World) (n1 : List UInt8) (ys : List Wd) (z1 : Int) (s1 : Value), xs[k] = .mk n1 ys z1 → Reads u (.row 33 3 ys.length (wdsD ys)) s1 → Calls Tryz.prog 73 #[.agg #[.string (bs n1), s1, .int .i64 z1], .int .i64 ((d : Int) + 1)] u fun e w' => e = .returned (.bool (okW (d + 1) xs[k])) ∧ Below u.heap.size u w' := fun hd k hk u n1 ys z1 s1 hy hr => by
    have := ih _ (List.getElem_mem hk) u n1 ys z1 s1 (d + 1) hy hr (bigWs_mem hbs _ (List.getElem_mem hk)) (by omega)
    rw [show ((d + 1 : Nat) : Int) = (d : Int) + 1 by omega] at this
    exact this
  have HIH := Lib.hid hih
  clear hR ih hbs hnc hih
  generalize hNB : nameB n = nb at *
  have HNB := Lib.hid hNB; clear hNB
  have HF0 := Lib.hid (show ¬ d ≤ 60 → (decide (d ≤ 60) && (nb && xs.all (okW (d + 1)))) = false from fun h => by rw [decide_eq_false h]; rfl)
  have HF1 := Lib.hid (show nb = false → (decide (d ≤ 60) && (nb && xs.all (okW (d + 1)))) = false from fun h => by rw [h]; simp)
  have HF2 := Lib.hid (show xs.all (okW (d + 1)) = false → (decide (d ≤ 60) && (nb && xs.all (okW (d + 1)))) = false from fun h => by rw [h]; simp)
  have HF3 := Lib.hid (show d ≤ 60 → nb = true → xs.all (okW (d + 1)) = true → (decide (d ≤ 60) && (nb && xs.all (okW (d + 1)))) = true from fun h1 h2 h3 => by rw [decide_eq_true h1, h2, h3]; rfl)
  generalize (decide (d ≤ 60) && (nb && xs.all (okW (d + 1)))) = okF at *
  generalize bs n = zn at *
  go_enter Tryz.func73, Tryz.ntmps73
  go_upto_region 1 with fail
  generalize hw1 : w.alloc (.cells #[.string zn, .slice a0 xs.length c0, .int .i64 z] 33 (0, 0)) = w1 at *
  clear hw1
  obtain ⟨x1, hbx, hsx⟩ := HX.out
  have X1 := Lib.hid x1; have HB := Lib.hid hbx
  have y0 : w1.cell? ⟨w.heap.size, 0, none⟩ = some (.string zn) := cell_of_row w1 _ 0 _ _ (0, 0) x1
  clear HX x1 hbx
  generalize hH : w.heap.size = H at *
  have HZ := Lib.hid hH; clear hH
  by_cases hd : d ≤ 60
  · have hdi : ¬ (60 : Int) < (d : Int) := by omega
    have hdn : ¬ 60 < d := by omega
    have HC := Lib.hid (HIH.out hd)
    have HD := Lib.hid hd
    clear hd HIH
    cases nb with
    | false =>
      go_wp2_with (go_at_call 54; refine (HNC.out w1 false rfl).mono ?_; rintro e w2 ⟨rfl, rfl⟩)
      go_ret
      exact ⟨ret_bool (HF1.out trivial).symm, by rw [HZ.out]; exact HB.out⟩
    | true =>
      go_upto_region 3 with (go_at_call 54; refine (HNC.out w1 true rfl).mono ?_; rintro e w2 ⟨rfl, rfl⟩)
      go_wp2
      go_loopg [5] xs.length (fun g i wr => ∃ k, k ≤ xs.length ∧ g = xs.length - k ∧ i = .int .i64 (k : Int) ∧ (xs.take k).all (okW (d + 1)) = true ∧ Below w1.heap.size w1 wr)
      case atStart => exact ⟨0, Nat.zero_le _, by omega, rfl, by simp, Below.refl _ _⟩
      case round =>
        clear y0
        obtain ⟨k, hk, rfl, rfl, hall, hb0⟩ := hrel
        have hbz := hb0.size
        have c1 : wr.cell? ⟨H, 1, none⟩ = some (.slice a0 xs.length c0) := cell_of_row wr H 1 _ _ (0, 0) ((hb0.block H (by omega)).trans X1.out)
        have HBR := Lib.hid (HB.out.trans (hb0.mono (by omega)))
        have HB0 := Lib.hid hb0; clear hb0
        by_cases hlt : k < xs.length
        · obtain ⟨g, o, rfl, r1⟩ := Reads.elems HR.out (by omega)
          obtain ⟨n1, ys, z1, hy⟩ : ∃ n1 ys z1, xs[k] = .mk n1 ys z1 := by cases xs[k]; exact ⟨_, _, _, rfl⟩
          obtain ⟨a1, c2, e0, e1, e2, hry⟩ := word_cells r1 hlt hy
          have hgl : g < H := by rw [← HZ.out]; exact World.block_lt_of_cell? _ _ e0
          have q0 := (HBR.out.cell (p := ⟨g, o + k * 3, none⟩) hgl).trans e0
          have q1 := (HBR.out.cell (p := ⟨g, o + k * 3 + 1, none⟩) hgl).trans e1
          have q2 := (HBR.out.cell (p := ⟨g, o + k * 3 + 2, none⟩) hgl).trans e2
          have HCC := Lib.hid (HC.out k hlt wr n1 ys z1 _ hy (Reads.below (w := w) (by rw [HZ.out]; exact HBR.out) hry))
          have HV0 := Lib.hid (all_false (okW (d + 1)) hlt); have HV1 := Lib.hid (all_take (okW (d + 1)) hlt hall)
          clear hry r1 e0 e1 e2 hall hy
          generalize okW (d + 1) xs[k] = ov at *
          generalize bs n1 = zn1 at *
          have j0 : (0 : Int) ≤ (k : Int) := by omega
          have j1 : (k : Int) < (xs.length : Int) := by omega
          cases ov with
          | true =>
            go_wp2_with (go_at_call 73; refine (HCC.out).mono ?_; rintro e w2 ⟨rfl, hb2⟩; have HB2 := Lib.hid (HB0.out.trans (hb2.mono hbz)); clear hb2)
            go_roundg (xs.length - (k + 1))
            case measure => omega
            case rel => exact ⟨k + 1, by omega, rfl, by go_num, HV1.out trivial, HB2.out⟩
          | false =>
            go_wp2_with (go_at_call 73; refine (HCC.out).mono ?_; rintro e w2 ⟨rfl, hb2⟩; have HB2 := Lib.hid (HB0.out.trans (hb2.mono hbz)); clear hb2)
            go_ret
            exact ⟨ret_bool (HF2.out (HV0.out trivial)).symm, by rw [HZ.out]; exact HB.out.trans (HB2.out.mono (by omega))⟩
        · obtain rfl : k = xs.length := by omega
          rw [List.take_length] at hall
          have HA := Lib.hid hall; clear hall
          go_wp2
          go_ret
          exact ⟨ret_bool (HF3.out HD.out trivial HA.out).symm, by rw [HZ.out]; exact HBR.out⟩
  · have hdi : (60 : Int) < (d : Int) := by omega
    have hdn : 60 < d := by omega
    have HD := Lib.hid hd
    clear hd HIH
    go_wp2
    go_ret
    exact ⟨ret_bool (HF0.out HD.out).symm, by rw [HZ.out]; exact HB.out⟩
theorem word_ref : ∀ x : Wd, WordRef x
  | .mk n xs z => word_step fun y _hy => word_ref y
  termination_by x => SizeOf.sizeOf x
  decreasing_by have := List.sizeOf_lt_of_mem _hy; simp; omega
end Go.Proofs.YtghebacphjglbaaGreat.RwB
/- The document's writer: rows of texts. -/
namespace Go.Proofs.YtghebacphjglbaaGreat.RwC
open Go.RowKit Go.Proofs.YtghebacphjglbaaGreat.Lexy Go.Proofs.YtghebacphjglbaaGreat.LexA Go.Proofs.YtghebacphjglbaaGreat.LexB Go.Proofs.YtghebacphjglbaaGreat.LexC Go.Proofs.YtghebacphjglbaaGreat.LexD Go.Proofs.YtghebacphjglbaaGreat.LexE Go.Proofs.YtghebacphjglbaaGreat.LexF Go.Proofs.YtghebacphjglbaaGreat.LexG Go.Proofs.YtghebacphjglbaaGreat.Heap Go.Proofs.YtghebacphjglbaaGreat.Dat Go.Proofs.YtghebacphjglbaaGreat.Ready Go.Proofs.YtghebacphjglbaaGreat.ReadC Go.Proofs.YtghebacphjglbaaGreat.ReadI Go.Proofs.YtghebacphjglbaaGreat.Same Go.Proofs.YtghebacphjglbaaGreat.WrE Go.Proofs.YtghebacphjglbaaGreat.WrH

theorem cat_bs (a b : List UInt8) : bs a ++ bs b = bs (a ++ b) := by apply ByteArray.ext; simp [bs]
theorem bs_size (l : List UInt8) : (bs l).size = l.length := by simp [bs, ByteArray.size]
set_option maxRecDepth 100000 in
set_option maxHeartbeats 2000000 in
theorem row_r {ps : List (List UInt8)} {w : World} {s : Value} (hR : Reads w (.row 9 1 ps.length (nmsD ps)) s) (hn : ps.length ≤ 140737488351232) (hlen : (wrN ps).length ≤ 140737488351232) :
    Calls Tryz.prog 35 #[s] w fun e w' => e = .returned (.string (bs (wrN ps))) ∧ w = w' := by
  obtain ⟨ao, c, rfl⟩ := Reads.slice hR
  cases ps with
  | nil =>
    go_enter Tryz.func35, Tryz.ntmps35
    go_wp2
    go_ret
    exact ⟨rfl, rfl⟩
  | cons p qs =>
    have HR := Lib.hid hR; clear hR
    obtain ⟨g, o, rfl, r1⟩ := Reads.elems HR.out (by simp)
    have d0 := name_cell r1 (k := 0) (by simp)
    simp only [List.getElem_cons_zero, Nat.add_zero] at d0
    have HR1 := Lib.hid r1; clear r1
    generalize hps : p :: qs = ps at *
    have HPS := Lib.hid hps; clear hps
    have hpos : 0 < ps.length := by rw [← HPS.out]; simp
    have hpos0 : ((ps.length : Int) == 0) = false := beq_eq_false_iff_ne.2 (by omega)
    have hj0 : (0 : Int) < (ps.length : Int) := by omega
    have HOL := Lib.hid (open_len ps)
    have ho1 : openN (ps.take 1) = [40] ++ p := by rw [← HPS.out]; simp [openN]
    have hl1 := HOL.out 1
    rw [ho1] at hl1
    simp only [List.length_append, List.length_singleton] at hl1
    have hcat : ({ data := #[40] } : ByteArray) ++ bs p = bs ([40] ++ p) := cat_bs [40] p
    have hsp := bs_size p
    have HO1 := Lib.hid ho1; clear ho1
    generalize hz1 : bs ([40] ++ p) = z1 at *
    have HZ1 := Lib.hid hz1; clear hz1
    generalize bs p = zp at *
    go_enter Tryz.func35, Tryz.ntmps35
    go_wp2
    clear hcat hsp d0
    go_loopg [3, 4] (ps.length - 1) (fun gk cv i wr => ∃ k, 1 ≤ k ∧ k ≤ ps.length ∧ gk = ps.length - k ∧ i = .int .i64 (k : Int) ∧ cv = .string (bs (openN (ps.take k))) ∧ wr = w)
    case atStart => exact ⟨1, by omega, by omega, by omega, rfl, by rw [HO1.out, HZ1.out], rfl⟩
    case round =>
      obtain ⟨k, hk1, hk, rfl, rfl, rfl, rfl⟩ := hrel
      by_cases hlt : k < ps.length
      · have d1 := name_cell HR1.out hlt
        have hnx := open_next hlt
        rw [if_neg (by omega)] at hnx
        have hle := HOL.out (k + 1)
        rw [hnx] at hle
        simp only [List.length_append, List.length_cons, List.length_nil] at hle
        have hc1 : bs (openN (ps.take k)) ++ ({ data := #[44, 32] } : ByteArray) = bs (openN (ps.take k) ++ [44, 32]) := cat_bs _ [44, 32]
        have hc2 : bs (openN (ps.take k) ++ [44, 32]) ++ bs ps[k] = bs (openN (ps.take (k + 1))) := by rw [cat_bs, hnx, List.append_assoc]
        have hs1 := bs_size (openN (ps.take k))
        have hs2 := bs_size (openN (ps.take k) ++ [44, 32])
        have hs3 := bs_size ps[k]
        simp only [List.length_append, List.length_cons, List.length_nil] at hs2
        have j0 : (0 : Int) ≤ (k : Int) := by omega
        have j1 : (k : Int) < (ps.length : Int) := by omega
        clear hnx
        generalize hzc : bs (openN (ps.take (k + 1))) = zc at *
        have HZC := Lib.hid hzc; clear hzc
        generalize bs (openN (ps.take k) ++ [44, 32]) = zb at *
        generalize bs (openN (ps.take k)) = za at *
        generalize bs ps[k] = zx at *
        generalize (openN (ps.take k)).length = la at *
        generalize ps[k].length = lx at *
        go_wp2
        go_roundg (ps.length - (k + 1))
        case measure => omega
        case rel => exact ⟨k + 1, by omega, by omega, rfl, by go_num, by rw [HZC.out], rfl⟩
      · obtain rfl : k = ps.length := by omega
        have hwr := wrN_eq ps
        rw [if_neg (by intro e; rw [e] at hpos; simp at hpos)] at hwr
        have hc1 : bs (openN ps) ++ ({ data := #[41] } : ByteArray) = bs (wrN ps) := by rw [hwr]; exact cat_bs _ [41]
        have hs1 := bs_size (openN ps)
        have hl2 : (openN ps).length + 1 ≤ 140737488351232 := by rw [hwr] at hlen; simpa using hlen
        rw [List.take_length]
        clear hwr
        generalize bs (openN ps) = za at *
        generalize hzb : bs (wrN ps) = zb at *
        have HZB := Lib.hid hzb; clear hzb
        go_wp2
        go_ret
        exact ⟨congrArg (fun z => Ending.returned (Value.string z)) HZB.out.symm, rfl⟩
end Go.Proofs.YtghebacphjglbaaGreat.RwC
/- The document's writer: a word's text. -/
namespace Go.Proofs.YtghebacphjglbaaGreat.RwD
open Go.RowKit Go.Proofs.YtghebacphjglbaaGreat.Lexy Go.Proofs.YtghebacphjglbaaGreat.LexA Go.Proofs.YtghebacphjglbaaGreat.LexB Go.Proofs.YtghebacphjglbaaGreat.LexC Go.Proofs.YtghebacphjglbaaGreat.LexD Go.Proofs.YtghebacphjglbaaGreat.LexE Go.Proofs.YtghebacphjglbaaGreat.LexF Go.Proofs.YtghebacphjglbaaGreat.LexG Go.Proofs.YtghebacphjglbaaGreat.Heap Go.Proofs.YtghebacphjglbaaGreat.Dat Go.Proofs.YtghebacphjglbaaGreat.Ready Go.Proofs.YtghebacphjglbaaGreat.ReadA Go.Proofs.YtghebacphjglbaaGreat.ReadC Go.Proofs.YtghebacphjglbaaGreat.ReadI Go.Proofs.YtghebacphjglbaaGreat.ReadM Go.Proofs.YtghebacphjglbaaGreat.Same Go.Proofs.YtghebacphjglbaaGreat.Cut Go.Proofs.YtghebacphjglbaaGreat.WrA Go.Proofs.YtghebacphjglbaaGreat.WrB Go.Proofs.YtghebacphjglbaaGreat.WrC Go.Proofs.YtghebacphjglbaaGreat.WrD Go.Proofs.YtghebacphjglbaaGreat.WrE Go.Proofs.YtghebacphjglbaaGreat.WrH Go.Proofs.YtghebacphjglbaaGreat.WrK Go.Proofs.YtghebacphjglbaaGreat.RwC

theorem wrWs_map : ∀ xs : List Wd, wrWs xs = wrNs (xs.map wrW)
  | [] => by rw [wrWs]; rfl
  | x :: xs => by rw [wrWs, wrWs_map xs]; rfl
theorem wrP_map : ∀ xs : List Wd, wrP xs = wrN (xs.map wrW)
  | [] => by rw [wrP]; rfl
  | x :: xs => by rw [wrP, wrWs_map xs]; rfl
theorem wrNs_len : ∀ ps : List (List UInt8), ps.length ≤ (wrNs ps).length ∧ ∀ p ∈ ps, p.length ≤ (wrNs ps).length
  | [] => ⟨Nat.zero_le _, fun p h => by cases h⟩
  | q :: ps => by
    obtain ⟨h1, h2⟩ := wrNs_len ps
    simp only [wrNs, List.length_cons, List.length_append]
    refine ⟨by omega, fun p hp => ?_⟩
    rcases List.mem_cons.1 hp with rfl | hp
    · omega
    · have := h2 p hp; omega
theorem wrN_len : ∀ ps : List (List UInt8), ps.length ≤ (wrN ps).length ∧ ∀ p ∈ ps, p.length ≤ (wrN ps).length
  | [] => ⟨Nat.zero_le _, fun p h => by cases h⟩
  | q :: ps => by
    obtain ⟨h1, h2⟩ := wrNs_len ps
    simp only [wrN, List.length_cons, List.length_append]
    refine ⟨by omega, fun p hp => ?_⟩
    rcases List.mem_cons.1 hp with rfl | hp
    · omega
    · have := h2 p hp; omega
def strsV (l : List (List UInt8)) : List Value := l.map fun x => .string (bs x)
theorem strsV_reads {W : World} : ∀ l : List (List UInt8), ReadsV W (nmsD l) (strsV l)
  | [] => rfl
  | _ :: l => ⟨_, _, rfl, Reads.lit_iff.2 rfl, strsV_reads l⟩
theorem strs_own {B : Nat} {w : World} {v : Value} {l : List (List UInt8)} (h : w.ownsRow B 9 1 v l.length (strsV l)) {W : World} (hB : W.heap.size = B) (hb : Below B W w) : Reads w (.row 9 1 l.length (nmsD l)) v := by
  subst hB
  exact OwnR.reads ⟨_, h, strsV_reads l⟩ hb
/-- what is told of a word -/
def OneRef (x : Wd) : Prop := ∀ (w : World) (n : List UInt8) (xs : List Wd) (z : Int) (s : Value), x = .mk n xs z → Reads w (.row 33 3 xs.length (wdsD xs)) s → (wrW x).length ≤ 1000000000000 →
  Calls Tryz.prog 57 #[.agg #[.string (bs n), s, .int .i64 z]] w fun e w' => e = .returned (.string (bs (wrW x))) ∧ Below w.heap.size w w'
set_option maxRecDepth 100000 in
set_option maxHeartbeats 4000000 in
theorem one_step {n : List UInt8} {xs : List Wd} {z : Int} (ih : ∀ y ∈ xs, OneRef y) : OneRef (.mk n xs z) := by
  intro w n' xs' z' s he hR hlen
  injection he with e1 e2 e3
  subst e1 e2 e3
  obtain ⟨a0, c0, rfl⟩ := Reads.slice hR
  obtain ⟨ti, hi, hz0, hz1, hz2⟩ := stInfo
  rw [wrW, wrP_map, List.length_append] at hlen
  rw [wrW, wrP_map]
  obtain ⟨hxl, hxe⟩ := wrN_len (xs.map wrW)
  rw [List.length_map] at hxl
  have hcat : bs n ++ bs (wrN (xs.map wrW)) = bs (n ++ wrN (xs.map wrW)) := cat_bs _ _
  have hsn := RwC.bs_size n
  have hsw := RwC.bs_size (wrN (xs.map wrW))
  have HX := Lib.hid (box1 w (.cells #[.string (bs n), .slice a0 xs.length c0, .int .i64 z] 33 (0, 0)))
  have hih : ∀ (k : Nat) (hk : k < xs.length) (u : World) (n1 : List UInt8) (ys : List Wd) (z1 : Int) (s1 : Value), xs[k] = .mk n1 ys z1 → Reads u (.row 33 3 ys.length (wdsD ys)) s1 → Calls Tryz.prog 57 #[.agg #[.string (bs n1), s1, .int .i64 z1]] u fun e w' => e = .returned (.string (bs (wrW xs[k]))) ∧ Below u.heap.size u w' := fun k hk u n1 ys z1 s1 hy hr =>
    ih _ (List.getElem_mem hk) u n1 ys z1 s1 hy hr (by have := hxe _ (List.mem_map_of_mem (List.getElem_mem hk)); omega)
  have hrow : ∀ (u : World) (v : Value), Reads u (.row 9 1 xs.length (nmsD (xs.map wrW))) v → Calls Tryz.prog 35 #[v] u fun e w' => e = .returned (.string (bs (wrN (xs.map wrW)))) ∧ Below u.heap.size u w' := fun u v hr => by
    have h := row_r (ps := xs.map wrW) (w := u) (s := v) (by rw [List.length_map]; exact hr) (by rw [List.length_map]; omega) (by omega)
    exact h.mono fun e w' he => ⟨he.1, by rw [he.2]; exact Below.refl _ _⟩
  have HR := Lib.hid hR; have HIH := Lib.hid hih; have HROW := Lib.hid hrow
  clear hR ih hih hrow hxe
  have hl2 : (wrN (xs.map wrW)).length + n.length ≤ 1000000000000 := by omega
  clear hlen
  generalize hzr : bs (wrN (xs.map wrW)) = zr at *
  generalize hzf : bs (n ++ wrN (xs.map wrW)) = zf at *
  generalize (wrN (xs.map wrW)).length = lr at *
  generalize n.length = ln at *
  clear hzr hzf
  generalize bs n = zn at *
  go_enter Tryz.func57, Tryz.ntmps57
  go_upto_region 1 with fail
  generalize hw1 : w.alloc (.cells #[.string zn, .slice a0 xs.length c0, .int .i64 z] 33 (0, 0)) = w1 at *
  clear hw1
  obtain ⟨x1, hbx, hsx⟩ := HX.out
  have X1 := Lib.hid x1; have HB := Lib.hid hbx; have HS := Lib.hid hsx
  clear HX x1 hbx hsx
  generalize hH : w.heap.size = H at *
  have HZ := Lib.hid hH; clear hH
  have hn0 : w1.ownsRow w1.heap.size 9 1 (.slice none 0 0) 0 (strsV ((xs.take 0).map wrW)) := World.ownsRow_nil _ _ _ _
  have HN0 := Lib.hid hn0; clear hn0
  go_upto_region 2 with fail
  go_wp2
  go_loopg [3, 4] xs.length (fun g lv i wr => ∃ k, k ≤ xs.length ∧ g = xs.length - k ∧ i = .int .i64 (k : Int) ∧ wr.ownsRow w1.heap.size 9 1 lv k (strsV ((xs.take k).map wrW)) ∧ Below w1.heap.size w1 wr)
  case atStart => exact ⟨0, Nat.zero_le _, by omega, rfl, HN0.out, Below.refl _ _⟩
  case round =>
    clear HN0
    obtain ⟨k, hk, rfl, rfl, hown, hb0⟩ := hrel
    have hbz := hb0.size
    have c1 : wr.cell? ⟨H, 1, none⟩ = some (.slice a0 xs.length c0) := cell_of_row wr H 1 _ _ (0, 0) ((hb0.block H (by have := HS.out; omega)).trans X1.out)
    have c0' : wr.cell? ⟨H, 0, none⟩ = some (.string zn) := cell_of_row wr H 0 _ _ (0, 0) ((hb0.block H (by have := HS.out; omega)).trans X1.out)
    have HBR := Lib.hid (HB.out.trans (hb0.mono (by have := HS.out; omega)))
    have HB0 := Lib.hid hb0; clear hb0
    by_cases hlt : k < xs.length
    · obtain ⟨g, o, rfl, r1⟩ := Reads.elems HR.out (by omega)
      obtain ⟨n1, ys, z1, hy⟩ : ∃ n1 ys z1, xs[k] = .mk n1 ys z1 := by cases xs[k]; exact ⟨_, _, _, rfl⟩
      obtain ⟨a1, c2, e0, e1, e2, hry⟩ := word_cells r1 hlt hy
      have hgl : g < H := by rw [← HZ.out]; exact World.block_lt_of_cell? _ _ e0
      have q0 := (HBR.out.cell (p := ⟨g, o + k * 3, none⟩) hgl).trans e0
      have q1 := (HBR.out.cell (p := ⟨g, o + k * 3 + 1, none⟩) hgl).trans e1
      have q2 := (HBR.out.cell (p := ⟨g, o + k * 3 + 2, none⟩) hgl).trans e2
      have HCC := Lib.hid (HIH.out k hlt wr n1 ys z1 _ hy (Reads.below (w := w) (by rw [HZ.out]; exact HBR.out) hry))
      have HSN := Lib.hid (show strsV ((xs.take (k + 1)).map wrW) = strsV ((xs.take k).map wrW) ++ [.string (bs (wrW xs[k]))] by rw [List.take_succ_eq_append_getElem hlt]; simp only [strsV, List.map_append, List.map_cons, List.map_nil])
      have HO := Lib.hid hown
      clear hry r1 e0 e1 e2 hy hown c0'
      generalize bs (wrW xs[k]) = zk at *
      generalize bs n1 = zn1 at *
      have j0 : (0 : Int) ≤ (k : Int) := by omega
      have j1 : (k : Int) < (xs.length : Int) := by omega
      go_wp2_with (first
        | (go_at_call 57; go_must (refine (HCC.out).mono ?_; rintro e w2 ⟨rfl, hb2⟩; have HB2 := Lib.hid hb2; clear hb2))
        | (at_builtin; go_must (refine wpList_append_lies _ rfl _ _ _ rfl w1.heap.size 9 ti _ 1 16 Tryz.underlying23 hi hz0 hz1 hz2 rfl (by omega) _ k (strsV ((xs.take k).map wrW)) rfl ((Heap.own_new HO.out HB2.out).alloc _) ⟨w2.heap.size, 0, none⟩ 1 1 [.string zk] rfl rfl (World.news_of_block (heap_alloc_new w2 _)) (by simp [Value.oneCell']) (by omega) (by unfold maxLen; omega) (by omega) (by have := HB2.out.size; simp; omega) (w2.heap.size + 1) (by simp) ?_; intro gg cap w4 ho4 hg4 _ _; have HO4 := Lib.hid ho4; have HG4 := Lib.hid hg4; clear ho4 hg4)))
      go_roundg (xs.length - (k + 1))
      case measure => omega
      case rel => exact ⟨k + 1, by omega, rfl, by go_num, by rw [HSN.out]; exact HO4.out, ((HB0.out.trans (HB2.out.mono hbz)).alloc (by have := HB2.out.size; omega) _).grown HG4.out (by have := HB2.out.size; simp; omega) (fun j hj => (((Heap.own_new HO.out HB2.out).alloc (.cells #[.string zk] 9)).lt j hj).1)⟩
    · obtain rfl : k = xs.length := by omega
      rw [List.take_length] at hown
      have hrd : Reads wr (.row 9 1 xs.length (nmsD (xs.map wrW))) u3 := by
        have := strs_own (l := xs.map wrW) (by rw [List.length_map]; exact hown) rfl HB0.out
        rwa [List.length_map] at this
      have HRD := Lib.hid hrd; clear hrd hown
      have g0 := ext_cell c0'
      go_wp2_with fail
      refine wp_region_ext (Below wr.heap.size wr) ((Below.refl _ _).drew) (by kernel_rfl) (by kernel_rfl) ?_
      repeat (go_big_quiet_step ((go_at_call 35; exact ext_new (Nat.le_refl _) (HROW.out _ _ (ext_reads HRD.out _)))))
      refine wpQuiet_nil ?_
      intro _ hw'
      obtain ⟨xx, hw''⟩ := hw'
      subst hw''
      go_wp2_with fail
      go_ret
      exact ⟨rfl, by rw [HZ.out]; exact HBR.out.trans (xx.i.mono (by have := HBR.out.size; have := HZ.out; omega))⟩
theorem one_ref : ∀ x : Wd, OneRef x
  | .mk n xs z => one_step fun y _hy => one_ref y
  termination_by x => SizeOf.sizeOf x
  decreasing_by have := List.sizeOf_lt_of_mem _hy; simp; omega
end Go.Proofs.YtghebacphjglbaaGreat.RwD
/- The document's writer: an alternative's text. -/
namespace Go.Proofs.YtghebacphjglbaaGreat.RwE
open Go.RowKit Go.Proofs.YtghebacphjglbaaGreat.Lexy Go.Proofs.YtghebacphjglbaaGreat.LexA Go.Proofs.YtghebacphjglbaaGreat.LexB Go.Proofs.YtghebacphjglbaaGreat.LexC Go.Proofs.YtghebacphjglbaaGreat.LexD Go.Proofs.YtghebacphjglbaaGreat.LexE Go.Proofs.YtghebacphjglbaaGreat.LexF Go.Proofs.YtghebacphjglbaaGreat.LexG Go.Proofs.YtghebacphjglbaaGreat.Heap Go.Proofs.YtghebacphjglbaaGreat.Dat Go.Proofs.YtghebacphjglbaaGreat.Ready Go.Proofs.YtghebacphjglbaaGreat.ReadA Go.Proofs.YtghebacphjglbaaGreat.ReadC Go.Proofs.YtghebacphjglbaaGreat.ReadH Go.Proofs.YtghebacphjglbaaGreat.ReadI Go.Proofs.YtghebacphjglbaaGreat.ReadM Go.Proofs.YtghebacphjglbaaGreat.Same Go.Proofs.YtghebacphjglbaaGreat.Cut Go.Proofs.YtghebacphjglbaaGreat.WrA Go.Proofs.YtghebacphjglbaaGreat.WrB Go.Proofs.YtghebacphjglbaaGreat.WrC Go.Proofs.YtghebacphjglbaaGreat.WrD Go.Proofs.YtghebacphjglbaaGreat.WrE Go.Proofs.YtghebacphjglbaaGreat.WrG Go.Proofs.YtghebacphjglbaaGreat.WrH Go.Proofs.YtghebacphjglbaaGreat.WrK Go.Proofs.YtghebacphjglbaaGreat.RwC Go.Proofs.YtghebacphjglbaaGreat.RwD

theorem wrL_take (ws : List Wd) (k : Nat) (hk : k < ws.length) : wrL (ws.take (k + 1)) = wrL (ws.take k) ++ [32] ++ wrW ws[k] := by
  rw [List.take_succ_eq_append_getElem hk]
  simp only [wrL, List.flatMap_append, List.flatMap_cons, List.flatMap_nil, List.append_nil, List.append_assoc, List.cons_append, List.nil_append]
theorem wrL_le (ws : List Wd) (k : Nat) : (wrL (ws.take k)).length ≤ (wrL ws).length := by
  have : wrL ws = wrL (ws.take k) ++ wrL (ws.drop k) := by unfold wrL; rw [← List.flatMap_append, List.take_append_drop]
  rw [this, List.length_append]; omega
theorem wrL_mem (ws : List Wd) (k : Nat) (hk : k < ws.length) : (wrW ws[k]).length ≤ (wrL ws).length := by
  have := wrL_le ws (k + 1)
  rw [wrL_take ws k hk] at this
  simp only [List.length_append] at this; omega
theorem wrL_cnt : ∀ ws : List Wd, ws.length ≤ (wrL ws).length
  | [] => Nat.zero_le _
  | x :: ws => by
    have := wrL_cnt ws
    have e : wrL (x :: ws) = 32 :: wrW x ++ wrL ws := rfl
    rw [e]; simp only [List.length_cons, List.length_append]; omega
set_option maxRecDepth 100000 in
set_option maxHeartbeats 8000000 in
theorem line_r {x : Al} {w : World} {s : Value} (hR : Reads w (.row 33 3 x.words.length (wdsD x.words)) s) (hlen : (wrA x).length ≤ 1000000000000) :
    Calls Tryz.prog 36 #[.agg #[s, .string (bs x.prec), .bool x.has, .string (bs x.action), .int .i64 x.whr, .int .i64 x.at_]] w fun e w' => e = .returned (.string (bs (wrA x))) ∧ Below w.heap.size w w' := by
  obtain ⟨ws, prec, has, act, whr, at_⟩ := x
  simp only at hR ⊢
  unfold wrA at hlen ⊢
  simp only [List.length_append, List.length_singleton] at hlen ⊢
  obtain ⟨a0, c0, rfl⟩ := Reads.slice hR
  have hcnt := wrL_cnt ws
  have HX := Lib.hid (box1 w (.cells #[.slice a0 ws.length c0, .string (bs prec), .bool has, .string (bs act), .int .i64 whr, .int .i64 at_] 35 (0, 0)))
  have hih : ∀ (k : Nat) (hk : k < ws.length) (u : World) (n1 : List UInt8) (ys : List Wd) (z1 : Int) (s1 : Value), ws[k] = .mk n1 ys z1 → Reads u (.row 33 3 ys.length (wdsD ys)) s1 → Calls Tryz.prog 57 #[.agg #[.string (bs n1), s1, .int .i64 z1]] u fun e w' => e = .returned (.string (bs (wrW ws[k]))) ∧ Below u.heap.size u w' := fun k hk u n1 ys z1 s1 hy hr =>
    one_ref _ u n1 ys z1 s1 hy hr (by have := wrL_mem ws k hk; omega)
  have hLT : ∀ k (hk : k < ws.length), (wrL (ws.take k)).length + 1 + (wrW ws[k]).length ≤ (wrL ws).length := fun k hk => by
    have := wrL_le ws (k + 1)
    rw [wrL_take ws k hk] at this
    simpa only [List.length_append, List.length_singleton] using this
  have HR := Lib.hid hR; have HIH := Lib.hid hih; have HLT := Lib.hid hLT
  clear hR hih hLT
  have HLEN := Lib.hid hlen; clear hlen
  generalize hG : bs (wrL ws ++ (wrPrec prec ++ (wrAct has act ++ [10]))) = zF
  have HG := Lib.hid hG; clear hG
  go_enter Tryz.func36, Tryz.ntmps36
  go_upto_region 1 with fail
  generalize hw1 : w.alloc (.cells #[.slice a0 ws.length c0, .string (bs prec), .bool has, .string (bs act), .int .i64 whr, .int .i64 at_] 35 (0, 0)) = w1 at *
  clear hw1
  obtain ⟨x1, hbx, hsx⟩ := HX.out
  have X1 := Lib.hid x1; have HB := Lib.hid hbx; have HS := Lib.hid hsx
  clear HX x1 hbx hsx
  generalize hH : w.heap.size = H at *
  have HZ := Lib.hid hH; clear hH
  go_upto_region 2 with fail
  go_wp2
  go_loopg [3, 4] ws.length (fun g lv i wr => ∃ k, k ≤ ws.length ∧ g = ws.length - k ∧ i = .int .i64 (k : Int) ∧ lv = .string (bs (wrL (ws.take k))) ∧ Below w1.heap.size w1 wr)
  case atStart => exact ⟨0, Nat.zero_le _, by omega, rfl, rfl, Below.refl _ _⟩
  case round =>
    obtain ⟨k, hk, rfl, rfl, rfl, hb0⟩ := hrel
    have hbz := hb0.size
    have X2 := Lib.hid ((hb0.block H (by have := HS.out; omega)).trans X1.out)
    have c1 : wr.cell? ⟨H, 0, none⟩ = some (.slice a0 ws.length c0) := cell_of_row wr H 0 _ _ (0, 0) X2.out
    have HBR := Lib.hid (HB.out.trans (hb0.mono (by have := HS.out; omega)))
    have HB0 := Lib.hid hb0; clear hb0
    by_cases hlt : k < ws.length
    · obtain ⟨g, o, rfl, r1⟩ := Reads.elems HR.out (by omega)
      obtain ⟨n1, ys, z1, hy⟩ : ∃ n1 ys z1, ws[k] = .mk n1 ys z1 := by cases ws[k]; exact ⟨_, _, _, rfl⟩
      obtain ⟨a1, c2, e0, e1, e2, hry⟩ := word_cells r1 hlt hy
      have hgl : g < H := by rw [← HZ.out]; exact World.block_lt_of_cell? _ _ e0
      have q0 := (HBR.out.cell (p := ⟨g, o + k * 3, none⟩) hgl).trans e0
      have q1 := (HBR.out.cell (p := ⟨g, o + k * 3 + 1, none⟩) hgl).trans e1
      have q2 := (HBR.out.cell (p := ⟨g, o + k * 3 + 2, none⟩) hgl).trans e2
      have HCC := Lib.hid (HIH.out k hlt wr n1 ys z1 _ hy (Reads.below (w := w) (by rw [HZ.out]; exact HBR.out) hry))
      have hcat1 : bs (wrL (ws.take k)) ++ ({ data := #[32] } : ByteArray) = bs (wrL (ws.take k) ++ [32]) := cat_bs _ [32]
      have hcat2 : bs (wrL (ws.take k) ++ [32]) ++ bs (wrW ws[k]) = bs (wrL (ws.take (k + 1))) := by rw [cat_bs, wrL_take ws k hlt]
      have hs1 := RwC.bs_size (wrL (ws.take k))
      have hs2 := RwC.bs_size (wrL (ws.take k) ++ [32])
      have hs3 := RwC.bs_size (wrW ws[k])
      have hlk := HLT.out k hlt
      have hll := HLEN.out
      simp only [List.length_append, List.length_singleton] at hs2
      clear hry r1 e0 e1 e2 hy
      generalize hzn : bs (wrL (ws.take (k + 1))) = zn at *
      have HZN := Lib.hid hzn; clear hzn
      generalize bs (wrL (ws.take k) ++ [32]) = zb at *
      generalize bs (wrL (ws.take k)) = za at *
      generalize bs (wrW ws[k]) = zk at *
      generalize (wrL (ws.take k)).length = la at *
      generalize (wrW ws[k]).length = lk at *
      generalize bs n1 = zn1 at *
      have j0 : (0 : Int) ≤ (k : Int) := by omega
      have j1 : (k : Int) < (ws.length : Int) := by omega
      go_wp2_with ((go_at_call 57; go_must (refine (HCC.out).mono ?_; rintro e w2 ⟨rfl, hb2⟩; have HB2 := Lib.hid hb2; clear hb2)))
      go_roundg (ws.length - (k + 1))
      case measure => omega
      case rel => exact ⟨k + 1, by omega, rfl, by go_num, by rw [HZN.out], HB0.out.trans (HB2.out.mono hbz)⟩
    · obtain rfl : k = ws.length := by omega
      rw [List.take_length]
      have hll := HLEN.out
      have d1 : wr.cell? ⟨H, 1, none⟩ = some (.string (bs prec)) := cell_of_row wr H 1 _ _ (0, 0) X2.out
      have d2 : wr.cell? ⟨H, 2, none⟩ = some (.bool has) := cell_of_row wr H 2 _ _ (0, 0) X2.out
      have d3 : wr.cell? ⟨H, 3, none⟩ = some (.string (bs act)) := cell_of_row wr H 3 _ _ (0, 0) X2.out
      have hsw := RwC.bs_size (wrL ws)
      have hsp := RwC.bs_size prec
      have hsa := RwC.bs_size act
      have HFIN := Lib.hid (show Below H w wr from HBR.out)
      clear HIH HLT HLEN HR X1 X2 HB HS HBR HB0
      -- the precedence
      by_cases hp : prec = []
      · have tp : ((bs prec).toList == ([] : List UInt8)) = true := by rw [hp, bs_toList]; rfl
        have tp2 : ((bs prec).toList == ({ data := #[] } : ByteArray).toList) = true := by rw [hp]; exact (strs_eq [] []).trans rfl
        have hpe : wrPrec prec = [] := by unfold wrPrec; rw [if_pos hp]
        rw [hpe] at hll
        have HG1 := HG.out; rw [hpe] at HG1
        simp only [List.nil_append] at HG1
        cases has with
        | false =>
          have hce : bs (wrL ws) ++ ({ data := #[10] } : ByteArray) = zF := by rw [← HG1]; exact cat_bs _ [10]
          simp only [wrAct, if_neg (by decide : ¬ (false = true)), List.length_nil] at hll
          clear HG1
          generalize bs (wrL ws) = zw at *
          generalize (wrL ws).length = lw at *
          clear hp
          go_wp2
          go_ret
          exact ⟨rfl, by rw [HZ.out]; exact HFIN.out⟩
        | true =>
          have hc1 : bs (wrL ws) ++ ({ data := #[32, 123] } : ByteArray) = bs (wrL ws ++ [32, 123]) := cat_bs _ [32, 123]
          have hc2 : bs (wrL ws ++ [32, 123]) ++ bs act = bs (wrL ws ++ [32, 123] ++ act) := cat_bs _ _
          have hc3 : bs (wrL ws ++ [32, 123] ++ act) ++ ({ data := #[125] } : ByteArray) = bs (wrL ws ++ [32, 123] ++ act ++ [125]) := cat_bs _ [125]
          have hc4 : bs (wrL ws ++ [32, 123] ++ act ++ [125]) ++ ({ data := #[10] } : ByteArray) = zF := by
            rw [← HG1]
            refine (cat_bs _ [10]).trans ?_
            congr 1; simp [wrAct]
          have hs2 := RwC.bs_size (wrL ws ++ [32, 123])
          have hs3 := RwC.bs_size (wrL ws ++ [32, 123] ++ act)
          have hs4 := RwC.bs_size (wrL ws ++ [32, 123] ++ act ++ [125])
          have hla : (wrAct true act).length = act.length + 3 := by simp [wrAct]
          rw [hla] at hll
          simp only [List.length_append, List.length_cons, List.length_nil] at hs2 hs3 hs4 hll
          clear hla HG1
          generalize bs (wrL ws ++ [32, 123] ++ act ++ [125]) = z4 at *
          generalize bs (wrL ws ++ [32, 123] ++ act) = z3 at *
          generalize bs (wrL ws ++ [32, 123]) = z2 at *
          generalize bs (wrL ws) = zw at *
          generalize (wrL ws).length = lw at *
          clear hp
          generalize bs act = zact at *
          generalize act.length = lact at *
          go_wp2
          go_ret
          exact ⟨rfl, by rw [HZ.out]; exact HFIN.out⟩
      · have tp : ((bs prec).toList == ([] : List UInt8)) = false := by rw [bs_toList]; exact beq_eq_false_iff_ne.2 hp
        have tp2 : ((bs prec).toList == ({ data := #[] } : ByteArray).toList) = false := (strs_eq prec []).trans (decide_eq_false hp)
        have hpe : wrPrec prec = [32, 37, 112, 114, 101, 99, 32] ++ prec := by unfold wrPrec; rw [if_neg hp]; rfl
        rw [hpe] at hll
        have HG1 := HG.out; rw [hpe] at HG1
        have hp1 : bs (wrL ws) ++ ({ data := #[32, 37, 112, 114, 101, 99, 32] } : ByteArray) = bs (wrL ws ++ [32, 37, 112, 114, 101, 99, 32]) := cat_bs _ [32, 37, 112, 114, 101, 99, 32]
        have hp2 : bs (wrL ws ++ [32, 37, 112, 114, 101, 99, 32]) ++ bs prec = bs (wrL ws ++ [32, 37, 112, 114, 101, 99, 32] ++ prec) := cat_bs _ _
        have hps2 := RwC.bs_size (wrL ws ++ [32, 37, 112, 114, 101, 99, 32])
        have hps3 := RwC.bs_size (wrL ws ++ [32, 37, 112, 114, 101, 99, 32] ++ prec)
        simp only [List.length_append, List.length_cons, List.length_nil] at hps2 hps3 hll
        rw [show wrL ws ++ ([32, 37, 112, 114, 101, 99, 32] ++ prec ++ (wrAct has act ++ [10])) = (wrL ws ++ [32, 37, 112, 114, 101, 99, 32] ++ prec) ++ (wrAct has act ++ [10]) by simp only [List.append_assoc]] at HG1
        generalize hlq : wrL ws ++ [32, 37, 112, 114, 101, 99, 32] ++ prec = lq at *
        have hlql : lq.length = (wrL ws).length + 7 + prec.length := by rw [← hlq, List.length_append, List.length_append]; rfl
        clear hlq
        cases has with
        | false =>
          have hce : bs lq ++ ({ data := #[10] } : ByteArray) = zF := by rw [← HG1]; exact cat_bs _ [10]
          simp only [wrAct, if_neg (by decide : ¬ (false = true)), List.length_nil] at hll
          clear HG1
          generalize bs lq = zq at *
          generalize bs (wrL ws ++ [32, 37, 112, 114, 101, 99, 32]) = zp at *
          generalize bs (wrL ws) = zw at *
          generalize (wrL ws).length = lw at *
          clear hp
          generalize bs prec = zprec at *
          generalize prec.length = lprec at *
          go_wp2
          go_ret
          exact ⟨rfl, by rw [HZ.out]; exact HFIN.out⟩
        | true =>
          have hc1 : bs lq ++ ({ data := #[32, 123] } : ByteArray) = bs (lq ++ [32, 123]) := cat_bs _ [32, 123]
          have hc2 : bs (lq ++ [32, 123]) ++ bs act = bs (lq ++ [32, 123] ++ act) := cat_bs _ _
          have hc3 : bs (lq ++ [32, 123] ++ act) ++ ({ data := #[125] } : ByteArray) = bs (lq ++ [32, 123] ++ act ++ [125]) := cat_bs _ [125]
          have hc4 : bs (lq ++ [32, 123] ++ act ++ [125]) ++ ({ data := #[10] } : ByteArray) = zF := by
            rw [← HG1]
            refine (cat_bs _ [10]).trans ?_
            congr 1; simp [wrAct]
          have hs2 := RwC.bs_size (lq ++ [32, 123])
          have hs3 := RwC.bs_size (lq ++ [32, 123] ++ act)
          have hs4 := RwC.bs_size (lq ++ [32, 123] ++ act ++ [125])
          have hla : (wrAct true act).length = act.length + 3 := by simp [wrAct]
          rw [hla] at hll
          simp only [List.length_append, List.length_cons, List.length_nil] at hs2 hs3 hs4
          clear hla HG1
          generalize bs (lq ++ [32, 123] ++ act ++ [125]) = z4 at *
          generalize bs (lq ++ [32, 123] ++ act) = z3 at *
          generalize bs (lq ++ [32, 123]) = z2 at *
          generalize bs lq = zq at *
          generalize bs (wrL ws ++ [32, 37, 112, 114, 101, 99, 32]) = zp at *
          generalize bs (wrL ws) = zw at *
          generalize (wrL ws).length = lw at *
          clear hp
          generalize bs prec = zprec at *
          generalize prec.length = lprec at *
          generalize bs act = zact at *
          generalize act.length = lact at *
          go_wp2
          go_ret
          exact ⟨rfl, by rw [HZ.out]; exact HFIN.out⟩
end Go.Proofs.YtghebacphjglbaaGreat.RwE
