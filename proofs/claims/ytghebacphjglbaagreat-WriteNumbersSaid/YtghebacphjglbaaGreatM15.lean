/- How much a word is: gristmillkit.WordsOf, and the law's own names, walked. -/
import Derived.Test.YtghebacphjglbaaGreatWrO
import Derived.Test.YtghebacphjglbaaGreatWrL
namespace Go.Proofs.YtghebacphjglbaaGreat.WgA
open Go.RowKit Go.Proofs.YtghebacphjglbaaGreat.Lexy Go.Proofs.YtghebacphjglbaaGreat.LexA Go.Proofs.YtghebacphjglbaaGreat.LexB Go.Proofs.YtghebacphjglbaaGreat.LexC Go.Proofs.YtghebacphjglbaaGreat.LexD Go.Proofs.YtghebacphjglbaaGreat.LexE Go.Proofs.YtghebacphjglbaaGreat.LexF Go.Proofs.YtghebacphjglbaaGreat.LexG Go.Proofs.YtghebacphjglbaaGreat.Heap Go.Proofs.YtghebacphjglbaaGreat.Dat Go.Proofs.YtghebacphjglbaaGreat.Ready Go.Proofs.YtghebacphjglbaaGreat.ReadA Go.Proofs.YtghebacphjglbaaGreat.ReadC Go.Proofs.YtghebacphjglbaaGreat.ReadI Go.Proofs.YtghebacphjglbaaGreat.Same Go.Proofs.YtghebacphjglbaaGreat.Cut Go.Proofs.YtghebacphjglbaaGreat.WrT Go.Proofs.YtghebacphjglbaaGreat.WrO Go.Proofs.YtghebacphjglbaaGreat.WrK

theorem szWs_take : ∀ (l : List Wd) (k : Nat), szWs (l.take k) ≤ szWs l
  | [], _ => by simp
  | _ :: _, 0 => by simp [szWs]
  | y :: l, k + 1 => by rw [List.take_succ_cons, szWs, szWs]; have := szWs_take l k; omega
theorem szWs_next {l : List Wd} {k : Nat} (h : k < l.length) : szWs (l.take (k + 1)) = szWs (l.take k) + szW l[k] := by
  have e : l.take (k + 1) = l.take k ++ [l[k]] := by simp
  rw [e, szWs_snoc]
mutual
/-- how long a word's names are, a twentieth of it, as far as so much -/
def nmV (left : Nat) : Wd → Nat
  | .mk n xs _ => nmVs left (n.length / 20) xs
def nmVs (left acc : Nat) : List Wd → Nat
  | [] => acc
  | x :: xs => if acc ≤ left then nmVs left (acc + nmV (left - acc) x) xs else acc
end
mutual
theorem nmV_le : ∀ (x : Wd) (left : Nat), nmV left x ≤ left → nmW x ≤ nmV left x
  | .mk n xs z, left, h => by rw [nmV] at h ⊢; rw [nmW]; exact nmVs_le xs left _ h
theorem nmVs_le : ∀ (xs : List Wd) (left acc : Nat), nmVs left acc xs ≤ left → acc + nmWs xs ≤ nmVs left acc xs
  | [], left, acc, h => by rw [nmVs, nmWs]; omega
  | x :: xs, left, acc, h => by
    rw [nmVs] at h ⊢
    rw [nmWs]
    split at h
    · rename_i hl
      rw [if_pos hl]
      have h1 := nmVs_le xs left _ h
      have h2 := nmV_le x (left - acc) (by omega)
      omega
    · omega
end
mutual
theorem nmV_lim : ∀ (x : Wd) (left : Nat), bigW x → nmV left x ≤ left + 7036874417562
  | .mk n xs z, left, h => by
    rw [bigW] at h
    rw [nmV]
    have := h.1
    unfold Lim at this
    exact nmVs_lim xs left _ h.2.2 (by omega)
theorem nmVs_lim : ∀ (xs : List Wd) (left acc : Nat), bigWs xs → acc ≤ left + 7036874417562 → nmVs left acc xs ≤ left + 7036874417562
  | [], left, acc, _, h => by rw [nmVs]; exact h
  | x :: xs, left, acc, hb, h => by
    rw [bigWs] at hb
    rw [nmVs]
    split
    · have := nmV_lim x (left - acc) hb.1
      exact nmVs_lim xs left _ hb.2 (by omega)
    · exact h
end
theorem nmVs_next {left acc : Nat} {xs : List Wd} {q : Nat} (h : q < xs.length) (hl : acc ≤ left) : nmVs left acc (xs.drop q) = nmVs left (acc + nmV (left - acc) xs[q]) (xs.drop (q + 1)) := by
  rw [List.drop_eq_getElem_cons h, nmVs, if_pos hl]
theorem nmVs_over {left acc : Nat} {xs : List Wd} (hl : ¬ acc ≤ left) : nmVs left acc xs = acc := by
  cases xs with
  | nil => rw [nmVs]
  | cons x xs => rw [nmVs, if_neg hl]
def WordsV (x : Wd) : Prop := ∀ (w : World) (n : List UInt8) (xs : List Wd) (z : Int) (s : Value) (most : Nat), x = .mk n xs z → Reads w (.row 33 3 xs.length (wdsD xs)) s → bigW x → most ≤ 2000 →
  Calls Tryz.prog 26 #[.agg #[.string (bs n), s, .int .i64 z], .int .i64 (most : Int)] w fun e w' => e = .returned (.int .i64 ((min (szW x) (most + 1) : Nat) : Int)) ∧ Below w.heap.size w w'
set_option maxRecDepth 100000 in
set_option maxHeartbeats 4000000 in
theorem wordsV_step {n : List UInt8} {xs : List Wd} {z : Int} (ih : ∀ y ∈ xs, WordsV y) : WordsV (.mk n xs z) := by
  intro w n' xs' z' s most he hR hbg hmost
  injection he with e1 e2 e3
  subst e1 e2 e3
  rw [bigW] at hbg
  obtain ⟨hn, hl, hbs⟩ := hbg
  unfold Lim at hn hl
  obtain ⟨a0, c0, rfl⟩ := Reads.slice hR
  rw [szW]
  have HX := Lib.hid (box1 w (.cells #[.string (bs n), .slice a0 xs.length c0, .int .i64 z] 33 (0, 0)))
  have HR := Lib.hid hR; have HIH := Lib.hid ih; have HBS := Lib.hid (bigWs_mem hbs)
  clear hR ih hbs
  generalize bs n = zn at *
  go_enter Tryz.func26, Tryz.ntmps26
  go_wp2
  generalize hw1 : w.alloc (.cells #[.string zn, .slice a0 xs.length c0, .int .i64 z] 33 (0, 0)) = w1 at *
  clear hw1
  obtain ⟨x1, hbx, hsx⟩ := HX.out
  have X1 := Lib.hid x1; have HB := Lib.hid hbx
  clear HX x1 hbx
  generalize hH : w.heap.size = H at *
  have HZ := Lib.hid hH; clear hH
  go_loopg [5, 6] xs.length (fun gk cv i wr => ∃ q cc : Nat, q ≤ xs.length ∧ gk = xs.length - q ∧ i = .int .i64 (q : Int) ∧ cv = .int .i64 (cc : Int) ∧ cc ≤ most + 1 ∧ min cc (most + 1) = min (1 + szWs (xs.take q)) (most + 1) ∧ Below w1.heap.size w1 wr)
  case atStart => exact ⟨0, 1, by omega, by omega, rfl, rfl, by omega, by simp [szWs], Below.refl _ _⟩
  case round =>
    obtain ⟨q, cc, hq, rfl, rfl, rfl, hcc, hmin, hb0⟩ := hrel
    have HMIN := Lib.hid hmin; have HB0 := Lib.hid hb0; have hbz := hb0.size
    have c1 : wr.cell? ⟨H, 1, none⟩ = some (.slice a0 xs.length c0) := cell_of_row wr H 1 _ _ (0, 0) ((hb0.block H (by omega)).trans X1.out)
    clear hmin hb0
    by_cases hlt : q < xs.length
    · have j0 : (0 : Int) ≤ (q : Int) := by omega
      have j1 : (q : Int) < (xs.length : Int) := by omega
      by_cases hle : cc ≤ most
      · have hle2 : (cc : Int) ≤ (most : Int) := by omega
        obtain ⟨g, o, rfl, r1⟩ := Reads.elems HR.out (by omega)
        obtain ⟨n1, ys, z1, hy⟩ : ∃ n1 ys z1, xs[q] = .mk n1 ys z1 := by cases xs[q]; exact ⟨_, _, _, rfl⟩
        obtain ⟨a1, c2, e0, e1, e2, hry⟩ := word_cells r1 hlt hy
        have hgl : g < H := by rw [← HZ.out]; exact World.block_lt_of_cell? _ _ e0
        have HBR := Lib.hid (HB.out.trans (HB0.out.mono (by omega)))
        have q0 := (HBR.out.cell (p := ⟨g, o + q * 3, none⟩) hgl).trans e0
        have q1 := (HBR.out.cell (p := ⟨g, o + q * 3 + 1, none⟩) hgl).trans e1
        have q2 := (HBR.out.cell (p := ⟨g, o + q * 3 + 2, none⟩) hgl).trans e2
        have hc : ∀ u : World, Below H w u → Calls Tryz.prog 26 #[.agg #[.string (bs n1), .slice a1 ys.length c2, .int .i64 z1], .int .i64 ((most : Int) - (cc : Int))] u fun e w' => e = .returned (.int .i64 ((min (szW xs[q]) (most - cc + 1) : Nat) : Int)) ∧ Below u.heap.size u w' := fun u hu => by
          have := HIH.out _ (List.getElem_mem hlt) u n1 ys z1 _ (most - cc) hy (Reads.below (w := w) (by rw [HZ.out]; exact hu) hry) (HBS.out _ (List.getElem_mem hlt)) (by omega)
          rw [show ((most - cc : Nat) : Int) = (most : Int) - (cc : Int) by omega] at this
          exact this
        have HC := Lib.hid hc
        have HST := Lib.hid (szWs_next hlt)
        clear hc hry r1 e0 e1 e2
        generalize szW xs[q] = sy at *
        generalize hrr : min sy (most - cc + 1) = rr at *
        have HRR := Lib.hid hrr; clear hrr
        have hrl : (rr : Int) ≤ 2001 := by have := HRR.out; omega
        generalize bs n1 = zn1 at *
        go_wp2_with (go_at_call 26; refine (HC.out wr HBR.out).mono ?_; rintro e w2 ⟨rfl, hb⟩; have HB2 := Lib.hid (HB0.out.trans (hb.mono HB0.out.size)); clear hb)
        go_roundg (xs.length - (q + 1))
        case measure => omega
        case rel => exact ⟨q + 1, cc + rr, by omega, rfl, by go_num, congrArg (Value.int .i64) (by omega), by have := HRR.out; omega, by have h1 := HRR.out; have h2 := HMIN.out; rw [HST.out]; omega, HB2.out⟩
      · have hle2 : ¬ (cc : Int) ≤ (most : Int) := by omega
        have hmi : min (cc : Int) ((most : Int) + 1) = (cc : Int) := by omega
        go_wp2
        go_ret
        exact ⟨congrArg (fun v : Int => Ending.returned (Value.int .i64 v)) (by have h1 := HMIN.out; have h2 := szWs_take xs q; omega), by rw [HZ.out]; exact HB.out.trans (HB0.out.mono (by omega))⟩
    · obtain rfl : q = xs.length := by omega
      have hmi : min (cc : Int) ((most : Int) + 1) = (cc : Int) := by omega
      go_wp2
      go_ret
      have h1 := HMIN.out
      rw [List.take_length] at h1
      exact ⟨congrArg (fun v : Int => Ending.returned (Value.int .i64 v)) (by omega), by rw [HZ.out]; exact HB.out.trans (HB0.out.mono (by omega))⟩
theorem wordsV_any : ∀ x : Wd, WordsV x
  | .mk n xs z => wordsV_step fun y _hy => wordsV_any y
  termination_by x => SizeOf.sizeOf x
  decreasing_by have := List.sizeOf_lt_of_mem _hy; simp; omega
def NamesV (x : Wd) : Prop := ∀ (w : World) (n : List UInt8) (xs : List Wd) (z : Int) (s : Value) (most : Nat), x = .mk n xs z → Reads w (.row 33 3 xs.length (wdsD xs)) s → bigW x → most ≤ 2000 →
  Calls Tryz.prog 27 #[.agg #[.string (bs n), s, .int .i64 z], .int .i64 (most : Int)] w fun e w' => e = .returned (.int .i64 ((nmV most x : Nat) : Int)) ∧ Below w.heap.size w w'
set_option maxRecDepth 100000 in
set_option maxHeartbeats 4000000 in
theorem namesV_step {n : List UInt8} {xs : List Wd} {z : Int} (ih : ∀ y ∈ xs, NamesV y) : NamesV (.mk n xs z) := by
  intro w n' xs' z' s most he hR hbg hmost
  injection he with e1 e2 e3
  subst e1 e2 e3
  rw [bigW] at hbg
  obtain ⟨hn, hl, hbs⟩ := hbg
  unfold Lim at hn hl
  obtain ⟨a0, c0, rfl⟩ := Reads.slice hR
  rw [nmV]
  have HX := Lib.hid (box1 w (.cells #[.string (bs n), .slice a0 xs.length c0, .int .i64 z] 33 (0, 0)))
  have HR := Lib.hid hR; have HIH := Lib.hid ih; have HBS := Lib.hid (bigWs_mem hbs)
  clear hR ih hbs
  have hzs : (bs n).size = n.length := by simp [bs, ByteArray.size]
  generalize bs n = zn at *
  have hdv : ((zn.size : Int).tdiv 20) = ((n.length / 20 : Nat) : Int) := by rw [hzs, Int.tdiv_eq_ediv_of_nonneg (by omega)]; omega
  go_enter Tryz.func27, Tryz.ntmps27
  go_wp2
  generalize hw1 : w.alloc (.cells #[.string zn, .slice a0 xs.length c0, .int .i64 z] 33 (0, 0)) = w1 at *
  clear hw1
  obtain ⟨x1, hbx, hsx⟩ := HX.out
  have X1 := Lib.hid x1; have HB := Lib.hid hbx
  clear HX x1 hbx
  generalize hH : w.heap.size = H at *
  have HZ := Lib.hid hH; clear hH
  go_loopg [5, 6] xs.length (fun gk cv i wr => ∃ q cc : Nat, q ≤ xs.length ∧ gk = xs.length - q ∧ i = .int .i64 (q : Int) ∧ cv = .int .i64 (cc : Int) ∧ cc ≤ most + 7036874417562 ∧ nmVs most cc (xs.drop q) = nmVs most (n.length / 20) xs ∧ Below w1.heap.size w1 wr)
  case atStart => exact ⟨0, n.length / 20, by omega, by omega, rfl, rfl, by omega, by rw [List.drop_zero], Below.refl _ _⟩
  case round =>
    obtain ⟨q, cc, hq, rfl, rfl, rfl, hcc, hmin, hb0⟩ := hrel
    have HMIN := Lib.hid hmin; have HB0 := Lib.hid hb0; have hbz := hb0.size
    have c1 : wr.cell? ⟨H, 1, none⟩ = some (.slice a0 xs.length c0) := cell_of_row wr H 1 _ _ (0, 0) ((hb0.block H (by omega)).trans X1.out)
    clear hmin hb0
    by_cases hlt : q < xs.length
    · have j0 : (0 : Int) ≤ (q : Int) := by omega
      have j1 : (q : Int) < (xs.length : Int) := by omega
      by_cases hle : cc ≤ most
      · have hle2 : (cc : Int) ≤ (most : Int) := by omega
        obtain ⟨g, o, rfl, r1⟩ := Reads.elems HR.out (by omega)
        obtain ⟨n1, ys, z1, hy⟩ : ∃ n1 ys z1, xs[q] = .mk n1 ys z1 := by cases xs[q]; exact ⟨_, _, _, rfl⟩
        obtain ⟨a1, c2, e0, e1, e2, hry⟩ := word_cells r1 hlt hy
        have hgl : g < H := by rw [← HZ.out]; exact World.block_lt_of_cell? _ _ e0
        have HBR := Lib.hid (HB.out.trans (HB0.out.mono (by omega)))
        have q0 := (HBR.out.cell (p := ⟨g, o + q * 3, none⟩) hgl).trans e0
        have q1 := (HBR.out.cell (p := ⟨g, o + q * 3 + 1, none⟩) hgl).trans e1
        have q2 := (HBR.out.cell (p := ⟨g, o + q * 3 + 2, none⟩) hgl).trans e2
        have hc : ∀ u : World, Below H w u → Calls Tryz.prog 27 #[.agg #[.string (bs n1), .slice a1 ys.length c2, .int .i64 z1], .int .i64 ((most : Int) - (cc : Int))] u fun e w' => e = .returned (.int .i64 ((nmV (most - cc) xs[q] : Nat) : Int)) ∧ Below u.heap.size u w' := fun u hu => by
          have := HIH.out _ (List.getElem_mem hlt) u n1 ys z1 _ (most - cc) hy (Reads.below (w := w) (by rw [HZ.out]; exact hu) hry) (HBS.out _ (List.getElem_mem hlt)) (by omega)
          rw [show ((most - cc : Nat) : Int) = (most : Int) - (cc : Int) by omega] at this
          exact this
        have HC := Lib.hid hc
        have HST := Lib.hid (nmVs_next hlt hle)
        have hrr := nmV_lim xs[q] (most - cc) (HBS.out _ (List.getElem_mem hlt))
        clear hc hry r1 e0 e1 e2
        generalize nmV (most - cc) xs[q] = rr at *
        have hrl : (rr : Int) ≤ 7036874420000 := by omega
        generalize bs n1 = zn1 at *
        go_wp2_with (go_at_call 27; refine (HC.out wr HBR.out).mono ?_; rintro e w2 ⟨rfl, hb⟩; have HB2 := Lib.hid (HB0.out.trans (hb.mono HB0.out.size)); clear hb)
        go_roundg (xs.length - (q + 1))
        case measure => omega
        case rel => exact ⟨q + 1, cc + rr, by omega, rfl, by go_num, congrArg (Value.int .i64) (by omega), by omega, by rw [← HST.out]; exact HMIN.out, HB2.out⟩
      · have hle2 : ¬ (cc : Int) ≤ (most : Int) := by omega
        go_wp2
        go_ret
        exact ⟨congrArg (fun v : Nat => Ending.returned (Value.int .i64 (v : Int))) ((nmVs_over hle).symm.trans HMIN.out), by rw [HZ.out]; exact HB.out.trans (HB0.out.mono (by omega))⟩
    · obtain rfl : q = xs.length := by omega
      go_wp2
      go_ret
      have h1 := HMIN.out
      rw [List.drop_length, nmVs] at h1
      exact ⟨congrArg (fun v : Nat => Ending.returned (Value.int .i64 (v : Int))) h1, by rw [HZ.out]; exact HB.out.trans (HB0.out.mono (by omega))⟩
theorem namesV_any : ∀ x : Wd, NamesV x
  | .mk n xs z => namesV_step fun y _hy => namesV_any y
  termination_by x => SizeOf.sizeOf x
  decreasing_by have := List.sizeOf_lt_of_mem _hy; simp; omega
end Go.Proofs.YtghebacphjglbaaGreat.WgA
/- The law's own great, walked: what is not great is little. -/
namespace Go.Proofs.YtghebacphjglbaaGreat.WgB
open Go.Proofs.YtghebacphjglbaaGreat.ReadO (desD rusD txD)
open Go.RowKit Go.Proofs.YtghebacphjglbaaGreat.Lexy Go.Proofs.YtghebacphjglbaaGreat.LexA Go.Proofs.YtghebacphjglbaaGreat.LexB Go.Proofs.YtghebacphjglbaaGreat.LexC Go.Proofs.YtghebacphjglbaaGreat.LexD Go.Proofs.YtghebacphjglbaaGreat.LexE Go.Proofs.YtghebacphjglbaaGreat.LexF Go.Proofs.YtghebacphjglbaaGreat.LexG Go.Proofs.YtghebacphjglbaaGreat.Heap Go.Proofs.YtghebacphjglbaaGreat.Dat Go.Proofs.YtghebacphjglbaaGreat.Ready Go.Proofs.YtghebacphjglbaaGreat.ReadA Go.Proofs.YtghebacphjglbaaGreat.ReadC Go.Proofs.YtghebacphjglbaaGreat.ReadI Go.Proofs.YtghebacphjglbaaGreat.Same Go.Proofs.YtghebacphjglbaaGreat.Cut Go.Proofs.YtghebacphjglbaaGreat.WrT Go.Proofs.YtghebacphjglbaaGreat.WrO Go.Proofs.YtghebacphjglbaaGreat.WrK Go.Proofs.YtghebacphjglbaaGreat.WgA

theorem tdiv_nat {a b : Nat} {z : ByteArray} (h : z.size = a) : ((z.size : Int).tdiv (b : Int)) = ((a / b : Nat) : Int) := by rw [h, Int.tdiv_eq_ediv_of_nonneg (by omega)]; exact (Int.natCast_ediv a b).symm
theorem bsz (l : List UInt8) : (bs l).size = l.length := by simp [bs, ByteArray.size]
/-- what is told: what is not great is little -/
inductive GreatQ (w : World) (x : Tx) : Ending → World → Prop
  | mk (b : Bool) {w' : World} : (b = false → gT x ≤ 2000) → Below w.heap.size w w' → GreatQ w x (.returned (.bool b)) w'
set_option maxRecDepth 100000 in
set_option maxHeartbeats 40000000 in
theorem great_any {x : Tx} {w : World} {sd sr : Value} (hD : Reads w (.row 62 4 x.decls.length (desD x.decls)) sd) (hR : Reads w (.row 38 4 x.rules.length (rusD x.rules)) sr) (hb : bigT x) :
    Calls Tryz.prog 15 #[.agg #[sd, sr]] w (GreatQ w x) := by
  obtain ⟨ds, rs⟩ := x
  obtain ⟨hn, hm, hbd, hbr⟩ := hb
  simp only at hD hR hn hm hbd hbr
  unfold Lim at hn hm
  obtain ⟨a0, c0, rfl⟩ := Reads.slice hD
  obtain ⟨a1, c1, rfl⟩ := Reads.slice hR
  have HX := Lib.hid (box1 w (.cells #[.slice a0 ds.length c0, .slice a1 rs.length c1] 28 (0, 0)))
  have HD := Lib.hid hD; have HR := Lib.hid hR; have HBD := Lib.hid hbd; have HBR := Lib.hid hbr
  clear hD hR hbd hbr
  have hs0 : IntKind.i64.wrap ((ds.length : Int) + (rs.length : Int)) = ((ds.length + rs.length : Nat) : Int) := by unfold IntKind.wrap; simp [IntKind.bits, IntKind.signed]; omega
  go_enter Tryz.func15, Tryz.ntmps15
  go_wp2
  generalize hw1 : w.alloc (.cells #[.slice a0 ds.length c0, .slice a1 rs.length c1] 28 (0, 0)) = w1 at *
  clear hw1
  obtain ⟨x1, hbx, hsx⟩ := HX.out
  have X1 := Lib.hid x1; have HB := Lib.hid hbx
  clear HX x1 hbx
  generalize hH : w.heap.size = H at *
  have HZ := Lib.hid hH; clear hH
  go_loopg [3, 4] ds.length (fun gk cv i wr => ∃ q N : Nat, q ≤ ds.length ∧ gk = ds.length - q ∧ i = .int .i64 (q : Int) ∧ cv = .int .i64 (N : Int) ∧ N ≤ 500000000000000 ∧ (N ≤ 2000 → ds.length + rs.length + sumF gD (ds.take q) ≤ N) ∧ Below w1.heap.size w1 wr)
  case atStart => exact ⟨0, ds.length + rs.length, by omega, by omega, rfl, congrArg (Value.int .i64) (by omega), by omega, by simp [sumF], Below.refl _ _⟩
  case round =>
    obtain ⟨q, N, hq, rfl, rfl, rfl, hN, hmin, hb0⟩ := hrel
    have HMIN := Lib.hid hmin; have HB0 := Lib.hid hb0; have hbz := hb0.size
    have t0 : wr.cell? ⟨H, 0, none⟩ = some (.slice a0 ds.length c0) := cell_of_row wr H 0 _ _ (0, 0) ((hb0.block H (by omega)).trans X1.out)
    have t1 : wr.cell? ⟨H, 1, none⟩ = some (.slice a1 rs.length c1) := cell_of_row wr H 1 _ _ (0, 0) ((hb0.block H (by omega)).trans X1.out)
    clear hmin hb0
    by_cases hlt : q < ds.length ∧ N ≤ 2000
    · obtain ⟨hlt, hle⟩ := hlt
      have j0 : (0 : Int) ≤ (q : Int) := by omega
      have j1 : (q : Int) < (ds.length : Int) := by omega
      have j2 : (N : Int) ≤ 2000 := by omega
      obtain ⟨g, o, rfl, r1⟩ := Reads.elems HD.out (by omega)
      obtain ⟨a5, c5, e0, e1, e2, e3, hry⟩ := decl_cells r1 hlt
      have hgl : g < H := by rw [← HZ.out]; exact World.block_lt_of_cell? _ _ e0
      have HBR0 := Lib.hid (HB.out.trans (HB0.out.mono (by omega)))
      have q1 := (HBR0.out.cell (p := ⟨g, o + q * 4 + 1, none⟩) hgl).trans e1
      have q2 := (HBR0.out.cell (p := ⟨g, o + q * 4 + 2, none⟩) hgl).trans e2
      have hbg := HBD.out _ (List.getElem_mem hlt)
      have HST := Lib.hid (sumF_next gD hlt)
      generalize ds[q] = y at *
      obtain ⟨yk, yt, yn, ya⟩ := y
      obtain ⟨_, hyt, hyn, hye⟩ := hbg
      simp only at q1 q2 hyt hyn hye hry
      unfold Lim at hyt hyn
      have hdv := tdiv_nat (b := 20) (bsz yt)
      have hzt := bsz yt
      have HRY := Lib.hid hry; have HYE := Lib.hid hye; have Q2 := Lib.hid e2
      have HW := Lib.hid e1
      clear hry r1 e0 e1 e2 e3 hye
      generalize bs yt = zt at *
      have hmix : Tryz.prog.follows Departure.mixedOrders = true := by kernel_rfl
      go_wp2
      go_region_o
      have hNB : N + yn.length + yt.length / 20 ≤ 300000000000000 := by omega
      have hq3 : (N : Int) + (yn.length : Int) + (yt.length : Int) / 20 = ((N + yn.length + yt.length / 20 : Nat) : Int) := by omega
      have HG := Lib.hid (show gD ⟨yk, yt, yn, ya⟩ = yn.length + yt.length / 20 + gNs yn from rfl)
      generalize hN1 : N + yn.length + yt.length / 20 = N1 at *
      rw [hq3]
      have HN1 := Lib.hid hN1; clear hN1
      go_wp2
      go_loopg [3, 5] yn.length (fun gk cv i wr => ∃ k M : Nat, k ≤ yn.length ∧ gk = yn.length - k ∧ i = .int .i64 (k : Int) ∧ cv = .int .i64 (M : Int) ∧ M ≤ 500000000000000 ∧ (M ≤ 2000 → N1 + gNs (yn.take k) ≤ M) ∧ Below w1.heap.size w1 wr)
      case atStart => exact ⟨0, N1, by omega, by omega, rfl, rfl, by omega, by simp [gNs, sumF], HB0.out.drew⟩
      case round =>
        as_aux_lemma =>
          obtain ⟨k, M, hk, rfl, rfl, rfl, hM, hminM, hbw⟩ := hrel
          have HM := Lib.hid hminM; have HBW := Lib.hid hbw; have hbwz := hbw.size
          have u0 : wr.cell? ⟨H, 0, none⟩ = some (.slice (some ⟨g, o, none⟩) ds.length c0) := cell_of_row wr H 0 _ _ (0, 0) ((hbw.block H (by omega)).trans X1.out)
          have HBV := Lib.hid (HB.out.trans (hbw.mono (by omega)))
          have u2 := (HBV.out.cell (p := ⟨g, o + q * 4 + 2, none⟩) hgl).trans Q2.out
          clear hminM hbw
          by_cases hkl : k < yn.length
          · have k0 : (0 : Int) ≤ (k : Int) := by omega
            have k1 : (k : Int) < (yn.length : Int) := by omega
            by_cases hMl : M ≤ 2000
            · have k2 : (M : Int) ≤ 2000 := by omega
              obtain ⟨g2, o2, rfl, r2⟩ := Reads.elems HRY.out (by omega)
              have f0 := name_cell r2 hkl
              have hgl2 : g2 < H := by rw [← HZ.out]; exact World.block_lt_of_cell? _ _ f0
              have u3 := (HBV.out.cell (p := ⟨g2, o2 + k, none⟩) hgl2).trans f0
              have hbs := HYE.out _ (List.getElem_mem hkl)
              have HSN := Lib.hid (show gNs (yn.take (k + 1)) = gNs (yn.take k) + yn[k].length / 20 from sumF_next _ hkl)
              unfold bigS Lim at hbs
              have hdx := tdiv_nat (b := 20) (bsz yn[k])
              have hzx := bsz yn[k]
              clear r2 f0
              generalize bs yn[k] = zx at *
              generalize hlx : yn[k].length = lx at *
              clear hlx
              go_wp2
              go_roundg (yn.length - (k + 1))
              case measure => omega
              case rel => exact ⟨k + 1, M + lx / 20, by omega, rfl, by go_num, congrArg (Value.int .i64) (by omega), by omega, fun h => by have h1 := HM.out hMl; rw [HSN.out]; omega, HBW.out⟩
            · have k2 : ¬ (M : Int) ≤ 2000 := by omega
              go_wp2
              go_roundg (ds.length - (q + 1))
              case measure => omega
              case rel => exact ⟨q + 1, M, by omega, rfl, by go_num, rfl, hM, fun h => by have h1 := HM.out h; have h2 := HMIN.out hle; have h3 := HN1.out; rw [HST.out, HG.out]; omega, HBW.out⟩
          · have k1 : ¬ (k : Int) < (yn.length : Int) := by omega
            obtain rfl : k = yn.length := by omega
            have hga := HM.out
            rw [List.take_length] at hga
            have HM := Lib.hid hga
            clear hga
            go_wp2
            go_roundg (ds.length - (q + 1))
            case measure => omega
            case rel => exact ⟨q + 1, M, by omega, rfl, by go_num, rfl, hM, fun h => by have h1 := HM.out h; have h2 := HMIN.out hle; have h3 := HN1.out; rw [HST.out, HG.out]; omega, HBW.out⟩
    · by_cases hql : q < ds.length
      · have j0 : (q : Int) < (ds.length : Int) := by omega
        have j1 : ¬ (N : Int) ≤ 2000 := by omega
        have j2 : (2000 : Int) < (N : Int) := by omega
        clear hlt
        go_wp2
        go_loopg [3, 6] 1 (fun gk cv i wr => gk = 1 ∧ i = .int .i64 0 ∧ cv = .int .i64 (N : Int) ∧ Below w1.heap.size w1 wr)
        case atStart => exact ⟨rfl, rfl, rfl, HB0.out⟩
        case round =>
          as_aux_lemma =>
            obtain ⟨rfl, rfl, rfl, hb0⟩ := hrel
            have hbz := hb0.size
            have t1 : wr.cell? ⟨H, 1, none⟩ = some (.slice a1 rs.length c1) := cell_of_row wr H 1 _ _ (0, 0) ((hb0.block H (by omega)).trans X1.out)
            have HBB := Lib.hid (HB.out.trans (hb0.mono (by omega)))
            clear hb0
            by_cases hr0 : 0 < rs.length
            · have k0 : (0 : Int) < (rs.length : Int) := by omega
              go_wp2
              go_ret
              exact GreatQ.mk true (fun h => nomatch h) (by rw [HZ.out]; exact HBB.out)
            · have k0 : ¬ (0 : Int) < (rs.length : Int) := by omega
              go_wp2
              go_ret
              exact GreatQ.mk true (fun h => nomatch h) (by rw [HZ.out]; exact HBB.out)
      obtain rfl : q = ds.length := by omega
      have hga := HMIN.out
      rw [List.take_length] at hga
      have HBASE := Lib.hid hga
      have j0 : ¬ (ds.length : Int) < (ds.length : Int) := by omega
      clear hlt hga
      go_wp2
      have HBX := HB0
      clear HMIN HBD HD t0 t1 HB0 hbz hq
      generalize hbase : ds.length + rs.length + sumF gD ds = base at *
      have HBS := Lib.hid hbase; clear hbase
      go_loopg [3, 6] rs.length (fun gk cv i wr => ∃ q N : Nat, q ≤ rs.length ∧ gk = rs.length - q ∧ i = .int .i64 (q : Int) ∧ cv = .int .i64 (N : Int) ∧ N ≤ 900000000000000 ∧ (N ≤ 2000 → base + sumF gR (rs.take q) ≤ N) ∧ Below w1.heap.size w1 wr)
      case atStart => exact ⟨0, N, by omega, by omega, rfl, rfl, by omega, by have := HBASE.out; simpa [sumF] using this, HBX.out⟩
      case round =>
        as_aux_lemma =>
          clear hN HBASE HBX j0
          obtain ⟨q, N, hq, rfl, rfl, rfl, hN, hmin, hb0⟩ := hrel
          have HMIN := Lib.hid hmin; have HB0 := Lib.hid hb0; have hbz := hb0.size
          have t1 : wr.cell? ⟨H, 1, none⟩ = some (.slice a1 rs.length c1) := cell_of_row wr H 1 _ _ (0, 0) ((hb0.block H (by omega)).trans X1.out)
          clear hmin hb0
          by_cases hlt : q < rs.length ∧ N ≤ 2000
          · obtain ⟨hlt, hle⟩ := hlt
            have j0 : (0 : Int) ≤ (q : Int) := by omega
            have j1 : (q : Int) < (rs.length : Int) := by omega
            have j2 : (N : Int) ≤ 2000 := by omega
            obtain ⟨g, o, rfl, r1⟩ := Reads.elems HR.out (by omega)
            obtain ⟨a5, c5, a6, c6, e0, e1, e2, e3, hry, hrz⟩ := rule_cells r1 hlt
            have hgl : g < H := by rw [← HZ.out]; exact World.block_lt_of_cell? _ _ e0
            have HBR0 := Lib.hid (HB.out.trans (HB0.out.mono (by omega)))
            have q0 := (HBR0.out.cell (p := ⟨g, o + q * 4, none⟩) hgl).trans e0
            have q1 := (HBR0.out.cell (p := ⟨g, o + q * 4 + 1, none⟩) hgl).trans e1
            have q2 := (HBR0.out.cell (p := ⟨g, o + q * 4 + 2, none⟩) hgl).trans e2
            have hbg := HBR.out _ (List.getElem_mem hlt)
            have HST := Lib.hid (sumF_next gR hlt)
            generalize rs[q] = y at *
            obtain ⟨yn, yp, ya, yt⟩ := y
            obtain ⟨hyn, hyp, hya, hyP, hyA⟩ := hbg
            simp only at q0 q1 q2 hyn hyp hya hyP hyA hry hrz
            unfold Lim at hyn hyp hya
            have hdv := tdiv_nat (b := 20) (bsz yn)
            have hzt := bsz yn
            have HRP := Lib.hid hry; have HRA := Lib.hid hrz; have HYP := Lib.hid hyP; have HYA := Lib.hid hyA; have Q1 := Lib.hid e1; have Q2 := Lib.hid e2
            clear hry hrz r1 e0 e1 e2 e3 hyP hyA
            generalize bs yn = zt at *
            have hmix : Tryz.prog.follows Departure.mixedOrders = true := by kernel_rfl
            go_wp2
            go_region_o
            have hNB : N + yp.length + ya.length + yn.length / 20 ≤ 500000000000000 := by omega
            have hq3 : (N : Int) + (yp.length : Int) + (ya.length : Int) + (yn.length : Int) / 20 = ((N + yp.length + ya.length + yn.length / 20 : Nat) : Int) := by omega
            have HG := Lib.hid (show gR ⟨yn, yp, ya, yt⟩ = yp.length + ya.length + yn.length / 20 + gNs yp + sumF gA ya from rfl)
            generalize hN1 : N + yp.length + ya.length + yn.length / 20 = N1 at *
            rw [hq3]
            have HN1 := Lib.hid hN1; clear hN1
            go_wp2
            go_loopg [3, 7] yp.length (fun gk cv i wr => ∃ k M : Nat, k ≤ yp.length ∧ gk = yp.length - k ∧ i = .int .i64 (k : Int) ∧ cv = .int .i64 (M : Int) ∧ M ≤ 700000000000000 ∧ (M ≤ 2000 → N1 + gNs (yp.take k) ≤ M) ∧ Below w1.heap.size w1 wr)
            case atStart => exact ⟨0, N1, by omega, by omega, rfl, rfl, by omega, by simp [gNs, sumF], HB0.out.drew⟩
            case round =>
              as_aux_lemma =>
                obtain ⟨k, M, hk, rfl, rfl, rfl, hM, hminM, hbw⟩ := hrel
                have HM := Lib.hid hminM; have HBW := Lib.hid hbw; have hbwz := hbw.size
                have u0 : wr.cell? ⟨H, 1, none⟩ = some (.slice (some ⟨g, o, none⟩) rs.length c1) := cell_of_row wr H 1 _ _ (0, 0) ((hbw.block H (by omega)).trans X1.out)
                have HBV := Lib.hid (HB.out.trans (hbw.mono (by omega)))
                have u1 := (HBV.out.cell (p := ⟨g, o + q * 4 + 1, none⟩) hgl).trans Q1.out
                have u2 := (HBV.out.cell (p := ⟨g, o + q * 4 + 2, none⟩) hgl).trans Q2.out
                clear hminM hbw
                by_cases hkl : k < yp.length ∧ M ≤ 2000
                · obtain ⟨hkl, hMl⟩ := hkl
                  have k0 : (0 : Int) ≤ (k : Int) := by omega
                  have k1 : (k : Int) < (yp.length : Int) := by omega
                  have k2 : (M : Int) ≤ 2000 := by omega
                  obtain ⟨g2, o2, rfl, r2⟩ := Reads.elems HRP.out (by omega)
                  have f0 := name_cell r2 hkl
                  have hgl2 : g2 < H := by rw [← HZ.out]; exact World.block_lt_of_cell? _ _ f0
                  have u3 := (HBV.out.cell (p := ⟨g2, o2 + k, none⟩) hgl2).trans f0
                  have hbs := HYP.out _ (List.getElem_mem hkl)
                  have HSN := Lib.hid (show gNs (yp.take (k + 1)) = gNs (yp.take k) + yp[k].length / 20 from sumF_next _ hkl)
                  unfold bigS Lim at hbs
                  have hdx := tdiv_nat (b := 20) (bsz yp[k])
                  have hzx := bsz yp[k]
                  clear r2 f0
                  generalize bs yp[k] = zx at *
                  generalize hlx : yp[k].length = lx at *
                  clear hlx
                  go_wp2
                  go_roundg (yp.length - (k + 1))
                  case measure => omega
                  case rel => exact ⟨k + 1, M + lx / 20, by omega, rfl, by go_num, congrArg (Value.int .i64) (by omega), by omega, fun h => by have h1 := HM.out hMl; rw [HSN.out]; omega, HBW.out⟩
                · by_cases hkq : k < yp.length
                  · have k1 : (k : Int) < (yp.length : Int) := by omega
                    have k2 : ¬ (M : Int) ≤ 2000 := by omega
                    have k3 : ¬ M ≤ 2000 := by omega
                    clear hkl
                    go_wp2
                    go_loopg [3, 8] 1 (fun gk cv i wr => gk = 1 ∧ i = .int .i64 0 ∧ cv = .int .i64 (M : Int) ∧ Below w1.heap.size w1 wr)
                    case atStart => exact ⟨rfl, rfl, rfl, HBW.out⟩
                    case round =>
                      as_aux_lemma =>
                        obtain ⟨rfl, rfl, rfl, hbx⟩ := hrel
                        have hbxz := hbx.size
                        have z0 : wr.cell? ⟨H, 1, none⟩ = some (.slice (some ⟨g, o, none⟩) rs.length c1) := cell_of_row wr H 1 _ _ (0, 0) ((hbx.block H (by omega)).trans X1.out)
                        have z2 := ((HB.out.trans (hbx.mono (by omega))).cell (p := ⟨g, o + q * 4 + 2, none⟩) hgl).trans Q2.out
                        have HBX := Lib.hid hbx; clear hbx
                        by_cases hr0 : 0 < ya.length
                        · have l0 : (0 : Int) < (ya.length : Int) := by omega
                          go_wp2
                          go_roundg (rs.length - (q + 1))
                          case measure => omega
                          case rel => exact ⟨q + 1, M, by omega, rfl, by go_num, rfl, by omega, fun h => absurd h k3, HBX.out⟩
                        · have l0 : ¬ (0 : Int) < (ya.length : Int) := by omega
                          go_wp2
                          go_roundg (rs.length - (q + 1))
                          case measure => omega
                          case rel => exact ⟨q + 1, M, by omega, rfl, by go_num, rfl, by omega, fun h => absurd h k3, HBX.out⟩
                  obtain rfl : k = yp.length := by omega
                  have hga := HM.out
                  rw [List.take_length] at hga
                  have HMA := Lib.hid hga
                  have k1 : ¬ (yp.length : Int) < (yp.length : Int) := by omega
                  clear hkl hga HM
                  go_wp2
                  go_loopg [3, 8] ya.length (fun gk cv i wr => ∃ v L : Nat, v ≤ ya.length ∧ gk = ya.length - v ∧ i = .int .i64 (v : Int) ∧ cv = .int .i64 (L : Int) ∧ L ≤ 800000000000000 ∧ (L ≤ 2000 → N1 + gNs yp + sumF gA (ya.take v) ≤ L) ∧ Below w1.heap.size w1 wr)
                  case atStart => exact ⟨0, M, by omega, by omega, rfl, rfl, by omega, by have := HMA.out; simpa [sumF] using this, HBW.out⟩
                  case round =>
                    as_aux_lemma =>
                      clear hM HMA HBW HBV u0 u1 u2 hbwz
                      obtain ⟨v, L, hv, rfl, rfl, rfl, hL, hminL, hbv⟩ := hrel
                      have HL := Lib.hid hminL; have HBW := Lib.hid hbv; have hbwz := hbv.size
                      have u0 : wr.cell? ⟨H, 1, none⟩ = some (.slice (some ⟨g, o, none⟩) rs.length c1) := cell_of_row wr H 1 _ _ (0, 0) ((hbv.block H (by omega)).trans X1.out)
                      have HBV := Lib.hid (HB.out.trans (hbv.mono (by omega)))
                      have u2 := (HBV.out.cell (p := ⟨g, o + q * 4 + 2, none⟩) hgl).trans Q2.out
                      clear hminL hbv
                      by_cases hvl : v < ya.length
                      · have v0 : (0 : Int) ≤ (v : Int) := by omega
                        have v1 : (v : Int) < (ya.length : Int) := by omega
                        by_cases hLl : L ≤ 2000
                        · have v2 : (L : Int) ≤ 2000 := by omega
                          obtain ⟨g3, o3, rfl, r3⟩ := Reads.elems HRA.out (by omega)
                          obtain ⟨a7, c7, e0, e1, e2, e3, e4, e5, hrw⟩ := alt_cells r3 hvl
                          have hgl3 : g3 < H := by rw [← HZ.out]; exact World.block_lt_of_cell? _ _ e0
                          have d0 := (HBV.out.cell (p := ⟨g3, o3 + v * 6, none⟩) hgl3).trans e0
                          have d1 := (HBV.out.cell (p := ⟨g3, o3 + v * 6 + 1, none⟩) hgl3).trans e1
                          have d2 := (HBV.out.cell (p := ⟨g3, o3 + v * 6 + 2, none⟩) hgl3).trans e2
                          have d3 := (HBV.out.cell (p := ⟨g3, o3 + v * 6 + 3, none⟩) hgl3).trans e3
                          have d4 := (HBV.out.cell (p := ⟨g3, o3 + v * 6 + 4, none⟩) hgl3).trans e4
                          have d5 := (HBV.out.cell (p := ⟨g3, o3 + v * 6 + 5, none⟩) hgl3).trans e5
                          have hba := HYA.out _ (List.getElem_mem hvl)
                          have HSA := Lib.hid (sumF_next gA hvl)
                          clear r3 e0 e1 e2 e3 e4 e5
                          generalize ya[v] = x at *
                          obtain ⟨xw, xp, xh, xa, xz, xt⟩ := x
                          obtain ⟨hxw, hxp, hxa, hxe⟩ := hba
                          simp only at d0 d1 d2 d3 d4 d5 hxw hxp hxa hxe hrw
                          unfold Lim at hxw hxp hxa
                          have hp1 := tdiv_nat (b := 20) (bsz xp)
                          have hp2 := bsz xp
                          have ha1 := tdiv_nat (b := 50) (bsz xa)
                          have ha2 := bsz xa
                          have HRW := Lib.hid hrw; have HXE := Lib.hid hxe
                          clear hrw hxe
                          generalize bs xp = zp at *
                          generalize bs xa = za at *
                          go_upto_region 22 with fail
                          have HX2 := Lib.hid (box1 wr (.cells #[.slice a7 xw.length c7, .string zp, .bool xh, .string za, .int .i64 xz, .int .i64 xt] 35 (0, 0)))
                          generalize hw5 : wr.alloc (.cells #[.slice a7 xw.length c7, .string zp, .bool xh, .string za, .int .i64 xz, .int .i64 xt] 35 (0, 0)) = w5 at *
                          clear hw5
                          obtain ⟨x5, hb5, hs5⟩ := HX2.out
                          have X5 := Lib.hid x5
                          have HB5 := Lib.hid (HBW.out.trans (hb5.mono hbwz))
                          have y0 : w5.cell? ⟨wr.heap.size, 0, none⟩ = some (.slice a7 xw.length c7) := cell_of_row w5 _ 0 _ _ (0, 0) x5
                          have y1 : w5.cell? ⟨wr.heap.size, 1, none⟩ = some (.string zp) := cell_of_row w5 _ 1 _ _ (0, 0) x5
                          have y3 : w5.cell? ⟨wr.heap.size, 3, none⟩ = some (.string za) := cell_of_row w5 _ 3 _ _ (0, 0) x5
                          have hGH : H < wr.heap.size := by omega
                          generalize wr.heap.size = G at *
                          clear HX2 x5 hb5 d0 d1 d2 d3 d4 d5 u0 u2
                          have hA0 : L + xw.length + xa.length / 50 + xp.length / 20 ≤ 200000000000000 := by omega
                          have HGA := Lib.hid (show gA ⟨xw, xp, xh, xa, xz, xt⟩ = xw.length + xa.length / 50 + xp.length / 20 + sumF (fun w => szW w + nmW w) xw from rfl)
                          go_wp2
                          have hq5 : (L : Int) + (xw.length : Int) + (xa.length : Int) / 50 + (xp.length : Int) / 20 = ((L + xw.length + xa.length / 50 + xp.length / 20 : Nat) : Int) := by omega
                          rw [hq5]
                          generalize hK1 : L + xw.length + xa.length / 50 + xp.length / 20 = K1 at *
                          have HK1 := Lib.hid hK1; clear hK1 hq5
                          go_loopg [3, 10] xw.length (fun gk cv i wr => ∃ t J : Nat, t ≤ xw.length ∧ gk = xw.length - t ∧ i = .int .i64 (t : Int) ∧ cv = .int .i64 (J : Int) ∧ J ≤ 700000000000000 ∧ (J ≤ 2000 → K1 + sumF (fun w => szW w + nmW w) (xw.take t) ≤ J) ∧ Below w5.heap.size w5 wr)
                          case atStart => exact ⟨0, K1, by omega, by omega, rfl, rfl, by omega, by simp [sumF], Below.refl _ _⟩
                          case round =>
                            as_aux_lemma =>
                              clear y0 y1 y3
                              obtain ⟨t, J, ht, rfl, rfl, rfl, hJ, hminJ, hbj⟩ := hrel
                              have HJ := Lib.hid hminJ; have HBJ := Lib.hid hbj; have hbjz := hbj.size
                              have y0 : wr.cell? ⟨G, 0, none⟩ = some (.slice a7 xw.length c7) := cell_of_row wr _ 0 _ _ (0, 0) ((hbj.block G (by omega)).trans X5.out)
                              have HBU := Lib.hid (HB.out.trans ((HB5.out.trans (hbj.mono HB5.out.size)).mono (by omega)))
                              clear hminJ hbj
                              by_cases htl : t < xw.length
                              · have t0 : (0 : Int) ≤ (t : Int) := by omega
                                have t1 : (t : Int) < (xw.length : Int) := by omega
                                by_cases hJl : J ≤ 2000
                                · have t2 : (J : Int) ≤ 2000 := by omega
                                  obtain ⟨g4, o4, rfl, r4⟩ := Reads.elems HRW.out (by omega)
                                  obtain ⟨n1, ys, z1, hy⟩ : ∃ n1 ys z1, xw[t] = .mk n1 ys z1 := by cases xw[t]; exact ⟨_, _, _, rfl⟩
                                  obtain ⟨a8, c8, e0, e1, e2, hrz⟩ := word_cells r4 htl hy
                                  have hgl4 : g4 < H := by rw [← HZ.out]; exact World.block_lt_of_cell? _ _ e0
                                  have b0 := (HBU.out.cell (p := ⟨g4, o4 + t * 3, none⟩) hgl4).trans e0
                                  have b1 := (HBU.out.cell (p := ⟨g4, o4 + t * 3 + 1, none⟩) hgl4).trans e1
                                  have b2 := (HBU.out.cell (p := ⟨g4, o4 + t * 3 + 2, none⟩) hgl4).trans e2
                                  have hcw : ∀ u : World, Below H w u → Calls Tryz.prog 26 #[.agg #[.string (bs n1), .slice a8 ys.length c8, .int .i64 z1], .int .i64 2000] u fun e w' => e = .returned (.int .i64 ((min (szW xw[t]) 2001 : Nat) : Int)) ∧ Below u.heap.size u w' := fun u hu =>
                                    wordsV_any _ u n1 ys z1 _ 2000 hy (Reads.below (w := w) (by rw [HZ.out]; exact hu) hrz) (HXE.out _ (List.getElem_mem htl)) (Nat.le_refl _)
                                  have hcn : ∀ u : World, Below H w u → Calls Tryz.prog 27 #[.agg #[.string (bs n1), .slice a8 ys.length c8, .int .i64 z1], .int .i64 2000] u fun e w' => e = .returned (.int .i64 ((nmV 2000 xw[t] : Nat) : Int)) ∧ Below u.heap.size u w' := fun u hu =>
                                    namesV_any _ u n1 ys z1 _ 2000 hy (Reads.below (w := w) (by rw [HZ.out]; exact hu) hrz) (HXE.out _ (List.getElem_mem htl)) (Nat.le_refl _)
                                  have hr2 := nmV_lim xw[t] 2000 (HXE.out _ (List.getElem_mem htl))
                                  have HR2 := Lib.hid (nmV_le xw[t] 2000)
                                  have HR1 := Lib.hid (show min (szW xw[t]) 2001 ≤ 2000 → szW xw[t] ≤ min (szW xw[t]) 2001 from fun h => by omega)
                                  have hr1 : min (szW xw[t]) 2001 ≤ 2001 := Nat.min_le_right _ _
                                  have HCW := Lib.hid (fun xx : Ext (Below wr.heap.size wr) => hcw xx.w (HBU.out.trans (xx.i.mono (by have := HBU.out.size; have := HZ.out; omega))))
                                  have HCN := Lib.hid (fun xx : Ext (Below wr.heap.size wr) => hcn xx.w (HBU.out.trans (xx.i.mono (by have := HBU.out.size; have := HZ.out; omega))))
                                  have HSW := Lib.hid (sumF_next (fun w => szW w + nmW w) htl)
                                  clear hcw hcn hrz r4 hy e0 e1 e2
                                  generalize min (szW xw[t]) 2001 = r1 at *
                                  generalize nmV 2000 xw[t] = r2 at *
                                  generalize szW xw[t] = s1 at *
                                  generalize nmW xw[t] = s2 at *
                                  generalize bs n1 = zn1 at *
                                  have g0 := ext_cell y0; have g1 := ext_cell b0; have g2 := ext_cell b1; have g3 := ext_cell b2
                                  go_wp2
                                  refine wp_region_ext (Below wr.heap.size wr) ((Below.refl _ _).drew) (by kernel_rfl) (by kernel_rfl) ?_
                                  repeat (go_big_quiet_step (first | (go_at_call 26; exact ext_new (Nat.le_refl _) (HCW.out _)) | (go_at_call 27; exact ext_new (Nat.le_refl _) (HCN.out _))))
                                  refine wpQuiet_nil ?_
                                  intro _ hw'
                                  obtain ⟨xx, hw''⟩ := hw'
                                  subst hw''
                                  have HB7 := Lib.hid (HBJ.out.trans (xx.i.mono hbjz))
                                  go_wp2
                                  go_roundg (xw.length - (t + 1))
                                  case measure => omega
                                  case rel => exact ⟨t + 1, J + r1 + r2, by omega, rfl, by go_num, congrArg (Value.int .i64) (by omega), by omega, fun h => by have h5 := HJ.out hJl; have h6 := HR1.out (by omega); have h7 := HR2.out (by omega); rw [HSW.out]; omega, HB7.out⟩
                                · have t2 : ¬ (J : Int) ≤ 2000 := by omega
                                  go_wp2
                                  go_roundg (ya.length - (v + 1))
                                  case measure => omega
                                  case rel => exact ⟨v + 1, J, by omega, rfl, by go_num, rfl, by omega, fun h => absurd h hJl, HB5.out.trans (HBJ.out.mono HB5.out.size)⟩
                              · have t1 : ¬ (t : Int) < (xw.length : Int) := by omega
                                obtain rfl : t = xw.length := by omega
                                have hgj := HJ.out
                                rw [List.take_length] at hgj
                                have HJA := Lib.hid hgj
                                clear hgj HJ
                                go_wp2
                                go_roundg (ya.length - (v + 1))
                                case measure => omega
                                case rel => exact ⟨v + 1, J, by omega, rfl, by go_num, rfl, by omega, fun h => by have h1 := HJA.out h; have h2 := HL.out hLl; have h3 := HK1.out; rw [HSA.out, HGA.out]; omega, HB5.out.trans (HBJ.out.mono HB5.out.size)⟩
                        · have v2 : ¬ (L : Int) ≤ 2000 := by omega
                          go_wp2
                          go_roundg (rs.length - (q + 1))
                          case measure => omega
                          case rel => exact ⟨q + 1, L, by omega, rfl, by go_num, rfl, by omega, fun h => absurd h hLl, HBW.out⟩
                      · have v1 : ¬ (v : Int) < (ya.length : Int) := by omega
                        obtain rfl : v = ya.length := by omega
                        have hga := HL.out
                        rw [List.take_length] at hga
                        have HLA := Lib.hid hga
                        clear hga HL
                        go_wp2
                        go_roundg (rs.length - (q + 1))
                        case measure => omega
                        case rel => exact ⟨q + 1, L, by omega, rfl, by go_num, rfl, by omega, fun h => by have h1 := HLA.out h; have h2 := HMIN.out hle; have h3 := HN1.out; rw [HST.out, HG.out]; omega, HBW.out⟩
          · by_cases hqr : q < rs.length
            · have j1 : (q : Int) < (rs.length : Int) := by omega
              have j2 : ¬ (N : Int) ≤ 2000 := by omega
              have j3 : (2000 : Int) < (N : Int) := by omega
              clear hlt
              go_wp2
              go_ret
              exact GreatQ.mk true (fun h => nomatch h) (by rw [HZ.out]; exact HB.out.trans (HB0.out.mono (by omega)))
            obtain rfl : q = rs.length := by omega
            have j1 : ¬ (rs.length : Int) < (rs.length : Int) := by omega
            have hga := HMIN.out
            rw [List.take_length] at hga
            have HGA := Lib.hid hga
            clear hlt hga HMIN
            by_cases hbig : N ≤ 2000
            · have j3 : ¬ (2000 : Int) < (N : Int) := by omega
              go_wp2
              go_ret
              exact GreatQ.mk false (fun _ => by have h1 := HGA.out hbig; have h2 := HBS.out; show ds.length + rs.length + sumF gD ds + sumF gR rs ≤ 2000; omega) (by rw [HZ.out]; exact HB.out.trans (HB0.out.mono (by omega)))
            · have j3 : (2000 : Int) < (N : Int) := by omega
              go_wp2
              go_ret
              exact GreatQ.mk true (fun h => nomatch h) (by rw [HZ.out]; exact HB.out.trans (HB0.out.mono (by omega)))
end Go.Proofs.YtghebacphjglbaaGreat.WgB
