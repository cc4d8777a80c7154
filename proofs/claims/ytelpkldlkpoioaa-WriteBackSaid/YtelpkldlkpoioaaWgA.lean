/- How much a word is: gristmillkit.WordsOf, and the law's own names, walked. -/
import Derived.Test.YtelpkldlkpoioaaWrO
import Derived.Test.YtelpkldlkpoioaaWrL
namespace Go.Proofs.Ytelpkldlkpoioaa.WgA
open Go.RowKit Go.Proofs.Ytelpkldlkpoioaa.Lexy Go.Proofs.Ytelpkldlkpoioaa.LexA Go.Proofs.Ytelpkldlkpoioaa.LexB Go.Proofs.Ytelpkldlkpoioaa.LexC Go.Proofs.Ytelpkldlkpoioaa.LexD Go.Proofs.Ytelpkldlkpoioaa.LexE Go.Proofs.Ytelpkldlkpoioaa.LexF Go.Proofs.Ytelpkldlkpoioaa.LexG Go.Proofs.Ytelpkldlkpoioaa.Heap Go.Proofs.Ytelpkldlkpoioaa.Dat Go.Proofs.Ytelpkldlkpoioaa.Ready Go.Proofs.Ytelpkldlkpoioaa.ReadA Go.Proofs.Ytelpkldlkpoioaa.ReadC Go.Proofs.Ytelpkldlkpoioaa.ReadI Go.Proofs.Ytelpkldlkpoioaa.Same Go.Proofs.Ytelpkldlkpoioaa.Cut Go.Proofs.Ytelpkldlkpoioaa.WrT Go.Proofs.Ytelpkldlkpoioaa.WrO Go.Proofs.Ytelpkldlkpoioaa.WrK

theorem szWs_take : ∀ (l : List Wd) (k : Nat), szWs (l.take k) ≤ szWs l
  | [], _ => by simp
  | _ :: _, 0 => by simp [szWs]
  | y :: l, k + 1 => by rw [List.take_succ_cons, szWs, szWs]; have := szWs_take l k; omega
theorem szWs_next {l : List Wd} {k : Nat} (h : k < l.length) : szWs (l.take (k + 1)) = szWs (l.take k) + szW l[k] := by
  have e : l.take (k + 1) = l.take k ++ [l[k]] := by simp
  rw [e, szWs_snoc]
theorem nmWs_next {l : List Wd} {k : Nat} (h : k < l.length) : nmWs (l.take (k + 1)) = nmWs (l.take k) + nmW l[k] := by
  have e : l.take (k + 1) = l.take k ++ [l[k]] := by simp
  rw [e, nmWs_snoc]
mutual
/-- how long a word's names are, a twentieth of it, as far as so much -/
def nmV (left : Nat) : Wd → Nat
  | .mk n xs _ => nmVs left (n.length / 20) xs
def nmVs (left acc : Nat) : List Wd → Nat
  | [] => acc
  | x :: xs => if acc ≤ left then nmVs left (acc + nmV (left - acc) x) xs else acc
end
mutual
theorem nmV_le : ∀ (x : Wd) (left : Nat), nmV left x ≤ left → nmW x ≤ nmV left x
  | .mk n xs z, left, h => by rw [nmV] at h ⊢; rw [nmW]; exact nmVs_le xs left _ h
theorem nmVs_le : ∀ (xs : List Wd) (left acc : Nat), nmVs left acc xs ≤ left → acc + nmWs xs ≤ nmVs left acc xs
  | [], left, acc, h => by rw [nmVs, nmWs]; omega
  | x :: xs, left, acc, h => by
    rw [nmVs] at h ⊢
    rw [nmWs]
    split at h
    · rename_i hl
      rw [if_pos hl]
      have h1 := nmVs_le xs left _ h
      have h2 := nmV_le x (left - acc) (by omega)
      omega
    · omega
end
mutual
theorem nmV_lim : ∀ (x : Wd) (left : Nat), bigW x → nmV left x ≤ left + 7036874417562
  | .mk n xs z, left, h => by
    rw [bigW] at h
    rw [nmV]
    have := h.1
    unfold Lim at this
    exact nmVs_lim xs left _ h.2.2 (by omega)
theorem nmVs_lim : ∀ (xs : List Wd) (left acc : Nat), bigWs xs → acc ≤ left + 7036874417562 → nmVs left acc xs ≤ left + 7036874417562
  | [], left, acc, _, h => by rw [nmVs]; exact h
  | x :: xs, left, acc, hb, h => by
    rw [bigWs] at hb
    rw [nmVs]
    split
    · have := nmV_lim x (left - acc) hb.1
      exact nmVs_lim xs left _ hb.2 (by omega)
    · exact h
end
theorem nmVs_next {left acc : Nat} {xs : List Wd} {q : Nat} (h : q < xs.length) (hl : acc ≤ left) : nmVs left acc (xs.drop q) = nmVs left (acc + nmV (left - acc) xs[q]) (xs.drop (q + 1)) := by
  rw [List.drop_eq_getElem_cons h, nmVs, if_pos hl]
theorem nmVs_over {left acc : Nat} {xs : List Wd} (hl : ¬ acc ≤ left) : nmVs left acc xs = acc := by
  cases xs with
  | nil => rw [nmVs]
  | cons x xs => rw [nmVs, if_neg hl]
def WordsV (x : Wd) : Prop := ∀ (w : World) (n : List UInt8) (xs : List Wd) (z : Int) (s : Value) (most : Nat), x = .mk n xs z → Reads w (.row 54 3 xs.length (wdsD xs)) s → bigW x → most ≤ 2000 →
  Calls Try.prog 45 #[.agg #[.string (bs n), s, .int .i64 z], .int .i64 (most : Int)] w fun e w' => e = .returned (.int .i64 ((min (szW x) (most + 1) : Nat) : Int)) ∧ Below w.heap.size w w'
set_option maxRecDepth 100000 in
set_option maxHeartbeats 4000000 in
theorem wordsV_step {n : List UInt8} {xs : List Wd} {z : Int} (ih : ∀ y ∈ xs, WordsV y) : WordsV (.mk n xs z) := by
  intro w n' xs' z' s most he hR hbg hmost
  injection he with e1 e2 e3
  subst e1 e2 e3
  rw [bigW] at hbg
  obtain ⟨hn, hl, hbs⟩ := hbg
  unfold Lim at hn hl
  obtain ⟨a0, c0, rfl⟩ := Reads.slice hR
  rw [szW]
  have HX := Lib.hid (box1 w (.cells #[.string (bs n), .slice a0 xs.length c0, .int .i64 z] 54 (0, 0)))
  have HR := Lib.hid hR; have HIH := Lib.hid ih; have HBS := Lib.hid (bigWs_mem hbs)
  clear hR ih hbs
  generalize bs n = zn at *
  go_enter Try.func45, Try.ntmps45
  go_wp2
  generalize hw1 : w.alloc (.cells #[.string zn, .slice a0 xs.length c0, .int .i64 z] 54 (0, 0)) = w1 at *
  clear hw1
  obtain ⟨x1, hbx, hsx⟩ := HX.out
  have X1 := Lib.hid x1; have HB := Lib.hid hbx
  clear HX x1 hbx
  generalize hH : w.heap.size = H at *
  have HZ := Lib.hid hH; clear hH
  go_loopg [5, 6] xs.length (fun gk cv i wr => ∃ q cc : Nat, q ≤ xs.length ∧ gk = xs.length - q ∧ i = .int .i64 (q : Int) ∧ cv = .int .i64 (cc : Int) ∧ cc ≤ most + 1 ∧ min cc (most + 1) = min (1 + szWs (xs.take q)) (most + 1) ∧ Below w1.heap.size w1 wr)
  case atStart => exact ⟨0, 1, by omega, by omega, rfl, rfl, by omega, by simp [szWs], Below.refl _ _⟩
  case round =>
    obtain ⟨q, cc, hq, rfl, rfl, rfl, hcc, hmin, hb0⟩ := hrel
    have HMIN := Lib.hid hmin; have HB0 := Lib.hid hb0; have hbz := hb0.size
    have c1 : wr.cell? ⟨H, 1, none⟩ = some (.slice a0 xs.length c0) := cell_of_row wr H 1 _ _ (0, 0) ((hb0.block H (by omega)).trans X1.out)
    clear hmin hb0
    by_cases hlt : q < xs.length
    · have j0 : (0 : Int) ≤ (q : Int) := by omega
      have j1 : (q : Int) < (xs.length : Int) := by omega
      by_cases hle : cc ≤ most
      · have hle2 : (cc : Int) ≤ (most : Int) := by omega
        obtain ⟨g, o, rfl, r1⟩ := Reads.elems HR.out (by omega)
        obtain ⟨n1, ys, z1, hy⟩ : ∃ n1 ys z1, xs[q] = .mk n1 ys z1 := by cases xs[q]; exact ⟨_, _, _, rfl⟩
        obtain ⟨a1, c2, e0, e1, e2, hry⟩ := word_cells r1 hlt hy
        have hgl : g < H := by rw [← HZ.out]; exact World.block_lt_of_cell? _ _ e0
        have HBR := Lib.hid (HB.out.trans (HB0.out.mono (by omega)))
        have q0 := (HBR.out.cell (p := ⟨g, o + q * 3, none⟩) hgl).trans e0
        have q1 := (HBR.out.cell (p := ⟨g, o + q * 3 + 1, none⟩) hgl).trans e1
        have q2 := (HBR.out.cell (p := ⟨g, o + q * 3 + 2, none⟩) hgl).trans e2
        have hc : ∀ u : World, Below H w u → Calls Try.prog 45 #[.agg #[.string (bs n1), .slice a1 ys.length c2, .int .i64 z1], .int .i64 ((most : Int) - (cc : Int))] u fun e w' => e = .returned (.int .i64 ((min (szW xs[q]) (most - cc + 1) : Nat) : Int)) ∧ Below u.heap.size u w' := fun u hu => by
          have := HIH.out _ (List.getElem_mem hlt) u n1 ys z1 _ (most - cc) hy (Reads.below (w := w) (by rw [HZ.out]; exact hu) hry) (HBS.out _ (List.getElem_mem hlt)) (by omega)
          rw [show ((most - cc : Nat) : Int) = (most : Int) - (cc : Int) by omega] at this
          exact this
        have HC := Lib.hid hc
        have HST := Lib.hid (szWs_next hlt)
        clear hc hry r1 e0 e1 e2
        generalize szW xs[q] = sy at *
        generalize hrr : min sy (most - cc + 1) = rr at *
        have HRR := Lib.hid hrr; clear hrr
        have hrl : (rr : Int) ≤ 2001 := by have := HRR.out; omega
        generalize bs n1 = zn1 at *
        go_wp2_with (go_at_call 45; refine (HC.out wr HBR.out).mono ?_; rintro e w2 ⟨rfl, hb⟩; have HB2 := Lib.hid (HB0.out.trans (hb.mono HB0.out.size)); clear hb)
        go_roundg (xs.length - (q + 1))
        case measure => omega
        case rel => exact ⟨q + 1, cc + rr, by omega, rfl, by go_num, congrArg (Value.int .i64) (by omega), by have := HRR.out; omega, by have h1 := HRR.out; have h2 := HMIN.out; rw [HST.out]; omega, HB2.out⟩
      · have hle2 : ¬ (cc : Int) ≤ (most : Int) := by omega
        have hmi : min (cc : Int) ((most : Int) + 1) = (cc : Int) := by omega
        go_wp2
        go_ret
        exact ⟨congrArg (fun v : Int => Ending.returned (Value.int .i64 v)) (by have h1 := HMIN.out; have h2 := szWs_take xs q; omega), by rw [HZ.out]; exact HB.out.trans (HB0.out.mono (by omega))⟩
    · obtain rfl : q = xs.length := by omega
      have hmi : min (cc : Int) ((most : Int) + 1) = (cc : Int) := by omega
      go_wp2
      go_ret
      have h1 := HMIN.out
      rw [List.take_length] at h1
      exact ⟨congrArg (fun v : Int => Ending.returned (Value.int .i64 v)) (by omega), by rw [HZ.out]; exact HB.out.trans (HB0.out.mono (by omega))⟩
theorem wordsV_any : ∀ x : Wd, WordsV x
  | .mk n xs z => wordsV_step fun y _hy => wordsV_any y
  termination_by x => SizeOf.sizeOf x
  decreasing_by have := List.sizeOf_lt_of_mem _hy; simp; omega
def NamesV (x : Wd) : Prop := ∀ (w : World) (n : List UInt8) (xs : List Wd) (z : Int) (s : Value) (most : Nat), x = .mk n xs z → Reads w (.row 54 3 xs.length (wdsD xs)) s → bigW x → most ≤ 2000 →
  Calls Try.prog 46 #[.agg #[.string (bs n), s, .int .i64 z], .int .i64 (most : Int)] w fun e w' => e = .returned (.int .i64 ((nmV most x : Nat) : Int)) ∧ Below w.heap.size w w'
set_option maxRecDepth 100000 in
set_option maxHeartbeats 4000000 in
theorem namesV_step {n : List UInt8} {xs : List Wd} {z : Int} (ih : ∀ y ∈ xs, NamesV y) : NamesV (.mk n xs z) := by
  intro w n' xs' z' s most he hR hbg hmost
  injection he with e1 e2 e3
  subst e1 e2 e3
  rw [bigW] at hbg
  obtain ⟨hn, hl, hbs⟩ := hbg
  unfold Lim at hn hl
  obtain ⟨a0, c0, rfl⟩ := Reads.slice hR
  rw [nmV]
  have HX := Lib.hid (box1 w (.cells #[.string (bs n), .slice a0 xs.length c0, .int .i64 z] 54 (0, 0)))
  have HR := Lib.hid hR; have HIH := Lib.hid ih; have HBS := Lib.hid (bigWs_mem hbs)
  clear hR ih hbs
  have hzs : (bs n).size = n.length := by simp [bs, ByteArray.size]
  generalize bs n = zn at *
  have hdv : ((zn.size : Int).tdiv 20) = ((n.length / 20 : Nat) : Int) := by rw [hzs, Int.tdiv_eq_ediv_of_nonneg (by omega)]; omega
  go_enter Try.func46, Try.ntmps46
  go_wp2
  generalize hw1 : w.alloc (.cells #[.string zn, .slice a0 xs.length c0, .int .i64 z] 54 (0, 0)) = w1 at *
  clear hw1
  obtain ⟨x1, hbx, hsx⟩ := HX.out
  have X1 := Lib.hid x1; have HB := Lib.hid hbx
  clear HX x1 hbx
  generalize hH : w.heap.size = H at *
  have HZ := Lib.hid hH; clear hH
  go_loopg [5, 6] xs.length (fun gk cv i wr => ∃ q cc : Nat, q ≤ xs.length ∧ gk = xs.length - q ∧ i = .int .i64 (q : Int) ∧ cv = .int .i64 (cc : Int) ∧ cc ≤ most + 7036874417562 ∧ nmVs most cc (xs.drop q) = nmVs most (n.length / 20) xs ∧ Below w1.heap.size w1 wr)
  case atStart => exact ⟨0, n.length / 20, by omega, by omega, rfl, rfl, by omega, by rw [List.drop_zero], Below.refl _ _⟩
  case round =>
    obtain ⟨q, cc, hq, rfl, rfl, rfl, hcc, hmin, hb0⟩ := hrel
    have HMIN := Lib.hid hmin; have HB0 := Lib.hid hb0; have hbz := hb0.size
    have c1 : wr.cell? ⟨H, 1, none⟩ = some (.slice a0 xs.length c0) := cell_of_row wr H 1 _ _ (0, 0) ((hb0.block H (by omega)).trans X1.out)
    clear hmin hb0
    by_cases hlt : q < xs.length
    · have j0 : (0 : Int) ≤ (q : Int) := by omega
      have j1 : (q : Int) < (xs.length : Int) := by omega
      by_cases hle : cc ≤ most
      · have hle2 : (cc : Int) ≤ (most : Int) := by omega
        obtain ⟨g, o, rfl, r1⟩ := Reads.elems HR.out (by omega)
        obtain ⟨n1, ys, z1, hy⟩ : ∃ n1 ys z1, xs[q] = .mk n1 ys z1 := by cases xs[q]; exact ⟨_, _, _, rfl⟩
        obtain ⟨a1, c2, e0, e1, e2, hry⟩ := word_cells r1 hlt hy
        have hgl : g < H := by rw [← HZ.out]; exact World.block_lt_of_cell? _ _ e0
        have HBR := Lib.hid (HB.out.trans (HB0.out.mono (by omega)))
        have q0 := (HBR.out.cell (p := ⟨g, o + q * 3, none⟩) hgl).trans e0
        have q1 := (HBR.out.cell (p := ⟨g, o + q * 3 + 1, none⟩) hgl).trans e1
        have q2 := (HBR.out.cell (p := ⟨g, o + q * 3 + 2, none⟩) hgl).trans e2
        have hc : ∀ u : World, Below H w u → Calls Try.prog 46 #[.agg #[.string (bs n1), .slice a1 ys.length c2, .int .i64 z1], .int .i64 ((most : Int) - (cc : Int))] u fun e w' => e = .returned (.int .i64 ((nmV (most - cc) xs[q] : Nat) : Int)) ∧ Below u.heap.size u w' := fun u hu => by
          have := HIH.out _ (List.getElem_mem hlt) u n1 ys z1 _ (most - cc) hy (Reads.below (w := w) (by rw [HZ.out]; exact hu) hry) (HBS.out _ (List.getElem_mem hlt)) (by omega)
          rw [show ((most - cc : Nat) : Int) = (most : Int) - (cc : Int) by omega] at this
          exact this
        have HC := Lib.hid hc
        have HST := Lib.hid (nmVs_next hlt hle)
        have hrr := nmV_lim xs[q] (most - cc) (HBS.out _ (List.getElem_mem hlt))
        clear hc hry r1 e0 e1 e2
        generalize nmV (most - cc) xs[q] = rr at *
        have hrl : (rr : Int) ≤ 7036874420000 := by omega
        generalize bs n1 = zn1 at *
        go_wp2_with (go_at_call 46; refine (HC.out wr HBR.out).mono ?_; rintro e w2 ⟨rfl, hb⟩; have HB2 := Lib.hid (HB0.out.trans (hb.mono HB0.out.size)); clear hb)
        go_roundg (xs.length - (q + 1))
        case measure => omega
        case rel => exact ⟨q + 1, cc + rr, by omega, rfl, by go_num, congrArg (Value.int .i64) (by omega), by omega, by rw [← HST.out]; exact HMIN.out, HB2.out⟩
      · have hle2 : ¬ (cc : Int) ≤ (most : Int) := by omega
        go_wp2
        go_ret
        exact ⟨congrArg (fun v : Nat => Ending.returned (Value.int .i64 (v : Int))) ((nmVs_over hle).symm.trans HMIN.out), by rw [HZ.out]; exact HB.out.trans (HB0.out.mono (by omega))⟩
    · obtain rfl : q = xs.length := by omega
      go_wp2
      go_ret
      have h1 := HMIN.out
      rw [List.drop_length, nmVs] at h1
      exact ⟨congrArg (fun v : Nat => Ending.returned (Value.int .i64 (v : Int))) h1, by rw [HZ.out]; exact HB.out.trans (HB0.out.mono (by omega))⟩
theorem namesV_any : ∀ x : Wd, NamesV x
  | .mk n xs z => namesV_step fun y _hy => namesV_any y
  termination_by x => SizeOf.sizeOf x
  decreasing_by have := List.sizeOf_lt_of_mem _hy; simp; omega
end Go.Proofs.Ytelpkldlkpoioaa.WgA
