/- The document's writer: may a declaration be written? -/
import Derived.Test.YtghebacphjglbaaGreatM6
import Derived.Test.YtghebacphjglbaaGreatWrM
import Derived.Test.YtghebacphjglbaaGreatM16
import Derived.Test.YtghebacphjglbaaGreatM4
import Derived.Shelf.RegionOpenPlain
namespace Go.Proofs.YtghebacphjglbaaGreat.RwF
open Go.RowKit Go.Proofs.YtghebacphjglbaaGreat.Lexy Go.Proofs.YtghebacphjglbaaGreat.LexA Go.Proofs.YtghebacphjglbaaGreat.LexB Go.Proofs.YtghebacphjglbaaGreat.LexC Go.Proofs.YtghebacphjglbaaGreat.LexD Go.Proofs.YtghebacphjglbaaGreat.LexE Go.Proofs.YtghebacphjglbaaGreat.LexF Go.Proofs.YtghebacphjglbaaGreat.LexG Go.Proofs.YtghebacphjglbaaGreat.Heap Go.Proofs.YtghebacphjglbaaGreat.Dat Go.Proofs.YtghebacphjglbaaGreat.Ready Go.Proofs.YtghebacphjglbaaGreat.ReadA Go.Proofs.YtghebacphjglbaaGreat.ReadC Go.Proofs.YtghebacphjglbaaGreat.ReadI Go.Proofs.YtghebacphjglbaaGreat.Same Go.Proofs.YtghebacphjglbaaGreat.WrA Go.Proofs.YtghebacphjglbaaGreat.WrB Go.Proofs.YtghebacphjglbaaGreat.WrC Go.Proofs.YtghebacphjglbaaGreat.WrD Go.Proofs.YtghebacphjglbaaGreat.WrE Go.Proofs.YtghebacphjglbaaGreat.WrG Go.Proofs.YtghebacphjglbaaGreat.WrK Go.Proofs.YtghebacphjglbaaGreat.WrM Go.Proofs.YtghebacphjglbaaGreat.WrO Go.Proofs.YtghebacphjglbaaGreat.RwA

theorem name_nil : nameB [] = false := by decide
set_option maxRecDepth 100000 in
set_option maxHeartbeats 8000000 in
theorem decl_r {x : De} {w : World} {s : Value} (hR : Reads w (.row 9 1 x.names.length (nmsD x.names)) s) (hbg : bigD x) :
    Calls Tryz.prog 53 #[.agg #[.string (bs x.kind), .string (bs x.type), s, .int .i64 x.at_]] w fun e w' => e = .returned (.bool (okD x)) ∧ Below w.heap.size w w' := by
  obtain ⟨b1, b2, b3, b4, b5, b6, t1, s1, t2, s2, t3, s3, t4, s4, t5, s5, t6, s6, hk⟩ := kinds x
  obtain ⟨kd, ty, ns, at_⟩ := x
  have hns := hbg.names; have hty := hbg.type; have hea := hbg.each
  unfold Lim at hns hty
  simp only at hR hns hty hea t1 t2 t3 t4 t5 t6 s1 s2 s3 s4 s5 s6 hk ⊢
  unfold okD
  simp only at hk ⊢
  obtain ⟨a0, c0, rfl⟩ := Reads.slice hR
  have HX := Lib.hid (box1 w (.cells #[.string (bs kd), .string (bs ty), .slice a0 ns.length c0, .int .i64 at_] 62 (0, 0)))
  have ty1 : ((bs ty).toList == ([] : List UInt8)) = decide (ty = []) := test_eq ty []
  have ty2 : ((bs ty).toList == ({ data := #[] } : ByteArray).toList) = decide (ty = []) := strs_eq ty []
  have HN := Lib.hid (show ∀ u : World, Calls Tryz.prog 54 #[.string (bs ty)] u fun e w' => e = .returned (.bool (nameB ty)) ∧ u = w' from fun u => name_b hty rfl)
  have HNS := Lib.hid (show ∀ u : World, Below w.heap.size w u → Calls Tryz.prog 55 #[.slice a0 ns.length c0] u fun e w' => e = .returned (.bool (ns.all nameB)) ∧ u = w' from fun u hu => names_r (Reads.below hu hR) (by omega) (fun n hn => by have h := hea n hn; unfold bigS at h; exact h))
  have hnt : decide (ty = []) = true → nameB ty = false := fun e => by rw [of_decide_eq_true e]; exact name_nil
  have hnot : decide (ty ≠ []) = !decide (ty = []) := by simp
  rw [hnot] at hk
  clear hnot hR hbg hea
  generalize kindB ⟨kd, ty, ns, at_⟩ = kb at *
  generalize decide (ty = []) = dt at *
  generalize nameB ty = okt at *
  generalize ns.all nameB = okn at *
  generalize bs ty = zt at *
  obtain ⟨zk, hzk⟩ : ∃ zk, zk = bs kd := ⟨_, rfl⟩
  rw [← hzk] at t1 t2 t3 t4 t5 t6 s1 s2 s3 s4 s5 s6 HX ⊢
  clear hzk
  -- what is known of the type, by the kind
  have HEM := Lib.hid (show ns = [] ∨ ns ≠ [] from Classical.em _)
  have HNE := Lib.hid (show ns = [] → decide (ns ≠ []) = false from fun h => by rw [h]; rfl)
  have HNF := Lib.hid (show ns ≠ [] → decide (ns ≠ []) = true from fun h => decide_eq_true h)
  generalize decide (ns ≠ []) = ne at *
  generalize hF : (kb && (ne && ((dt || okt) && okn))) = okF at *
  have HF := Lib.hid hF; clear hF
  have HNT := Lib.hid hnt; clear hnt
  go_enter Tryz.func53, Tryz.ntmps53
  go_upto_region 1 with fail
  generalize hw1 : (w.alloc (.cells #[.string zk, .string zt, .slice a0 ns.length c0, .int .i64 at_] 62 (0, 0))) = w1 at *
  clear hw1
  obtain ⟨x1, hbx, hsx⟩ := HX.out
  have X1 := Lib.hid x1; have HB := Lib.hid hbx
  generalize hH : w.heap.size = H at *
  have HZ := Lib.hid hH; clear hH
  have y0 : w1.cell? ⟨H, 0, none⟩ = some (.string zk) := cell_of_row w1 H 0 _ _ (0, 0) x1
  have y1 : w1.cell? ⟨H, 1, none⟩ = some (.string zt) := cell_of_row w1 H 1 _ _ (0, 0) x1
  have y2 : w1.cell? ⟨H, 2, none⟩ = some (.slice a0 ns.length c0) := cell_of_row w1 H 2 _ _ (0, 0) x1
  clear HX x1 hbx hsx
  have HNS1 := Lib.hid (HNS.out w1 HB.out)
  have HN1 := Lib.hid (HN.out w1)
  clear HNS HN
  rcases hk with ⟨rfl, hkb⟩ | ⟨rfl, rfl, hkb⟩ | ⟨rfl, rfl, rfl, hkb⟩ | ⟨rfl, rfl, rfl, rfl, hkb⟩ | ⟨rfl, rfl, rfl, rfl, rfl, hkb⟩ | ⟨rfl, rfl, rfl, rfl, rfl, rfl, hkb⟩ | ⟨rfl, rfl, rfl, rfl, rfl, rfl, hkb⟩ <;> cases dt <;> subst hkb
  -- THE LEAVES
  · obtain rfl : b2 = false := by rw [beq_iff_eq.1 s1] at s2; rw [← s2]; rfl
    cases okt
    · go_wp2_with (first | (go_at_call 54; go_must (refine (HN1.out).mono ?_; rintro e w2 ⟨rfl, rfl⟩)))
      go_ret
      exact ⟨ret_bool (by rw [← HF.out]; simp), by rw [HZ.out]; exact HB.out⟩
    · rcases HEM.out with he | he
      · have hpos : ¬ (0 : Int) < (ns.length : Int) := by rw [he]; simp
        have hdn : decide (0 < ns.length) = false := by rw [he]; rfl
        have HF2 := Lib.hid (HNE.out he)
        clear he
        go_wp2_with (first | (go_at_call 54; go_must (refine (HN1.out).mono ?_; rintro e w2 ⟨rfl, rfl⟩)))
        go_ret
        exact ⟨ret_bool (by rw [← HF.out, HF2.out]; simp), by rw [HZ.out]; exact HB.out⟩
      · have hpos : (0 : Int) < (ns.length : Int) := by
          cases ns with
          | nil => exact absurd rfl he
          | cons _ _ => simp
        have hdn : decide (0 < ns.length) = true := decide_eq_true (by omega)
        have HF2 := Lib.hid (HNF.out he)
        clear he
        go_wp2_with (first | (go_at_call 54; go_must (refine (HN1.out).mono ?_; rintro e w2 ⟨rfl, rfl⟩)) | (go_at_call 55; go_must (refine (HNS1.out).mono ?_; rintro e w3 ⟨rfl, rfl⟩)))
        go_ret
        exact ⟨ret_bool (by rw [← HF.out, HF2.out]; simp), by rw [HZ.out]; exact HB.out⟩
  · obtain rfl : b2 = false := by rw [beq_iff_eq.1 s1] at s2; rw [← s2]; rfl
    rcases HEM.out with he | he
    · have hpos : ¬ (0 : Int) < (ns.length : Int) := by rw [he]; simp
      have hdn : decide (0 < ns.length) = false := by rw [he]; rfl
      have HF2 := Lib.hid (HNE.out he)
      clear he
      go_wp2_with fail
      go_ret
      exact ⟨ret_bool (by rw [← HF.out, HF2.out]; simp), by rw [HZ.out]; exact HB.out⟩
    · have hpos : (0 : Int) < (ns.length : Int) := by
        cases ns with
        | nil => exact absurd rfl he
        | cons _ _ => simp
      have hdn : decide (0 < ns.length) = true := decide_eq_true (by omega)
      have HF2 := Lib.hid (HNF.out he)
      clear he
      go_wp2_with (first | (go_at_call 55; go_must (refine (HNS1.out).mono ?_; rintro e w3 ⟨rfl, rfl⟩)))
      go_ret
      exact ⟨ret_bool (by rw [← HF.out, HF2.out]; simp), by rw [HZ.out]; exact HB.out⟩
  · cases okt
    · go_wp2_with (first | (go_at_call 54; go_must (refine (HN1.out).mono ?_; rintro e w2 ⟨rfl, rfl⟩)))
      go_ret
      exact ⟨ret_bool (by rw [← HF.out]; simp), by rw [HZ.out]; exact HB.out⟩
    · rcases HEM.out with he | he
      · have hpos : ¬ (0 : Int) < (ns.length : Int) := by rw [he]; simp
        have hdn : decide (0 < ns.length) = false := by rw [he]; rfl
        have HF2 := Lib.hid (HNE.out he)
        clear he
        go_wp2_with (first | (go_at_call 54; go_must (refine (HN1.out).mono ?_; rintro e w2 ⟨rfl, rfl⟩)))
        go_ret
        exact ⟨ret_bool (by rw [← HF.out, HF2.out]; simp), by rw [HZ.out]; exact HB.out⟩
      · have hpos : (0 : Int) < (ns.length : Int) := by
          cases ns with
          | nil => exact absurd rfl he
          | cons _ _ => simp
        have hdn : decide (0 < ns.length) = true := decide_eq_true (by omega)
        have HF2 := Lib.hid (HNF.out he)
        clear he
        go_wp2_with (first | (go_at_call 54; go_must (refine (HN1.out).mono ?_; rintro e w2 ⟨rfl, rfl⟩)) | (go_at_call 55; go_must (refine (HNS1.out).mono ?_; rintro e w3 ⟨rfl, rfl⟩)))
        go_ret
        exact ⟨ret_bool (by rw [← HF.out, HF2.out]; simp), by rw [HZ.out]; exact HB.out⟩
  · obtain rfl : okt = false := HNT.out rfl
    go_wp2_with (first | (go_at_call 54; go_must (refine (HN1.out).mono ?_; rintro e w2 ⟨rfl, rfl⟩)))
    go_ret
    exact ⟨ret_bool (by rw [← HF.out]; simp), by rw [HZ.out]; exact HB.out⟩
  · go_wp2_with fail
    go_ret
    exact ⟨ret_bool (by rw [← HF.out]; simp), by rw [HZ.out]; exact HB.out⟩
  · rcases HEM.out with he | he
    · have hpos : ¬ (0 : Int) < (ns.length : Int) := by rw [he]; simp
      have hdn : decide (0 < ns.length) = false := by rw [he]; rfl
      have HF2 := Lib.hid (HNE.out he)
      clear he
      go_wp2_with fail
      go_ret
      exact ⟨ret_bool (by rw [← HF.out, HF2.out]; simp), by rw [HZ.out]; exact HB.out⟩
    · have hpos : (0 : Int) < (ns.length : Int) := by
        cases ns with
        | nil => exact absurd rfl he
        | cons _ _ => simp
      have hdn : decide (0 < ns.length) = true := decide_eq_true (by omega)
      have HF2 := Lib.hid (HNF.out he)
      clear he
      go_wp2_with (first | (go_at_call 55; go_must (refine (HNS1.out).mono ?_; rintro e w3 ⟨rfl, rfl⟩)))
      go_ret
      exact ⟨ret_bool (by rw [← HF.out, HF2.out]; simp), by rw [HZ.out]; exact HB.out⟩
  · go_wp2_with fail
    go_ret
    exact ⟨ret_bool (by rw [← HF.out]; simp), by rw [HZ.out]; exact HB.out⟩
  · rcases HEM.out with he | he
    · have hpos : ¬ (0 : Int) < (ns.length : Int) := by rw [he]; simp
      have hdn : decide (0 < ns.length) = false := by rw [he]; rfl
      have HF2 := Lib.hid (HNE.out he)
      clear he
      go_wp2_with fail
      go_ret
      exact ⟨ret_bool (by rw [← HF.out, HF2.out]; simp), by rw [HZ.out]; exact HB.out⟩
    · have hpos : (0 : Int) < (ns.length : Int) := by
        cases ns with
        | nil => exact absurd rfl he
        | cons _ _ => simp
      have hdn : decide (0 < ns.length) = true := decide_eq_true (by omega)
      have HF2 := Lib.hid (HNF.out he)
      clear he
      go_wp2_with (first | (go_at_call 55; go_must (refine (HNS1.out).mono ?_; rintro e w3 ⟨rfl, rfl⟩)))
      go_ret
      exact ⟨ret_bool (by rw [← HF.out, HF2.out]; simp), by rw [HZ.out]; exact HB.out⟩
  · go_wp2_with fail
    go_ret
    exact ⟨ret_bool (by rw [← HF.out]; simp), by rw [HZ.out]; exact HB.out⟩
  · rcases HEM.out with he | he
    · have hpos : ¬ (0 : Int) < (ns.length : Int) := by rw [he]; simp
      have hdn : decide (0 < ns.length) = false := by rw [he]; rfl
      have HF2 := Lib.hid (HNE.out he)
      clear he
      go_wp2_with fail
      go_ret
      exact ⟨ret_bool (by rw [← HF.out, HF2.out]; simp), by rw [HZ.out]; exact HB.out⟩
    · have hpos : (0 : Int) < (ns.length : Int) := by
        cases ns with
        | nil => exact absurd rfl he
        | cons _ _ => simp
      have hdn : decide (0 < ns.length) = true := decide_eq_true (by omega)
      have HF2 := Lib.hid (HNF.out he)
      clear he
      go_wp2_with (first | (go_at_call 55; go_must (refine (HNS1.out).mono ?_; rintro e w3 ⟨rfl, rfl⟩)))
      go_ret
      exact ⟨ret_bool (by rw [← HF.out, HF2.out]; simp), by rw [HZ.out]; exact HB.out⟩
  · go_wp2_with fail
    go_ret
    exact ⟨ret_bool (by rw [← HF.out]; simp), by rw [HZ.out]; exact HB.out⟩
  · rcases HEM.out with he | he
    · have hpos : ¬ (0 : Int) < (ns.length : Int) := by rw [he]; simp
      have hdn : decide (0 < ns.length) = false := by rw [he]; rfl
      have HF2 := Lib.hid (HNE.out he)
      clear he
      go_wp2_with fail
      go_ret
      exact ⟨ret_bool (by rw [← HF.out, HF2.out]; simp), by rw [HZ.out]; exact HB.out⟩
    · have hpos : (0 : Int) < (ns.length : Int) := by
        cases ns with
        | nil => exact absurd rfl he
        | cons _ _ => simp
      have hdn : decide (0 < ns.length) = true := decide_eq_true (by omega)
      have HF2 := Lib.hid (HNF.out he)
      clear he
      go_wp2_with (first | (go_at_call 55; go_must (refine (HNS1.out).mono ?_; rintro e w3 ⟨rfl, rfl⟩)))
      go_ret
      exact ⟨ret_bool (by rw [← HF.out, HF2.out]; simp), by rw [HZ.out]; exact HB.out⟩
  · go_wp2_with fail
    go_ret
    exact ⟨ret_bool (by rw [← HF.out]; simp), by rw [HZ.out]; exact HB.out⟩
  · go_wp2_with fail
    go_ret
    exact ⟨ret_bool (by rw [← HF.out]; simp), by rw [HZ.out]; exact HB.out⟩
end Go.Proofs.YtghebacphjglbaaGreat.RwF
/- The document's writer: may an alternative be written? -/
namespace Go.Proofs.YtghebacphjglbaaGreat.RwG
open Go.RowKit Go.Proofs.YtghebacphjglbaaGreat.Lexy Go.Proofs.YtghebacphjglbaaGreat.LexA Go.Proofs.YtghebacphjglbaaGreat.LexB Go.Proofs.YtghebacphjglbaaGreat.LexC Go.Proofs.YtghebacphjglbaaGreat.LexD Go.Proofs.YtghebacphjglbaaGreat.LexE Go.Proofs.YtghebacphjglbaaGreat.LexF Go.Proofs.YtghebacphjglbaaGreat.LexG Go.Proofs.YtghebacphjglbaaGreat.Heap Go.Proofs.YtghebacphjglbaaGreat.Dat Go.Proofs.YtghebacphjglbaaGreat.Ready Go.Proofs.YtghebacphjglbaaGreat.ReadA Go.Proofs.YtghebacphjglbaaGreat.ReadC Go.Proofs.YtghebacphjglbaaGreat.ReadI Go.Proofs.YtghebacphjglbaaGreat.Same Go.Proofs.YtghebacphjglbaaGreat.WrA Go.Proofs.YtghebacphjglbaaGreat.WrB Go.Proofs.YtghebacphjglbaaGreat.WrC Go.Proofs.YtghebacphjglbaaGreat.WrD Go.Proofs.YtghebacphjglbaaGreat.WrE Go.Proofs.YtghebacphjglbaaGreat.WrG Go.Proofs.YtghebacphjglbaaGreat.WrK Go.Proofs.YtghebacphjglbaaGreat.WrO Go.Proofs.YtghebacphjglbaaGreat.RefD Go.Proofs.YtghebacphjglbaaGreat.RwA Go.Proofs.YtghebacphjglbaaGreat.RwB Go.Proofs.YtghebacphjglbaaGreat.RwC

theorem first_act {r : List UInt8} {l : List Tok} (h : toks (123 :: r) = .good l) (hl : 0 < l.length) : (l[0]'hl).kind = 9 := by
  unfold toks at h
  split at h
  · cases h
  · rw [lexA] at h
    have h1 : wsN (123 : UInt8).toNat = false := by decide
    have h2 : comL (123 :: r) = false := by unfold comL; cases r <;> simp
    rw [h1, h2] at h
    simp only [Bool.false_eq_true, if_false] at h
    have h3 : tokL (123 :: r) = match autoL r 1 0 with
      | none => .bad 101
      | some n => .good 9 (r.take (n - 1)) (n + 1) := by
      rw [tokL]
      rw [if_neg (by decide), if_neg (by decide), if_pos (by decide)]
      cases autoL r 1 0 <;> rfl
    rw [h3] at h
    cases ha : autoL r 1 0 with
    | none => rw [ha] at h; cases h
    | some n =>
      rw [ha] at h
      simp only at h
      cases hx : lexA r (n + 1 - 1) (0 + 1) with
      | bad e p => rw [hx] at h; cases h
      | good l' => rw [hx] at h; simp only [Res.cons, Res.good.injEq] at h; subst h; rfl
theorem tokens_bad_r {s : ByteArray} {w : World} {x p : Nat} (hs : s.size ≤ 140737488351232) (ht : toks s.data.toList = .bad x p) :
    Calls Tryz.prog 74 #[.string s] w fun e w' => e = .returned (.tuple #[.slice none 0 0, .agg #[.int .i64 (x : Int), .int .i64 (p : Int)]]) ∧ Below w.heap.size w w' :=
  (tokens_r hs).mono fun e w' h => by unfold TokensPost at h; rw [ht] at h; exact ⟨h.2, h.1⟩
theorem tokens_good_r {s : ByteArray} {w : World} {l : List Tok} (hs : s.size ≤ 140737488351232) (ht : toks s.data.toList = .good l) :
    Calls Tryz.prog 74 #[.string s] w fun e w' => ∃ g cap, e = .returned (.tuple #[.slice (some ⟨g, 0, none⟩) l.length cap, .agg #[.int .i64 0, .int .i64 0]]) ∧ w.heap.size ≤ g ∧ g < w'.heap.size ∧ l.length ≤ cap ∧ cap ≤ maxLen ∧ IsToks w' g l ∧ Below w.heap.size w w' :=
  (tokens_r hs).mono fun e w' h => by
    unfold TokensPost at h; rw [ht] at h
    obtain ⟨hb, v, rfl, hown⟩ := h
    obtain ⟨g, cap, rfl, h1, h2, h3, h4, h5⟩ := toks_of_own hown (toks_ne ht)
    exact ⟨g, cap, rfl, h1, h2, h3, h4, h5, hb⟩
set_option maxRecDepth 100000 in
set_option maxHeartbeats 8000000 in
theorem alt_r {x : Al} {w : World} {s : Value} (hR : Reads w (.row 33 3 x.words.length (wdsD x.words)) s) (hbg : bigA x) (hact : x.action.length ≤ 1000000) :
    Calls Tryz.prog 56 #[.agg #[s, .string (bs x.prec), .bool x.has, .string (bs x.action), .int .i64 x.whr, .int .i64 x.at_]] w fun e w' => e = .returned (.bool (okA x)) ∧ Below w.heap.size w w' := by
  obtain ⟨ws, prec, has, act, whr, at_⟩ := x
  have hwl := hbg.words; have hpl := hbg.prec; have hew := hbg.each
  unfold Lim at hwl hpl
  simp only at hR hwl hpl hew hact ⊢
  unfold okA
  simp only
  obtain ⟨a0, c0, rfl⟩ := Reads.slice hR
  have HX := Lib.hid (box1 w (.cells #[.slice a0 ws.length c0, .string (bs prec), .bool has, .string (bs act), .int .i64 whr, .int .i64 at_] 35 (0, 0)))
  have hih : ∀ (k : Nat) (hk : k < ws.length) (u : World) (n1 : List UInt8) (ys : List Wd) (z1 : Int) (s1 : Value), ws[k] = .mk n1 ys z1 → Reads u (.row 33 3 ys.length (wdsD ys)) s1 → Calls Tryz.prog 73 #[.agg #[.string (bs n1), s1, .int .i64 z1], .int .i64 0] u fun e w' => e = .returned (.bool (okW 0 ws[k])) ∧ Below u.heap.size u w' := fun k hk u n1 ys z1 s1 hy hr =>
    word_ref _ u n1 ys z1 s1 0 hy hr (hew _ (List.getElem_mem hk)) (by omega)
  have HR := Lib.hid hR; have HIH := Lib.hid hih
  clear hR hih hew hbg
  have HN := Lib.hid (show ∀ u : World, Calls Tryz.prog 54 #[.string (bs prec)] u fun e w' => e = .returned (.bool (nameB prec)) ∧ u = w' from fun u => name_b hpl rfl)
  clear hpl
  have tp : ((bs prec).toList == ([] : List UInt8)) = decide (prec = []) := by
    rw [bs_toList]
    by_cases h : prec = []
    · rw [h]; rfl
    · rw [decide_eq_false h]; exact beq_eq_false_iff_ne.2 h
  have tp2 : ((bs prec).toList == ({ data := #[] } : ByteArray).toList) = decide (prec = []) := strs_eq prec []
  have ta : ((bs act).toList == ([] : List UInt8)) = decide (act = []) := by
    rw [bs_toList]
    by_cases h : act = []
    · rw [h]; rfl
    · rw [decide_eq_false h]; exact beq_eq_false_iff_ne.2 h
  have ta2 : ((bs act).toList == ({ data := #[] } : ByteArray).toList) = decide (act = []) := strs_eq act []
  have HTP := Lib.hid tp; have HTP2 := Lib.hid tp2; have HTA := Lib.hid ta; have HTA2 := Lib.hid ta2
  clear tp tp2 ta ta2
  generalize hF : (ws.all (okW 0) && ((decide (prec = []) || nameB prec) && ((has || decide (act = [])) && (!has || actB act)))) = okF at *
  have HF := Lib.hid hF; clear hF
  generalize decide (prec = []) = dp at *
  generalize decide (act = []) = da at *
  generalize nameB prec = nb at *
  generalize bs prec = zp at *
  go_enter Tryz.func56, Tryz.ntmps56
  go_upto_region 1 with fail
  generalize hw1 : w.alloc (.cells #[.slice a0 ws.length c0, .string zp, .bool has, .string (bs act), .int .i64 whr, .int .i64 at_] 35 (0, 0)) = w1 at *
  clear hw1
  obtain ⟨x1, hbx, hsx⟩ := HX.out
  have X1 := Lib.hid x1; have HB := Lib.hid hbx; have HS := Lib.hid hsx
  clear HX x1 hbx hsx
  generalize hH : w.heap.size = H at *
  have HZ := Lib.hid hH; clear hH
  go_wp2
  go_loopg [3] ws.length (fun g i wr => ∃ k, k ≤ ws.length ∧ g = ws.length - k ∧ i = .int .i64 (k : Int) ∧ (ws.take k).all (okW 0) = true ∧ Below w1.heap.size w1 wr)
  case atStart => exact ⟨0, Nat.zero_le _, by omega, rfl, by simp, Below.refl _ _⟩
  case round =>
    obtain ⟨k, hk, rfl, rfl, hall, hb0⟩ := hrel
    have hbz := hb0.size
    have X2 := Lib.hid ((hb0.block H (by have := HS.out; omega)).trans X1.out)
    have c1 : wr.cell? ⟨H, 0, none⟩ = some (.slice a0 ws.length c0) := cell_of_row wr H 0 _ _ (0, 0) X2.out
    have HBR := Lib.hid (HB.out.trans (hb0.mono (by have := HS.out; omega)))
    have HB0 := Lib.hid hb0; clear hb0
    by_cases hlt : k < ws.length
    · obtain ⟨g, o, rfl, r1⟩ := Reads.elems HR.out (by omega)
      obtain ⟨n1, ys, z1, hy⟩ : ∃ n1 ys z1, ws[k] = .mk n1 ys z1 := by cases ws[k]; exact ⟨_, _, _, rfl⟩
      obtain ⟨a1, c2, e0, e1, e2, hry⟩ := word_cells r1 hlt hy
      have hgl : g < H := by rw [← HZ.out]; exact World.block_lt_of_cell? _ _ e0
      have q0 := (HBR.out.cell (p := ⟨g, o + k * 3, none⟩) hgl).trans e0
      have q1 := (HBR.out.cell (p := ⟨g, o + k * 3 + 1, none⟩) hgl).trans e1
      have q2 := (HBR.out.cell (p := ⟨g, o + k * 3 + 2, none⟩) hgl).trans e2
      have HCC := Lib.hid (HIH.out k hlt wr n1 ys z1 _ hy (Reads.below (w := w) (by rw [HZ.out]; exact HBR.out) hry))
      have HV0 := Lib.hid (all_false (okW 0) hlt); have HV1 := Lib.hid (all_take (okW 0) hlt hall)
      clear hry r1 e0 e1 e2 hy hall
      generalize okW 0 ws[k] = ov at *
      generalize bs n1 = zn1 at *
      have j0 : (0 : Int) ≤ (k : Int) := by omega
      have j1 : (k : Int) < (ws.length : Int) := by omega
      cases ov with
      | true =>
        go_wp2_with ((go_at_call 73; go_must (refine (HCC.out).mono ?_; rintro e w2 ⟨rfl, hb2⟩; have HB2 := Lib.hid hb2; clear hb2)))
        go_roundg (ws.length - (k + 1))
        case measure => omega
        case rel => exact ⟨k + 1, by omega, rfl, by go_num, HV1.out trivial, HB0.out.trans (HB2.out.mono hbz)⟩
      | false =>
        go_wp2_with ((go_at_call 73; go_must (refine (HCC.out).mono ?_; rintro e w2 ⟨rfl, hb2⟩; have HB2 := Lib.hid hb2; clear hb2)))
        go_ret
        exact ⟨ret_bool (by rw [← HF.out, HV0.out trivial]; rfl), by rw [HZ.out]; exact HBR.out.trans (HB2.out.mono (by have := HBR.out.size; have := HZ.out; omega))⟩
    · obtain rfl : k = ws.length := by omega
      rw [List.take_length] at hall
      have hF := HF.out
      rw [hall, Bool.true_and] at hF
      have HF2 := Lib.hid hF
      have d1 : wr.cell? ⟨H, 1, none⟩ = some (.string zp) := cell_of_row wr H 1 _ _ (0, 0) X2.out
      have d2 : wr.cell? ⟨H, 2, none⟩ = some (.bool has) := cell_of_row wr H 2 _ _ (0, 0) X2.out
      have d3 : wr.cell? ⟨H, 3, none⟩ = some (.string (bs act)) := cell_of_row wr H 3 _ _ (0, 0) X2.out
      have tp := HTP.out; have tp2 := HTP2.out
      have HN1 := Lib.hid (HN.out wr)
      clear HIH HR X1 HB HS HB0 HN HF hF hall HTP HTP2
      have hpq : (dp = false ∧ nb = false) ∨ ((dp || nb) = true ∧ (dp = true ∨ nb = true)) := by cases dp <;> cases nb <;> simp
      rcases hpq with ⟨rfl, rfl⟩ | ⟨hdn, hpq⟩
      · go_wp2_with ((go_at_call 54; go_must (refine (HN1.out).mono ?_; rintro e w2 ⟨rfl, rfl⟩)))
        go_ret
        exact ⟨ret_bool (by rw [← HF2.out]; rfl), by rw [HZ.out]; exact HBR.out⟩
      · rw [hdn, Bool.true_and] at HF2
        cases has with
        | false =>
          have ta := HTA.out; have ta2 := HTA2.out
          generalize bs act = zact at *
          clear HTA HTA2 X2
          rcases hpq with rfl | rfl
          · go_wp2
            go_ret
            exact ⟨ret_bool (by rw [← HF2.out]; simp), by rw [HZ.out]; exact HBR.out⟩
          · cases dp
            · go_wp2_with ((go_at_call 54; go_must (refine (HN1.out).mono ?_; rintro e w2 ⟨rfl, rfl⟩)))
              go_ret
              exact ⟨ret_bool (by rw [← HF2.out]; simp), by rw [HZ.out]; exact HBR.out⟩
            · go_wp2
              go_ret
              exact ⟨ret_bool (by rw [← HF2.out]; simp), by rw [HZ.out]; exact HBR.out⟩
        | true =>
          clear HTA HTA2 hdn hk hlt
          have hcat1 : ({ data := #[123] } : ByteArray) ++ bs act = bs (123 :: act) := cat_bs [123] act
          have hcat2 : bs (123 :: act) ++ ({ data := #[125] } : ByteArray) = bs (123 :: (act ++ [125])) := cat_bs (123 :: act) [125]
          have hsz1 := RwC.bs_size act
          have hsz2 := RwC.bs_size (123 :: act)
          rw [List.length_cons] at hsz2
          have HSZ := Lib.hid (show (bs (123 :: (act ++ [125]))).size ≤ 140737488351232 by rw [RwC.bs_size]; simp; omega)
          have HDT := Lib.hid (show (bs (123 :: (act ++ [125]))).data.toList = 123 :: (act ++ [125]) by simp [bs])
          generalize hzb : bs (123 :: (act ++ [125])) = zb at *
          generalize bs (123 :: act) = za at *
          clear hzb
          have h11 : ∀ (P : Prop) (q : Bool), actB act = q → (q = okF → P) → P := fun P q e h => h (by rw [← HF2.out, e]; simp)
          have HAQ := Lib.hid h11; clear h11
          have X3 := X2
          rcases hpq with rfl | rfl
          case' inl => go_upto_region 10 with fail
          case' inr =>
            cases dp
            case' false => go_upto_region 10 with ((go_at_call 54; go_must (refine (HN1.out).mono ?_; rintro e w2 ⟨rfl, rfl⟩)))
            case' true => go_upto_region 10 with fail
          all_goals
            clear d1 d2 tp tp2 HN1 c1
            cases ht : toks (123 :: (act ++ [125])) with
            | bad x p =>
              have hx := toks_bad _ _ _ ht
              have hx0 : ((x : Int) == 0) = false := beq_eq_false_iff_ne.2 (by omega)
              have HT := Lib.hid ht; clear ht hx
              have HE := Lib.hid (HAQ.out (false = okF) false (by unfold actB oneB; rw [HT.out]) fun h => h)
              go_upto_region 11 with ((go_at_call 74; go_must (refine (tokens_bad_r HSZ.out (by rw [HDT.out]; exact HT.out)).mono ?_; rintro e w2 ⟨rfl, hb2⟩; have HB2 := Lib.hid hb2; clear hb2)))
              have e3 : (w2.alloc (.cells #[.int .i64 (x : Int), .int .i64 (p : Int)] 117)).cell? ⟨H, 3, none⟩ = some (.string (bs act)) := (World.cell?_alloc_past _ _ _ (by have := (Array.getElem?_eq_some_iff.1 X3.out).1; have := HB2.out.size; show H < _; omega)).trans ((HB2.out.cell (by have := (Array.getElem?_eq_some_iff.1 X3.out).1; show H < _; omega)).trans d3)
              have HBW := Lib.hid (((HB2.out).alloc HB2.out.size (.cells #[.int .i64 (x : Int), .int .i64 (p : Int)] 117)))
              obtain ⟨f0, f1, _, _⟩ := cells2 (heap_alloc_new w2 (.cells #[.int .i64 (x : Int), .int .i64 (p : Int)] 117))
              clear d3
              have hmix : Tryz.prog.follows .mixedOrders = true := by kernel_rfl
              go_region_o
              go_wp2
              go_ret
              exact ⟨ret_bool HE.out, by rw [HZ.out]; exact HBR.out.trans ((HBW.out.drew).mono (by have := HBR.out.size; have := HZ.out; omega))⟩
            | good l =>
              have HT := Lib.hid ht
              by_cases hl : l.length = 2
              · obtain ⟨u, e, rfl⟩ : ∃ t e, l = [t, e] := by
                  match l, hl with
                  | [t, e], _ => exact ⟨t, e, rfl⟩
                have hk9 : u.kind = 9 := first_act ht (by simp)
                clear ht hl
                have k2 := strs_eq u.text act
                generalize hd : decide (u.text = act) = d at k2
                have HE := Lib.hid (HAQ.out (d = okF) d (by unfold actB oneB; rw [HT.out]; simp [hk9, hd, Ready.tok]) fun h => h)
                clear hd hk9
                go_upto_region 11 with ((go_at_call 74; go_must (refine (tokens_good_r HSZ.out (by rw [HDT.out]; exact HT.out)).mono ?_; rintro e w2 ⟨g, cap, rfl, hg1, hg2, hg3, hg4, hg5, hb2⟩; have HB2 := Lib.hid hb2; have q1 := fun o => (toks_at hg5 hg2 0 0 (by simp) rfl u rfl o).2.1; clear hb2 hg5)))
                have hHl := (Array.getElem?_eq_some_iff.1 X3.out).1
                have e3 : (w2.alloc (.cells #[.int .i64 0, .int .i64 0] 117)).cell? ⟨H, 3, none⟩ = some (.string (bs act)) := (World.cell?_alloc_past _ _ _ (by have := HB2.out.size; show H < _; omega)).trans ((HB2.out.cell (by show H < _; omega)).trans d3)
                have e4 := q1 (.cells #[.int .i64 0, .int .i64 0] 117)
                have HBW := Lib.hid (((HB2.out).alloc HB2.out.size (.cells #[.int .i64 0, .int .i64 0] 117)))
                obtain ⟨f0, f1, _, _⟩ := cells2 (heap_alloc_new w2 (.cells #[.int .i64 0, .int .i64 0] 117))
                clear d3 q1 hHl hg1 hg2
                have hmix : Tryz.prog.follows .mixedOrders = true := by kernel_rfl
                generalize w2.alloc (.cells #[.int .i64 0, .int .i64 0] 117) = w3 at *
                generalize bs act = zact at *
                generalize bs u.text = zu at *
                go_region_o
                go_wp2
                go_ret
                exact ⟨ret_bool HE.out, by rw [HZ.out]; exact HBR.out.trans ((HBW.out.drew).mono (by have := HBR.out.size; have := HZ.out; omega))⟩
              · have hl0 : ((l.length : Int) == 2) = false := beq_eq_false_iff_ne.2 (by omega)
                have HE := Lib.hid (HAQ.out (false = okF) false (by unfold actB oneB; rw [HT.out]; simp [hl]) fun h => h)
                clear ht hl
                go_upto_region 11 with ((go_at_call 74; go_must (refine (tokens_good_r HSZ.out (by rw [HDT.out]; exact HT.out)).mono ?_; rintro e w2 ⟨g, cap, rfl, hg1, hg2, hg3, hg4, hg5, hb2⟩; have HB2 := Lib.hid hb2; clear hb2 hg5)))
                have hHl := (Array.getElem?_eq_some_iff.1 X3.out).1
                have e3 : (w2.alloc (.cells #[.int .i64 0, .int .i64 0] 117)).cell? ⟨H, 3, none⟩ = some (.string (bs act)) := (World.cell?_alloc_past _ _ _ (by have := HB2.out.size; show H < _; omega)).trans ((HB2.out.cell (by show H < _; omega)).trans d3)
                have HBW := Lib.hid (((HB2.out).alloc HB2.out.size (.cells #[.int .i64 0, .int .i64 0] 117)))
                obtain ⟨f0, f1, _, _⟩ := cells2 (heap_alloc_new w2 (.cells #[.int .i64 0, .int .i64 0] 117))
                clear d3 hHl hg1 hg2
                have hmix : Tryz.prog.follows .mixedOrders = true := by kernel_rfl
                generalize w2.alloc (.cells #[.int .i64 0, .int .i64 0] 117) = w3 at *
                go_region_o
                go_wp2
                go_ret
                exact ⟨ret_bool HE.out, by rw [HZ.out]; exact HBR.out.trans ((HBW.out.drew).mono (by have := HBR.out.size; have := HZ.out; omega))⟩
end Go.Proofs.YtghebacphjglbaaGreat.RwG
/- The document's writer: may a text be written? -/
namespace Go.Proofs.YtghebacphjglbaaGreat.RwH
open Go.RowKit Go.Proofs.YtghebacphjglbaaGreat.Lexy Go.Proofs.YtghebacphjglbaaGreat.LexA Go.Proofs.YtghebacphjglbaaGreat.LexB Go.Proofs.YtghebacphjglbaaGreat.LexC Go.Proofs.YtghebacphjglbaaGreat.LexD Go.Proofs.YtghebacphjglbaaGreat.LexE Go.Proofs.YtghebacphjglbaaGreat.LexF Go.Proofs.YtghebacphjglbaaGreat.LexG Go.Proofs.YtghebacphjglbaaGreat.Heap Go.Proofs.YtghebacphjglbaaGreat.Dat Go.Proofs.YtghebacphjglbaaGreat.Ready Go.Proofs.YtghebacphjglbaaGreat.ReadA Go.Proofs.YtghebacphjglbaaGreat.ReadC Go.Proofs.YtghebacphjglbaaGreat.ReadH Go.Proofs.YtghebacphjglbaaGreat.ReadI Go.Proofs.YtghebacphjglbaaGreat.ReadM Go.Proofs.YtghebacphjglbaaGreat.ReadO Go.Proofs.YtghebacphjglbaaGreat.Same Go.Proofs.YtghebacphjglbaaGreat.WrA Go.Proofs.YtghebacphjglbaaGreat.WrB Go.Proofs.YtghebacphjglbaaGreat.WrC Go.Proofs.YtghebacphjglbaaGreat.WrD Go.Proofs.YtghebacphjglbaaGreat.WrE Go.Proofs.YtghebacphjglbaaGreat.WrG Go.Proofs.YtghebacphjglbaaGreat.WrK Go.Proofs.YtghebacphjglbaaGreat.WrO Go.Proofs.YtghebacphjglbaaGreat.RwA Go.Proofs.YtghebacphjglbaaGreat.RwB Go.Proofs.YtghebacphjglbaaGreat.RwC Go.Proofs.YtghebacphjglbaaGreat.RwF Go.Proofs.YtghebacphjglbaaGreat.RwG

theorem okR_f1 {r : Ru} (h : nameB r.name = false) : okR r = false := by unfold okR; rw [h]; simp
theorem okR_f2 {r : Ru} (h : r.params.all nameB = false) : okR r = false := by unfold okR; rw [h]; simp
theorem okR_f3 {r : Ru} (h : r.alts = []) : okR r = false := by unfold okR; rw [h]; simp
theorem okR_f4 {r : Ru} (h : r.alts.all okA = false) : okR r = false := by unfold okR; rw [h]; simp
theorem okR_t {r : Ru} (h1 : nameB r.name = true) (h2 : r.params.all nameB = true) (h3 : r.alts ≠ []) (h4 : r.alts.all okA = true) : okR r = true := by unfold okR; rw [h1, h2, h4, decide_eq_true h3]; rfl
theorem ext_at {W u : World} {B : Nat} {p : Addr} {v : Value} (hB : W.heap.size = B) (hb : Below B W u) (h : W.cell? p = some v) : u.cell? p = some v := by subst hB; exact (hb.cell (World.block_lt_of_cell? _ _ h)).trans h
set_option maxRecDepth 100000 in
set_option maxHeartbeats 8000000 in
theorem may_r {x : Tx} {w : World} {sd sr : Value} (hD : Reads w (.row 62 4 x.decls.length (desD x.decls)) sd) (hR : Reads w (.row 38 4 x.rules.length (rusD x.rules)) sr) (hbg : bigT x) (hact : ∀ r ∈ x.rules, ∀ a ∈ r.alts, a.action.length ≤ 1000000) :
    Calls Tryz.prog 34 #[.agg #[sd, sr]] w fun e w' => e = .returned (.bool (okT x)) ∧ Below w.heap.size w w' := by
  obtain ⟨ds, rs⟩ := x
  have hdl := hbg.decls; have hrl := hbg.rules; have hed := hbg.eachD; have her := hbg.eachR
  unfold Lim at hdl hrl
  simp only at hD hR hdl hrl hed her hact ⊢
  unfold okT
  simp only
  obtain ⟨a0, c0, rfl⟩ := Reads.slice hD
  obtain ⟨a1, c1, rfl⟩ := Reads.slice hR
  have HX := Lib.hid (box1 w (.cells #[.slice a0 ds.length c0, .slice a1 rs.length c1] 28 (0, 0)))
  have HD := Lib.hid hD; have HR := Lib.hid hR; have HED := Lib.hid hed; have HER := Lib.hid her; have HACT := Lib.hid hact
  clear hD hR hed her hbg hact
  have HF1 := Lib.hid (show ds.all okD = false → (ds.all okD && rs.all okR) = false from fun h => by rw [h]; rfl)
  have HF2 := Lib.hid (show rs.all okR = false → (ds.all okD && rs.all okR) = false from fun h => by rw [h]; simp)
  have HF3 := Lib.hid (show ds.all okD = true → rs.all okR = true → (ds.all okD && rs.all okR) = true from fun h1 h2 => by rw [h1, h2]; rfl)
  generalize (ds.all okD && rs.all okR) = okF at *
  go_enter Tryz.func34, Tryz.ntmps34
  go_upto_region 1 with fail
  generalize hw1 : w.alloc (.cells #[.slice a0 ds.length c0, .slice a1 rs.length c1] 28 (0, 0)) = w1 at *
  clear hw1
  obtain ⟨x1, hbx, hsx⟩ := HX.out
  have X1 := Lib.hid x1; have HB := Lib.hid hbx; have HS := Lib.hid hsx
  clear HX x1 hbx hsx
  generalize hH : w.heap.size = H at *
  have HZ := Lib.hid hH; clear hH
  go_wp2
  go_loopg [3] ds.length (fun g i wr => ∃ k, k ≤ ds.length ∧ g = ds.length - k ∧ i = .int .i64 (k : Int) ∧ (ds.take k).all okD = true ∧ Below w1.heap.size w1 wr)
  case atStart => exact ⟨0, Nat.zero_le _, by omega, rfl, by simp, Below.refl _ _⟩
  case round => as_aux_lemma =>
    obtain ⟨k, hk, rfl, rfl, hall, hb0⟩ := hrel
    have hbz := hb0.size
    have X2 := Lib.hid ((hb0.block H (by have := HS.out; omega)).trans X1.out)
    have y0 : wr.cell? ⟨H, 0, none⟩ = some (.slice a0 ds.length c0) := cell_of_row wr H 0 _ _ (0, 0) X2.out
    have HBR := Lib.hid (HB.out.trans (hb0.mono (by have := HS.out; omega)))
    have HB0 := Lib.hid hb0; clear hb0
    by_cases hlt : k < ds.length
    · obtain ⟨g, o, rfl, r1⟩ := Reads.elems HD.out (by omega)
      obtain ⟨a2, c2, e0, e1, e2, e3, hry⟩ := decl_cells r1 hlt
      have hgl : g < H := by rw [← HZ.out]; exact World.block_lt_of_cell? _ _ e0
      have q0 := (HBR.out.cell (p := ⟨g, o + k * 4, none⟩) hgl).trans e0
      have q1 := (HBR.out.cell (p := ⟨g, o + k * 4 + 1, none⟩) hgl).trans e1
      have q2 := (HBR.out.cell (p := ⟨g, o + k * 4 + 2, none⟩) hgl).trans e2
      have q3 := (HBR.out.cell (p := ⟨g, o + k * 4 + 3, none⟩) hgl).trans e3
      have HCC := Lib.hid (decl_r (x := ds[k]) (w := wr) (Reads.below (w := w) (by rw [HZ.out]; exact HBR.out) hry) (HED.out _ (List.getElem_mem hlt)))
      have HV0 := Lib.hid (all_false okD hlt); have HV1 := Lib.hid (all_take okD hlt hall)
      clear hry r1 e0 e1 e2 e3 hall
      generalize okD ds[k] = ov at *
      generalize ds[k] = y at *
      generalize bs y.kind = zk at *
      generalize bs y.type = zt at *
      have j0 : (0 : Int) ≤ (k : Int) := by omega
      have j1 : (k : Int) < (ds.length : Int) := by omega
      cases ov with
      | true =>
        go_wp2_with ((go_at_call 53; go_must (refine (HCC.out).mono ?_; rintro e w2 ⟨rfl, hb2⟩; have HB2 := Lib.hid hb2; clear hb2)))
        go_roundg (ds.length - (k + 1))
        case measure => omega
        case rel => exact ⟨k + 1, by omega, rfl, by go_num, HV1.out trivial, HB0.out.trans (HB2.out.mono hbz)⟩
      | false =>
        go_wp2_with ((go_at_call 53; go_must (refine (HCC.out).mono ?_; rintro e w2 ⟨rfl, hb2⟩; have HB2 := Lib.hid hb2; clear hb2)))
        go_ret
        exact ⟨ret_bool (by rw [HF1.out (HV0.out trivial)]), by rw [HZ.out]; exact HBR.out.trans (HB2.out.mono (by have := HBR.out.size; have := HZ.out; omega))⟩
    · obtain rfl : k = ds.length := by omega
      rw [List.take_length] at hall
      have HA := Lib.hid hall
      have HF := Lib.hid (HF3.out hall)
      have hS := HS.out
      clear hall HD HED HF1 HF3
      obtain ⟨wo, rfl⟩ : ∃ wo : World, wo = wr := ⟨_, rfl⟩
      have hXl : H < wo.heap.size := (Array.getElem?_eq_some_iff.1 X2.out).1
      clear HB0 hbz X1 HB HS hS hk hlt
      go_wp2
      clear y0
      go_loopg [4] rs.length (fun g i wr => ∃ k, k ≤ rs.length ∧ g = rs.length - k ∧ i = .int .i64 (k : Int) ∧ (rs.take k).all okR = true ∧ Below wo.heap.size wo wr)
      case atStart => exact ⟨0, Nat.zero_le _, by omega, rfl, by simp, Below.refl _ _⟩
      case round => as_aux_lemma =>
        obtain ⟨k, hk, rfl, rfl, hall, hb0⟩ := hrel
        have hbz := hb0.size
        have y1 : wr.cell? ⟨H, 1, none⟩ = some (.slice a1 rs.length c1) := cell_of_row wr H 1 _ _ (0, 0) ((hb0.block H hXl).trans X2.out)
        have HBW := Lib.hid (HBR.out.trans (hb0.mono (by have := HBR.out.size; have := HZ.out; omega)))
        have HB0 := Lib.hid hb0; clear hb0
        by_cases hlt : k < rs.length
        · obtain ⟨g, o, rfl, r1⟩ := Reads.elems HR.out (by omega)
          obtain ⟨a2, c2, a3, c3, e0, e1, e2, e3, hr1, hr2⟩ := rule_cells r1 hlt
          have hgl : g < H := by rw [← HZ.out]; exact World.block_lt_of_cell? _ _ e0
          have q0 := (HBW.out.cell (p := ⟨g, o + k * 4, none⟩) hgl).trans e0
          have q1 := (HBW.out.cell (p := ⟨g, o + k * 4 + 1, none⟩) hgl).trans e1
          have q2 := (HBW.out.cell (p := ⟨g, o + k * 4 + 2, none⟩) hgl).trans e2
          have q3 := (HBW.out.cell (p := ⟨g, o + k * 4 + 3, none⟩) hgl).trans e3
          have HBG := Lib.hid (HER.out _ (List.getElem_mem hlt))
          have HAC := Lib.hid (HACT.out _ (List.getElem_mem hlt))
          have HV0 := Lib.hid (all_false okR hlt); have HV1 := Lib.hid (all_take okR hlt hall)
          have HR1 := Lib.hid (Reads.below (w := w) (by rw [HZ.out]; exact HBW.out) hr1)
          have HR2 := Lib.hid (Reads.below (w := w) (by rw [HZ.out]; exact HBW.out) hr2)
          clear r1 e0 e1 e2 e3 hr1 hr2 hall
          generalize rs[k] = y at *
          have HX3 := Lib.hid (box1 wr (.cells #[.string (bs y.name), .slice a2 y.params.length c2, .slice a3 y.alts.length c3, .int .i64 y.at_] 38 (0, 0)))
          have hyn := HBG.out.name; have hyp := HBG.out.params; have hya := HBG.out.alts
          unfold Lim at hyn hyp hya
          have HN := Lib.hid (show ∀ u : World, Calls Tryz.prog 54 #[.string (bs y.name)] u fun e w' => e = .returned (.bool (nameB y.name)) ∧ u = w' from fun u => name_b hyn rfl)
          have HNS := Lib.hid (show ∀ u : World, Below wr.heap.size wr u → Calls Tryz.prog 55 #[.slice a2 y.params.length c2] u fun e w' => e = .returned (.bool (y.params.all nameB)) ∧ u = w' from fun u hu => names_r (Reads.below hu HR1.out) hyp (fun n hn => by have h := HBG.out.eachP n hn; unfold bigS at h; exact h))
          have HO1 := Lib.hid (okR_f1 (r := y)); have HO2 := Lib.hid (okR_f2 (r := y)); have HO3 := Lib.hid (okR_f3 (r := y)); have HO4 := Lib.hid (okR_f4 (r := y)); have HO5 := Lib.hid (okR_t (r := y))
          clear HR1 hyn
          generalize nameB y.name = nb at *
          generalize y.params.all nameB = pb at *
          generalize bs y.name = zn at *
          have j0 : (0 : Int) ≤ (k : Int) := by omega
          have j1 : (k : Int) < (rs.length : Int) := by omega
          go_upto_region 10 with fail
          obtain ⟨x3, hb3, hs3⟩ := HX3.out
          generalize wr.alloc (.cells #[.string zn, .slice a2 y.params.length c2, .slice a3 y.alts.length c3, .int .i64 y.at_] 38 (0, 0)) = w3 at *
          have X3 := Lib.hid x3
          have m0 : w3.cell? ⟨wr.heap.size, 0, none⟩ = some (.string zn) := cell_of_row w3 _ 0 _ _ (0, 0) x3
          have m1 : w3.cell? ⟨wr.heap.size, 1, none⟩ = some (.slice a2 y.params.length c2) := cell_of_row w3 _ 1 _ _ (0, 0) x3
          have m2 : w3.cell? ⟨wr.heap.size, 2, none⟩ = some (.slice a3 y.alts.length c3) := cell_of_row w3 _ 2 _ _ (0, 0) x3
          have HN1 := Lib.hid (HN.out w3); have HNS1 := Lib.hid (HNS.out w3 hb3)
          have HB3 := Lib.hid hb3; have HS3 := Lib.hid hs3
          have hX3l : wr.heap.size < w3.heap.size := by omega
          clear HX3 x3 hb3 hs3 HN HNS q0 q1 q2 q3 y1
          generalize hG : wr.heap.size = G at *
          have HG := Lib.hid hG; clear hG
          have HBF := Lib.hid (show Below H w w3 from HBW.out.trans (HB3.out.mono (by have := HBW.out.size; have := HG.out; have := HZ.out; omega)))
          have HBO := Lib.hid (show Below wo.heap.size wo w3 from HB0.out.trans (HB3.out.mono (by have := HG.out; have := HB0.out.size; omega)))
          cases nb with
          | false =>
            go_wp2_with ((go_at_call 54; go_must (refine (HN1.out).mono ?_; rintro e w2 ⟨rfl, rfl⟩)))
            go_ret
            exact ⟨ret_bool (by rw [HF2.out (HV0.out (HO1.out trivial))]), by rw [HZ.out]; exact HBF.out⟩
          | true =>
            cases pb with
            | false =>
              go_wp2_with (first | (go_at_call 54; go_must (refine (HN1.out).mono ?_; rintro e w2 ⟨rfl, rfl⟩)) | (go_at_call 55; go_must (refine (HNS1.out).mono ?_; rintro e w2 ⟨rfl, rfl⟩)))
              go_ret
              exact ⟨ret_bool (by rw [HF2.out (HV0.out (HO2.out trivial))]), by rw [HZ.out]; exact HBF.out⟩
            | true =>
              by_cases hae : y.alts = []
              · have ha0 : ((y.alts.length : Int) == 0) = true := by rw [hae]; rfl
                have HE := Lib.hid (HF2.out (HV0.out (HO3.out hae)))
                clear hae
                go_wp2_with (first | (go_at_call 54; go_must (refine (HN1.out).mono ?_; rintro e w2 ⟨rfl, rfl⟩)) | (go_at_call 55; go_must (refine (HNS1.out).mono ?_; rintro e w2 ⟨rfl, rfl⟩)))
                go_ret
                exact ⟨ret_bool (by rw [HE.out]), by rw [HZ.out]; exact HBF.out⟩
              · have hal : 0 < y.alts.length := List.length_pos_iff.2 hae
                have ha0 : ((y.alts.length : Int) == 0) = false := beq_eq_false_iff_ne.2 (by omega)
                have HAE := Lib.hid hae
                clear hae
                go_upto_region 13 with (first | (go_at_call 54; go_must (refine (HN1.out).mono ?_; rintro e w2 ⟨rfl, rfl⟩)) | (go_at_call 55; go_must (refine (HNS1.out).mono ?_; rintro e w2 ⟨rfl, rfl⟩)))
                clear m0 m1 m2 HN1 HNS1 ha0
                go_loopg [6] y.alts.length (fun g i wz => ∃ j, j ≤ y.alts.length ∧ g = y.alts.length - j ∧ i = .int .i64 (j : Int) ∧ (y.alts.take j).all okA = true ∧ Below w3.heap.size w3 wz)
                case atStart => exact ⟨0, Nat.zero_le _, by omega, rfl, by simp, Below.refl _ _⟩
                case round => as_aux_lemma =>
                  obtain ⟨j, hj, rfl, rfl, halj, hb5⟩ := hrel
                  have m2 : wr.cell? ⟨G, 2, none⟩ = some (.slice a3 y.alts.length c3) := cell_of_row wr _ 2 _ _ (0, 0) ((hb5.block G hX3l).trans X3.out)
                  have hb5z := hb5.size
                  have HB5 := Lib.hid hb5; clear hb5
                  by_cases hlj : j < y.alts.length
                  · obtain ⟨g2, o2, rfl, r2⟩ := Reads.elems HR2.out (by omega)
                    obtain ⟨a4, c4, e0, e1, e2, e3, e4, e5, hry⟩ := alt_cells r2 hlj
                    have hgl2 := World.block_lt_of_cell? _ _ e0
                    have HB5C := Lib.hid (HB3.out.trans (HB5.out.mono (by have := HS3.out; omega)))
                    have q0 := ext_at HG.out HB5C.out e0
                    have q1 := ext_at HG.out HB5C.out e1
                    have q2 := ext_at HG.out HB5C.out e2
                    have q3 := ext_at HG.out HB5C.out e3
                    have q4 := ext_at HG.out HB5C.out e4
                    have q5 := ext_at HG.out HB5C.out e5
                    have HCC := Lib.hid (alt_r (x := y.alts[j]) (w := wr) (Reads.below (by rw [HG.out]; exact HB5C.out) hry) (HBG.out.eachA _ (List.getElem_mem hlj)) (HAC.out _ (List.getElem_mem hlj)))
                    have HW0 := Lib.hid (all_false okA hlj); have HW1 := Lib.hid (all_take okA hlj halj)
                    clear hry r2 e0 e1 e2 e3 e4 e5 halj hgl2
                    generalize okA y.alts[j] = ov at *
                    generalize y.alts[j] = x4 at *
                    generalize bs x4.prec = zp at *
                    generalize bs x4.action = za at *
                    have i0 : (0 : Int) ≤ (j : Int) := by omega
                    have i1 : (j : Int) < (y.alts.length : Int) := by omega
                    cases ov with
                    | true =>
                      go_wp2_with ((go_at_call 56; go_must (refine (HCC.out).mono ?_; rintro e w2 ⟨rfl, hb2⟩; have HB2 := Lib.hid hb2; clear hb2)))
                      go_roundg (y.alts.length - (j + 1))
                      case measure => omega
                      case rel => exact ⟨j + 1, by omega, rfl, by go_num, HW1.out trivial, HB5.out.trans (HB2.out.mono hb5z)⟩
                    | false =>
                      go_wp2_with ((go_at_call 56; go_must (refine (HCC.out).mono ?_; rintro e w2 ⟨rfl, hb2⟩; have HB2 := Lib.hid hb2; clear hb2)))
                      go_ret
                      exact ⟨ret_bool (by rw [HF2.out (HV0.out (HO4.out (HW0.out trivial)))]), by rw [HZ.out]; exact HBF.out.trans ((HB5.out.trans (HB2.out.mono hb5z)).mono (by have := HBF.out.size; have := HZ.out; omega))⟩
                  · obtain rfl : j = y.alts.length := by omega
                    rw [List.take_length] at halj
                    have HOK := Lib.hid (HV1.out (HO5.out trivial trivial HAE.out halj))
                    clear halj
                    go_wp2
                    go_roundg (rs.length - (k + 1))
                    case measure => omega
                    case rel => exact ⟨k + 1, by omega, rfl, by go_num, HOK.out, HBO.out.trans (HB5.out.mono HBO.out.size)⟩
        · obtain rfl : k = rs.length := by omega
          rw [List.take_length] at hall
          have HE := Lib.hid (HF.out hall); clear hall
          go_wp2
          go_ret
          exact ⟨ret_bool HE.out.symm, by rw [HZ.out]; exact HBW.out⟩
end Go.Proofs.YtghebacphjglbaaGreat.RwH
