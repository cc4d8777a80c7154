/- The writer of grammars' texts: declarations, walked. -/
import Derived.Test.YtghebacphjglbaaGreatWrL
namespace Go.Proofs.YtghebacphjglbaaGreat.WrM
open Go.RowKit Go.Proofs.YtghebacphjglbaaGreat.Lexy Go.Proofs.YtghebacphjglbaaGreat.LexA Go.Proofs.YtghebacphjglbaaGreat.LexB Go.Proofs.YtghebacphjglbaaGreat.LexC Go.Proofs.YtghebacphjglbaaGreat.LexD Go.Proofs.YtghebacphjglbaaGreat.LexE Go.Proofs.YtghebacphjglbaaGreat.LexF Go.Proofs.YtghebacphjglbaaGreat.LexG Go.Proofs.YtghebacphjglbaaGreat.Heap Go.Proofs.YtghebacphjglbaaGreat.Dat Go.Proofs.YtghebacphjglbaaGreat.Ready Go.Proofs.YtghebacphjglbaaGreat.ReadA Go.Proofs.YtghebacphjglbaaGreat.ReadC Go.Proofs.YtghebacphjglbaaGreat.ReadI Go.Proofs.YtghebacphjglbaaGreat.Same Go.Proofs.YtghebacphjglbaaGreat.Cut Go.Proofs.YtghebacphjglbaaGreat.WrB Go.Proofs.YtghebacphjglbaaGreat.WrD Go.Proofs.YtghebacphjglbaaGreat.WrE Go.Proofs.YtghebacphjglbaaGreat.WrF Go.Proofs.YtghebacphjglbaaGreat.WrG Go.Proofs.YtghebacphjglbaaGreat.WrH Go.Proofs.YtghebacphjglbaaGreat.WrI Go.Proofs.YtghebacphjglbaaGreat.WrJ Go.Proofs.YtghebacphjglbaaGreat.WrK Go.Proofs.YtghebacphjglbaaGreat.WrL

theorem test_eq (l s : List UInt8) : ((bs l).toList == s) = decide (l = s) := by
  rw [bs_toList]
  by_cases h : l = s
  · rw [decide_eq_true h]; exact beq_iff_eq.2 h
  · rw [decide_eq_false h]; exact beq_eq_false_iff_ne.2 h
/-- which kind a declaration is of, and whether it may be -/
theorem kinds (d : De) : ∃ b1 b2 b3 b4 b5 b6 : Bool, ((bs d.kind).toList == ({ data := #[116, 111, 107, 101, 110] } : ByteArray).toList) = b1 ∧ ((bs d.kind).toList == ([116, 111, 107, 101, 110] : List UInt8)) = b1 ∧ ((bs d.kind).toList == ({ data := #[116, 121, 112, 101] } : ByteArray).toList) = b2 ∧ ((bs d.kind).toList == ([116, 121, 112, 101] : List UInt8)) = b2 ∧ ((bs d.kind).toList == ({ data := #[108, 101, 102, 116] } : ByteArray).toList) = b3 ∧ ((bs d.kind).toList == ([108, 101, 102, 116] : List UInt8)) = b3 ∧ ((bs d.kind).toList == ({ data := #[114, 105, 103, 104, 116] } : ByteArray).toList) = b4 ∧ ((bs d.kind).toList == ([114, 105, 103, 104, 116] : List UInt8)) = b4 ∧ ((bs d.kind).toList == ({ data := #[110, 111, 110, 97, 115, 115, 111, 99] } : ByteArray).toList) = b5 ∧ ((bs d.kind).toList == ([110, 111, 110, 97, 115, 115, 111, 99] : List UInt8)) = b5 ∧ ((bs d.kind).toList == ({ data := #[115, 116, 97, 114, 116] } : ByteArray).toList) = b6 ∧ ((bs d.kind).toList == ([115, 116, 97, 114, 116] : List UInt8)) = b6 ∧
    ((b1 = true ∧ kindB d = true) ∨ (b1 = false ∧ b2 = true ∧ kindB d = decide (d.type ≠ [])) ∨ (b1 = false ∧ b2 = false ∧ b3 = true ∧ kindB d = decide (d.type = [])) ∨ (b1 = false ∧ b2 = false ∧ b3 = false ∧ b4 = true ∧ kindB d = decide (d.type = [])) ∨ (b1 = false ∧ b2 = false ∧ b3 = false ∧ b4 = false ∧ b5 = true ∧ kindB d = decide (d.type = [])) ∨ (b1 = false ∧ b2 = false ∧ b3 = false ∧ b4 = false ∧ b5 = false ∧ b6 = true ∧ kindB d = decide (d.type = [])) ∨ (b1 = false ∧ b2 = false ∧ b3 = false ∧ b4 = false ∧ b5 = false ∧ b6 = false ∧ kindB d = false)) := by
  refine ⟨_, _, _, _, _, _, strs_eq d.kind [116, 111, 107, 101, 110], test_eq d.kind [116, 111, 107, 101, 110], strs_eq d.kind [116, 121, 112, 101], test_eq d.kind [116, 121, 112, 101], strs_eq d.kind [108, 101, 102, 116], test_eq d.kind [108, 101, 102, 116], strs_eq d.kind [114, 105, 103, 104, 116], test_eq d.kind [114, 105, 103, 104, 116], strs_eq d.kind [110, 111, 110, 97, 115, 115, 111, 99], test_eq d.kind [110, 111, 110, 97, 115, 115, 111, 99], strs_eq d.kind [115, 116, 97, 114, 116], test_eq d.kind [115, 116, 97, 114, 116], ?_⟩
  by_cases h1 : d.kind = [116, 111, 107, 101, 110]
  · exact .inl ⟨decide_eq_true h1, by unfold kindB; rw [h1]; rfl⟩
  by_cases h2 : d.kind = [116, 121, 112, 101]
  · exact .inr (.inl ⟨decide_eq_false h1, decide_eq_true h2, by unfold kindB; rw [h2]; simp [tokenT, typeT, othersL]⟩)
  by_cases h3 : d.kind = [108, 101, 102, 116]
  · exact .inr (.inr (.inl ⟨decide_eq_false h1, decide_eq_false h2, decide_eq_true h3, by unfold kindB; rw [h3]; simp [tokenT, typeT, othersL]⟩))
  by_cases h4 : d.kind = [114, 105, 103, 104, 116]
  · exact .inr (.inr (.inr (.inl ⟨decide_eq_false h1, decide_eq_false h2, decide_eq_false h3, decide_eq_true h4, by unfold kindB; rw [h4]; simp [tokenT, typeT, othersL]⟩)))
  by_cases h5 : d.kind = [110, 111, 110, 97, 115, 115, 111, 99]
  · exact .inr (.inr (.inr (.inr (.inl ⟨decide_eq_false h1, decide_eq_false h2, decide_eq_false h3, decide_eq_false h4, decide_eq_true h5, by unfold kindB; rw [h5]; simp [tokenT, typeT, othersL]⟩))))
  by_cases h6 : d.kind = [115, 116, 97, 114, 116]
  · exact .inr (.inr (.inr (.inr (.inr (.inl ⟨decide_eq_false h1, decide_eq_false h2, decide_eq_false h3, decide_eq_false h4, decide_eq_false h5, decide_eq_true h6, by unfold kindB; rw [h6]; simp [tokenT, typeT, othersL]⟩)))))
  · exact .inr (.inr (.inr (.inr (.inr (.inr ⟨decide_eq_false h1, decide_eq_false h2, decide_eq_false h3, decide_eq_false h4, decide_eq_false h5, decide_eq_false h6, by unfold kindB; simp [tokenT, typeT, othersL, h1, h2, h3, h4, h5, h6]⟩)))))
-- THE WALK
set_option maxRecDepth 100000 in
set_option maxHeartbeats 8000000 in
theorem decl_any {W0 : World} {x : De} {b : Nat} {m : Int} {l : List UInt8} {w : World} {s : Value} (hI : IsW W0.heap.size b l w) (hE : Env W0.heap.size m w) (hW : Below W0.heap.size W0 w) (hN : Reads W0 (.row 9 1 x.names.length (nmsD x.names)) s) (hlen : kindB x = true → l.length + (wrD x).length ≤ 140737488351232) (hok : DeOk x) :
    Calls Tryz.prog 31 #[.pointer (some ⟨b, 0, none⟩), .agg #[.string (bs x.kind), .string (bs x.type), s, .int .i64 x.at_]] w (Wrote W0.heap.size b w l (okD x) (wrD x)) := by
  obtain ⟨b1, b2, b3, b4, b5, b6, t1, s1, t2, s2, t3, s3, t4, s4, t5, s5, t6, s6, hk⟩ := kinds x
  obtain ⟨kd, ty, ns, at_⟩ := x
  have hns : ns.length ≤ 1000000 := hok
  clear hok
  simp only at hN t1 t2 t3 t4 t5 t6 s1 s2 s3 s4 s5 s6 hk ⊢
  unfold wrD at hlen ⊢
  unfold okD
  simp only [List.length_append, List.length_cons, List.length_nil] at hlen ⊢
  obtain ⟨a0, c0, rfl⟩ := Reads.slice hN
  have hbl := hI.lt
  have hsz := hW.size
  have HX := Lib.hid (box1 w (.cells #[.string (bs kd), .string (bs ty), .slice a0 ns.length c0, .int .i64 at_] 62 (0, 0)))
  have ty1 : ((bs ty).toList == ([] : List UInt8)) = decide (ty = []) := test_eq ty []
  have ty2 : ((bs ty).toList == ({ data := #[] } : ByteArray).toList) = decide (ty = []) := strs_eq ty []
  have hpt : ∀ (u : World) (l' : List UInt8) (g : Nat), g = u.heap.size → IsW W0.heap.size b l' u → Env W0.heap.size m u → l'.length + (2 + ty.length) ≤ 140737488351232 → Calls Tryz.prog 49 #[.pointer (some ⟨b, 0, none⟩), .string { data := #[32, 60] }, .slice (some ⟨g, 0, none⟩) 1 1] (u.alloc (.cells #[.string (bs ty)] 9)) (Wrote W0.heap.size b u l' (nameB ty) (32 :: 60 :: ty)) := fun u l' g hg hu he hl => name1 (n := ty) (a := [32, 60]) hg rfl rfl hu he (by simpa using hl)
  have hpn : ∀ (u : World) (l' : List UInt8), IsW W0.heap.size b l' u → Env W0.heap.size m u → Below W0.heap.size W0 u → l'.length + (blanks ns).length ≤ 140737488351232 → Calls Tryz.prog 49 #[.pointer (some ⟨b, 0, none⟩), .string { data := #[32] }, .slice a0 ns.length c0] u (Wrote W0.heap.size b u l' (ns.all nameB) (blanks ns)) := fun u l' hi he hu hl => names_any (a := [32]) rfl hi he (fun w' hk => Reads.below (hu.trans hk.below) hN) hl hns
  have HPT := Lib.hid hpt; have HPN := Lib.hid hpn
  have HI := Lib.hid hI; have HE := Lib.hid hE; have HW := Lib.hid hW
  clear hI hE hW hN hpt hpn
  have hF0 : kindB ⟨kd, ty, ns, at_⟩ = false → (kindB ⟨kd, ty, ns, at_⟩ && (decide (ns ≠ []) && ((decide (ty = []) || nameB ty) && ns.all nameB))) = false := fun e => by rw [e]; rfl
  have hF1 : ns = [] → (kindB ⟨kd, ty, ns, at_⟩ && (decide (ns ≠ []) && ((decide (ty = []) || nameB ty) && ns.all nameB))) = false := fun e => by rw [decide_eq_false (not_not_intro e)]; simp
  have hF2 : decide (ty = []) = false → nameB ty = false → (kindB ⟨kd, ty, ns, at_⟩ && (decide (ns ≠ []) && ((decide (ty = []) || nameB ty) && ns.all nameB))) = false := fun e1 e2 => by rw [e1, e2]; simp
  have hF3 : ns.all nameB = false → (kindB ⟨kd, ty, ns, at_⟩ && (decide (ns ≠ []) && ((decide (ty = []) || nameB ty) && ns.all nameB))) = false := fun e => by rw [e]; simp
  have hF4 : kindB ⟨kd, ty, ns, at_⟩ = true → ns ≠ [] → (decide (ty = []) || nameB ty) = true → ns.all nameB = true → (kindB ⟨kd, ty, ns, at_⟩ && (decide (ns ≠ []) && ((decide (ty = []) || nameB ty) && ns.all nameB))) = true := fun e1 e2 e3 e4 => by rw [e1, decide_eq_true e2, e3, e4]; rfl
  have hG0 : decide (ty = []) = true → l ++ 37 :: (kd ++ (wrTy ty ++ (blanks ns ++ [59, 10]))) = l ++ (37 :: kd) ++ blanks ns ++ [59, 10] := fun e => by rw [wrTy, if_pos (of_decide_eq_true e)]; simp
  have hG1 : decide (ty = []) = false → l ++ 37 :: (kd ++ (wrTy ty ++ (blanks ns ++ [59, 10]))) = l ++ (37 :: kd) ++ (32 :: 60 :: ty) ++ [62] ++ blanks ns ++ [59, 10] := fun e => by rw [wrTy, if_neg (of_decide_eq_false e)]; simp
  have hL0 : kindB ⟨kd, ty, ns, at_⟩ = true → decide (ty = []) = true → l.length + (kd.length + ((blanks ns).length + 3)) ≤ 140737488351232 := fun ek e => by have := hlen ek; omega
  have hL1 : kindB ⟨kd, ty, ns, at_⟩ = true → decide (ty = []) = false → l.length + (kd.length + (ty.length + ((blanks ns).length + 6))) ≤ 140737488351232 := fun ek e => by
    have := hlen ek
    have : (wrTy ty).length = ty.length + 3 := by rw [wrTy, if_neg (of_decide_eq_false e)]; simp
    omega
  have HF0 := Lib.hid hF0; have HF1 := Lib.hid hF1; have HF2 := Lib.hid hF2; have HF3 := Lib.hid hF3; have HF4 := Lib.hid hF4
  have HG0 := Lib.hid hG0; have HG1 := Lib.hid hG1; have HL0 := Lib.hid hL0; have HL1 := Lib.hid hL1
  clear hF0 hF1 hF2 hF3 hF4 hG0 hG1 hL0 hL1 hlen
  generalize (kindB ⟨kd, ty, ns, at_⟩ && (decide (ns ≠ []) && ((decide (ty = []) || nameB ty) && ns.all nameB))) = okF at *
  generalize 37 :: (kd ++ (wrTy ty ++ (blanks ns ++ [59, 10]))) = addF at *
  have hnot : decide (ty ≠ []) = !decide (ty = []) := by simp
  rw [hnot] at hk
  clear hnot
  generalize kindB ⟨kd, ty, ns, at_⟩ = kb at *
  generalize decide (ty = []) = dt at *
  generalize nameB ty = okt at *
  generalize ns.all nameB = okn at *
  generalize bs ty = zt at *
  obtain ⟨zk, hzk⟩ : ∃ zk, zk = bs kd := ⟨_, rfl⟩
  rw [← hzk] at t1 t2 t3 t4 t5 t6 s1 s2 s3 s4 s5 s6 HX ⊢
  have HZK := Lib.hid hzk
  clear hzk
  go_enter Tryz.func31, Tryz.ntmps31
  go_upto_region 1 with fail
  generalize hw1 : (w.alloc (.cells #[.string zk, .string zt, .slice a0 ns.length c0, .int .i64 at_] 62 (0, 0))) = w1 at *
  clear hw1
  obtain ⟨x1, hbx, hsx⟩ := HX.out
  have HI1 := Lib.hid (HI.out.new hbx); have HE1 := Lib.hid (HE.out.new hbx)
  have HK1 := Lib.hid ((Kb.refl W0.heap.size b w).new hbx hsz)
  have X1 := Lib.hid x1
  have hs1 : W0.heap.size ≤ w1.heap.size := by omega
  generalize w.heap.size = H at *
  have y0 : w1.cell? ⟨H, 0, none⟩ = some (.string zk) := cell_of_row w1 H 0 _ _ (0, 0) x1
  have y1 : w1.cell? ⟨H, 1, none⟩ = some (.string zt) := cell_of_row w1 H 1 _ _ (0, 0) x1
  clear HX HI HE hbx x1
  rcases hk with ⟨rfl, hkb⟩ | ⟨rfl, rfl, hkb⟩ | ⟨rfl, rfl, rfl, hkb⟩ | ⟨rfl, rfl, rfl, rfl, hkb⟩ | ⟨rfl, rfl, rfl, rfl, rfl, hkb⟩ | ⟨rfl, rfl, rfl, rfl, rfl, rfl, hkb⟩ | ⟨rfl, rfl, rfl, rfl, rfl, rfl, hkb⟩ <;> cases dt
  · go_upto_region 11 with fail
    obtain ⟨wa, hwa⟩ : ∃ wa, wa = w1 := ⟨_, rfl⟩
    subst hwa
    have HIa := HI1; have HEa := HE1; have HKa := HK1; have XA := X1; have hsa := hs1
    clear y0 y1 HI1 HE1 HK1 X1
    have hHa : H < wa.heap.size := (Array.getElem?_eq_some_iff.1 XA.out).1
    have z2 : wa.cell? ⟨H, 2, none⟩ = some (.slice a0 ns.length c0) := cell_of_row wa H 2 _ _ (0, 0) XA.out
    clear t1 t2 t3 t4 t5 t6 s1 s2 s3 s4 s5 s6
    by_cases he : ns = []
    · have hpos : ¬ (0 : Int) < (ns.length : Int) := by rw [he]; simp
      have hdn : decide (0 < ns.length) = false := by rw [he]; rfl
      have HF := Lib.hid (HF1.out he)
      clear he
      go_wp2_with (go_at_call 48; refine (must_f (w := wa) (by omega)).mono ?_; rintro e w2 ⟨rfl, rfl⟩)
      exact ⟨rfl, kb_alloc HKa.out hsa _, .inr ⟨HF.out, rfl⟩⟩
    have hpos : (0 : Int) < (ns.length : Int) := by
      cases ns with
      | nil => exact absurd rfl he
      | cons _ _ => simp
    have hdn : decide (0 < ns.length) = true := decide_eq_true (by omega)
    have HNE := Lib.hid he
    clear he HF1
    go_upto_region 12 with (go_at_call 48; refine (must_t (w := wa) (by omega)).mono ?_; rintro e w2 ⟨rfl, rfl⟩)
    have HX1 := Lib.hid (box1 wa (.cells #[.bool true] 4 (0, 0)))
    generalize hw2 : wa.alloc (.cells #[.bool true] 4 (0, 0)) = w2 at *
    clear hw2
    obtain ⟨x2, hb2, hs2⟩ := HX1.out
    have XB := Lib.hid ((hb2.block H hHa).trans XA.out)
    have HIb := Lib.hid (HIa.out.new hb2)
    have HEb := Lib.hid (HEa.out.new hb2)
    have HKb := Lib.hid (HKa.out.new hb2 hsa)
    have hsb : W0.heap.size ≤ w2.heap.size := by omega
    have b0 : w2.cell? ⟨H, 0, none⟩ = some (.string zk) := cell_of_row w2 H 0 _ _ (0, 0) XB.out
    have hll := HL1.out hkb trivial
    clear HX1 x2 hb2 XA HIa HEa HKa z2 hdn hpos
    go_upto_region 13 with (go_at_call 32; refine (put2 (w := w2) (s := [37]) (t := kd) (by omega) rfl HZK.out HIb.out hsb (by simp only [List.length_cons, List.length_nil]; omega)).mono ?_; rintro e w3 ⟨rfl, hI3, hK3⟩)
    have XC := Lib.hid (hK3.heap XB.out (by omega) (by decide))
    have HI3 := Lib.hid (show IsW W0.heap.size b (l ++ (37 :: kd)) w3 from hI3)
    have HE3 := Lib.hid (HEb.out.kb hK3)
    have HK3 := Lib.hid (HKb.out.trans hK3)
    have hs3 : W0.heap.size ≤ w3.heap.size := HE3.out.size
    clear hI3 hK3 HIb HEb HKb b0 XB
    have d1 : w3.cell? ⟨H, 1, none⟩ = some (.string zt) := cell_of_row w3 H 1 _ _ (0, 0) XC.out
    have HD := Lib.hid (HPT.out w3 _ _ rfl HI3.out HE3.out (by simp only [List.length_append, List.length_cons]; omega))
    go_upto_region 15 with (go_at_call 49; refine (HD.out).mono ?_; rintro e w4 ⟨hK4, hr⟩; rcases hr with ⟨rfl, rfl, hI4⟩ | ⟨rfl, rfl⟩)
    rotate_left
    · exact ⟨rfl, HK3.out.trans hK4, .inr ⟨HF2.out trivial trivial, rfl⟩⟩
    have XD := Lib.hid (hK4.heap XC.out (by omega) (by decide))
    have HI4 := Lib.hid hI4; have HE4 := Lib.hid (HE3.out.kb hK4); have HK4 := Lib.hid (HK3.out.trans hK4)
    have hs4 : W0.heap.size ≤ w4.heap.size := HE4.out.size
    clear hI4 hK4 HI3 HE3 HK3 d1 XC HD
    go_upto_region 16 with (go_at_call 32; refine (put1 (w := w4) (s := [62]) (by omega) rfl HI4.out hs4 (by simp only [List.length_append, List.length_cons, List.length_nil]; omega)).mono ?_; rintro e w5 ⟨rfl, hI5, hK5⟩)
    have XE := Lib.hid (hK5.heap XD.out (by omega) (by decide))
    have HI5 := Lib.hid hI5; have HE5 := Lib.hid (HE4.out.kb hK5); have HK5 := Lib.hid (HK4.out.trans hK5)
    clear hI5 hK5 HI4 HE4 HK4 XD
    have d2 : w5.cell? ⟨H, 2, none⟩ = some (.slice a0 ns.length c0) := cell_of_row w5 H 2 _ _ (0, 0) XE.out
    have HW5 := Lib.hid (HW.out.trans HK5.out.below)
    have HC := Lib.hid (HPN.out w5 _ HI5.out HE5.out HW5.out (by simp only [List.length_append, List.length_cons, List.length_nil]; omega))
    have hs5 : W0.heap.size ≤ w5.heap.size := HE5.out.size
    go_upto_region 17 with (go_at_call 49; refine (HC.out).mono ?_; rintro e w6 ⟨hK6, hr⟩; rcases hr with ⟨rfl, rfl, hI6⟩ | ⟨rfl, rfl⟩)
    rotate_left
    · exact ⟨rfl, HK5.out.trans hK6, .inr ⟨HF3.out trivial, rfl⟩⟩
    have HI6 := Lib.hid hI6; have HK6 := Lib.hid (HK5.out.trans hK6); have hs6 := hK6.size
    clear hI6 hK6
    have HG := Lib.hid (HG1.out trivial)
    go_wp2_with (go_at_call 32; refine (put1 (w := w6) (s := [59, 10]) (by omega) rfl HI6.out (by omega) (by simp only [List.length_append, List.length_cons, List.length_nil]; omega)).mono ?_; rintro e w7 ⟨rfl, hI7, hK7⟩)
    have HI7 := Lib.hid hI7; have HK7 := Lib.hid hK7; clear hI7 hK7
    go_end0
    exact ⟨HK6.out.trans HK7.out, .inl ⟨HF4.out hkb HNE.out rfl trivial, rfl, by rw [HG.out]; exact HI7.out⟩⟩
  · go_upto_region 11 with fail
    obtain ⟨wa, hwa⟩ : ∃ wa, wa = w1 := ⟨_, rfl⟩
    subst hwa
    have HIa := HI1; have HEa := HE1; have HKa := HK1; have XA := X1; have hsa := hs1
    clear y0 y1 HI1 HE1 HK1 X1
    have hHa : H < wa.heap.size := (Array.getElem?_eq_some_iff.1 XA.out).1
    have z2 : wa.cell? ⟨H, 2, none⟩ = some (.slice a0 ns.length c0) := cell_of_row wa H 2 _ _ (0, 0) XA.out
    clear t1 t2 t3 t4 t5 t6 s1 s2 s3 s4 s5 s6
    by_cases he : ns = []
    · have hpos : ¬ (0 : Int) < (ns.length : Int) := by rw [he]; simp
      have hdn : decide (0 < ns.length) = false := by rw [he]; rfl
      have HF := Lib.hid (HF1.out he)
      clear he
      go_wp2_with (go_at_call 48; refine (must_f (w := wa) (by omega)).mono ?_; rintro e w2 ⟨rfl, rfl⟩)
      exact ⟨rfl, kb_alloc HKa.out hsa _, .inr ⟨HF.out, rfl⟩⟩
    have hpos : (0 : Int) < (ns.length : Int) := by
      cases ns with
      | nil => exact absurd rfl he
      | cons _ _ => simp
    have hdn : decide (0 < ns.length) = true := decide_eq_true (by omega)
    have HNE := Lib.hid he
    clear he HF1
    go_upto_region 12 with (go_at_call 48; refine (must_t (w := wa) (by omega)).mono ?_; rintro e w2 ⟨rfl, rfl⟩)
    have HX1 := Lib.hid (box1 wa (.cells #[.bool true] 4 (0, 0)))
    generalize hw2 : wa.alloc (.cells #[.bool true] 4 (0, 0)) = w2 at *
    clear hw2
    obtain ⟨x2, hb2, hs2⟩ := HX1.out
    have XB := Lib.hid ((hb2.block H hHa).trans XA.out)
    have HIb := Lib.hid (HIa.out.new hb2)
    have HEb := Lib.hid (HEa.out.new hb2)
    have HKb := Lib.hid (HKa.out.new hb2 hsa)
    have hsb : W0.heap.size ≤ w2.heap.size := by omega
    have b0 : w2.cell? ⟨H, 0, none⟩ = some (.string zk) := cell_of_row w2 H 0 _ _ (0, 0) XB.out
    have hll := HL0.out hkb trivial
    clear HX1 x2 hb2 XA HIa HEa HKa z2 hdn hpos
    go_upto_region 13 with (go_at_call 32; refine (put2 (w := w2) (s := [37]) (t := kd) (by omega) rfl HZK.out HIb.out hsb (by simp only [List.length_cons, List.length_nil]; omega)).mono ?_; rintro e w3 ⟨rfl, hI3, hK3⟩)
    have XC := Lib.hid (hK3.heap XB.out (by omega) (by decide))
    have HI3 := Lib.hid (show IsW W0.heap.size b (l ++ (37 :: kd)) w3 from hI3)
    have HE3 := Lib.hid (HEb.out.kb hK3)
    have HK3 := Lib.hid (HKb.out.trans hK3)
    have hs3 : W0.heap.size ≤ w3.heap.size := HE3.out.size
    clear hI3 hK3 HIb HEb HKb b0 XB
    have d1 : w3.cell? ⟨H, 1, none⟩ = some (.string zt) := cell_of_row w3 H 1 _ _ (0, 0) XC.out
    have d2 : w3.cell? ⟨H, 2, none⟩ = some (.slice a0 ns.length c0) := cell_of_row w3 H 2 _ _ (0, 0) XC.out
    have HW3 := Lib.hid (HW.out.trans HK3.out.below)
    have HC := Lib.hid (HPN.out w3 _ HI3.out HE3.out HW3.out (by simp only [List.length_append, List.length_cons]; omega))
    go_upto_region 17 with (go_at_call 49; refine (HC.out).mono ?_; rintro e w6 ⟨hK6, hr⟩; rcases hr with ⟨rfl, rfl, hI6⟩ | ⟨rfl, rfl⟩)
    rotate_left
    · exact ⟨rfl, HK3.out.trans hK6, .inr ⟨HF3.out trivial, rfl⟩⟩
    have HI6 := Lib.hid hI6; have HK6 := Lib.hid (HK3.out.trans hK6); have hs6 := hK6.size
    clear hI6 hK6
    have HG := Lib.hid (HG0.out trivial)
    go_wp2_with (go_at_call 32; refine (put1 (w := w6) (s := [59, 10]) (by omega) rfl HI6.out (by omega) (by simp only [List.length_append, List.length_cons, List.length_nil]; omega)).mono ?_; rintro e w7 ⟨rfl, hI7, hK7⟩)
    have HI7 := Lib.hid hI7; have HK7 := Lib.hid hK7; clear hI7 hK7
    go_end0
    exact ⟨HK6.out.trans HK7.out, .inl ⟨HF4.out hkb HNE.out rfl trivial, rfl, by rw [HG.out]; exact HI7.out⟩⟩
  · go_upto_region 11 with (go_at_call 48; refine (must_t (w := w1) (by omega)).mono ?_; rintro e w2 ⟨rfl, rfl⟩)
    have HX1 := Lib.hid (box1 w1 (.cells #[.bool true] 4 (0, 0)))
    generalize hwa : w1.alloc (.cells #[.bool true] 4 (0, 0)) = wa at *
    clear hwa
    obtain ⟨x2, hb2, hs2⟩ := HX1.out
    have XA := Lib.hid ((hb2.block H (Array.getElem?_eq_some_iff.1 X1.out).1).trans X1.out)
    have HIa := Lib.hid (HI1.out.new hb2)
    have HEa := Lib.hid (HE1.out.new hb2)
    have HKa := Lib.hid (HK1.out.new hb2 hs1)
    have hsa : W0.heap.size ≤ wa.heap.size := by omega
    clear HX1 x2 hb2 y0 y1 HI1 HE1 HK1 X1
    have hHa : H < wa.heap.size := (Array.getElem?_eq_some_iff.1 XA.out).1
    have z2 : wa.cell? ⟨H, 2, none⟩ = some (.slice a0 ns.length c0) := cell_of_row wa H 2 _ _ (0, 0) XA.out
    clear t1 t2 t3 t4 t5 t6 s1 s2 s3 s4 s5 s6
    by_cases he : ns = []
    · have hpos : ¬ (0 : Int) < (ns.length : Int) := by rw [he]; simp
      have hdn : decide (0 < ns.length) = false := by rw [he]; rfl
      have HF := Lib.hid (HF1.out he)
      clear he
      go_wp2_with (go_at_call 48; refine (must_f (w := wa) (by omega)).mono ?_; rintro e w2 ⟨rfl, rfl⟩)
      exact ⟨rfl, kb_alloc HKa.out hsa _, .inr ⟨HF.out, rfl⟩⟩
    have hpos : (0 : Int) < (ns.length : Int) := by
      cases ns with
      | nil => exact absurd rfl he
      | cons _ _ => simp
    have hdn : decide (0 < ns.length) = true := decide_eq_true (by omega)
    have HNE := Lib.hid he
    clear he HF1
    go_upto_region 12 with (go_at_call 48; refine (must_t (w := wa) (by omega)).mono ?_; rintro e w2 ⟨rfl, rfl⟩)
    have HX1 := Lib.hid (box1 wa (.cells #[.bool true] 4 (0, 0)))
    generalize hw2 : wa.alloc (.cells #[.bool true] 4 (0, 0)) = w2 at *
    clear hw2
    obtain ⟨x2, hb2, hs2⟩ := HX1.out
    have XB := Lib.hid ((hb2.block H hHa).trans XA.out)
    have HIb := Lib.hid (HIa.out.new hb2)
    have HEb := Lib.hid (HEa.out.new hb2)
    have HKb := Lib.hid (HKa.out.new hb2 hsa)
    have hsb : W0.heap.size ≤ w2.heap.size := by omega
    have b0 : w2.cell? ⟨H, 0, none⟩ = some (.string zk) := cell_of_row w2 H 0 _ _ (0, 0) XB.out
    have hll := HL1.out hkb trivial
    clear HX1 x2 hb2 XA HIa HEa HKa z2 hdn hpos
    go_upto_region 13 with (go_at_call 32; refine (put2 (w := w2) (s := [37]) (t := kd) (by omega) rfl HZK.out HIb.out hsb (by simp only [List.length_cons, List.length_nil]; omega)).mono ?_; rintro e w3 ⟨rfl, hI3, hK3⟩)
    have XC := Lib.hid (hK3.heap XB.out (by omega) (by decide))
    have HI3 := Lib.hid (show IsW W0.heap.size b (l ++ (37 :: kd)) w3 from hI3)
    have HE3 := Lib.hid (HEb.out.kb hK3)
    have HK3 := Lib.hid (HKb.out.trans hK3)
    have hs3 : W0.heap.size ≤ w3.heap.size := HE3.out.size
    clear hI3 hK3 HIb HEb HKb b0 XB
    have d1 : w3.cell? ⟨H, 1, none⟩ = some (.string zt) := cell_of_row w3 H 1 _ _ (0, 0) XC.out
    have HD := Lib.hid (HPT.out w3 _ _ rfl HI3.out HE3.out (by simp only [List.length_append, List.length_cons]; omega))
    go_upto_region 15 with (go_at_call 49; refine (HD.out).mono ?_; rintro e w4 ⟨hK4, hr⟩; rcases hr with ⟨rfl, rfl, hI4⟩ | ⟨rfl, rfl⟩)
    rotate_left
    · exact ⟨rfl, HK3.out.trans hK4, .inr ⟨HF2.out trivial trivial, rfl⟩⟩
    have XD := Lib.hid (hK4.heap XC.out (by omega) (by decide))
    have HI4 := Lib.hid hI4; have HE4 := Lib.hid (HE3.out.kb hK4); have HK4 := Lib.hid (HK3.out.trans hK4)
    have hs4 : W0.heap.size ≤ w4.heap.size := HE4.out.size
    clear hI4 hK4 HI3 HE3 HK3 d1 XC HD
    go_upto_region 16 with (go_at_call 32; refine (put1 (w := w4) (s := [62]) (by omega) rfl HI4.out hs4 (by simp only [List.length_append, List.length_cons, List.length_nil]; omega)).mono ?_; rintro e w5 ⟨rfl, hI5, hK5⟩)
    have XE := Lib.hid (hK5.heap XD.out (by omega) (by decide))
    have HI5 := Lib.hid hI5; have HE5 := Lib.hid (HE4.out.kb hK5); have HK5 := Lib.hid (HK4.out.trans hK5)
    clear hI5 hK5 HI4 HE4 HK4 XD
    have d2 : w5.cell? ⟨H, 2, none⟩ = some (.slice a0 ns.length c0) := cell_of_row w5 H 2 _ _ (0, 0) XE.out
    have HW5 := Lib.hid (HW.out.trans HK5.out.below)
    have HC := Lib.hid (HPN.out w5 _ HI5.out HE5.out HW5.out (by simp only [List.length_append, List.length_cons, List.length_nil]; omega))
    have hs5 : W0.heap.size ≤ w5.heap.size := HE5.out.size
    go_upto_region 17 with (go_at_call 49; refine (HC.out).mono ?_; rintro e w6 ⟨hK6, hr⟩; rcases hr with ⟨rfl, rfl, hI6⟩ | ⟨rfl, rfl⟩)
    rotate_left
    · exact ⟨rfl, HK5.out.trans hK6, .inr ⟨HF3.out trivial, rfl⟩⟩
    have HI6 := Lib.hid hI6; have HK6 := Lib.hid (HK5.out.trans hK6); have hs6 := hK6.size
    clear hI6 hK6
    have HG := Lib.hid (HG1.out trivial)
    go_wp2_with (go_at_call 32; refine (put1 (w := w6) (s := [59, 10]) (by omega) rfl HI6.out (by omega) (by simp only [List.length_append, List.length_cons, List.length_nil]; omega)).mono ?_; rintro e w7 ⟨rfl, hI7, hK7⟩)
    have HI7 := Lib.hid hI7; have HK7 := Lib.hid hK7; clear hI7 hK7
    go_end0
    exact ⟨HK6.out.trans HK7.out, .inl ⟨HF4.out hkb HNE.out rfl trivial, rfl, by rw [HG.out]; exact HI7.out⟩⟩
  · go_wp2_with (go_at_call 48; refine (must_f (w := w1) (by omega)).mono ?_; rintro e w2 ⟨rfl, rfl⟩)
    exact ⟨rfl, kb_alloc HK1.out hs1 _, .inr ⟨HF0.out hkb, rfl⟩⟩
  · go_wp2_with (go_at_call 48; refine (must_f (w := w1) (by omega)).mono ?_; rintro e w2 ⟨rfl, rfl⟩)
    exact ⟨rfl, kb_alloc HK1.out hs1 _, .inr ⟨HF0.out hkb, rfl⟩⟩
  · go_upto_region 11 with (go_at_call 48; refine (must_t (w := w1) (by omega)).mono ?_; rintro e w2 ⟨rfl, rfl⟩)
    have HX1 := Lib.hid (box1 w1 (.cells #[.bool true] 4 (0, 0)))
    generalize hwa : w1.alloc (.cells #[.bool true] 4 (0, 0)) = wa at *
    clear hwa
    obtain ⟨x2, hb2, hs2⟩ := HX1.out
    have XA := Lib.hid ((hb2.block H (Array.getElem?_eq_some_iff.1 X1.out).1).trans X1.out)
    have HIa := Lib.hid (HI1.out.new hb2)
    have HEa := Lib.hid (HE1.out.new hb2)
    have HKa := Lib.hid (HK1.out.new hb2 hs1)
    have hsa : W0.heap.size ≤ wa.heap.size := by omega
    clear HX1 x2 hb2 y0 y1 HI1 HE1 HK1 X1
    have hHa : H < wa.heap.size := (Array.getElem?_eq_some_iff.1 XA.out).1
    have z2 : wa.cell? ⟨H, 2, none⟩ = some (.slice a0 ns.length c0) := cell_of_row wa H 2 _ _ (0, 0) XA.out
    clear t1 t2 t3 t4 t5 t6 s1 s2 s3 s4 s5 s6
    by_cases he : ns = []
    · have hpos : ¬ (0 : Int) < (ns.length : Int) := by rw [he]; simp
      have hdn : decide (0 < ns.length) = false := by rw [he]; rfl
      have HF := Lib.hid (HF1.out he)
      clear he
      go_wp2_with (go_at_call 48; refine (must_f (w := wa) (by omega)).mono ?_; rintro e w2 ⟨rfl, rfl⟩)
      exact ⟨rfl, kb_alloc HKa.out hsa _, .inr ⟨HF.out, rfl⟩⟩
    have hpos : (0 : Int) < (ns.length : Int) := by
      cases ns with
      | nil => exact absurd rfl he
      | cons _ _ => simp
    have hdn : decide (0 < ns.length) = true := decide_eq_true (by omega)
    have HNE := Lib.hid he
    clear he HF1
    go_upto_region 12 with (go_at_call 48; refine (must_t (w := wa) (by omega)).mono ?_; rintro e w2 ⟨rfl, rfl⟩)
    have HX1 := Lib.hid (box1 wa (.cells #[.bool true] 4 (0, 0)))
    generalize hw2 : wa.alloc (.cells #[.bool true] 4 (0, 0)) = w2 at *
    clear hw2
    obtain ⟨x2, hb2, hs2⟩ := HX1.out
    have XB := Lib.hid ((hb2.block H hHa).trans XA.out)
    have HIb := Lib.hid (HIa.out.new hb2)
    have HEb := Lib.hid (HEa.out.new hb2)
    have HKb := Lib.hid (HKa.out.new hb2 hsa)
    have hsb : W0.heap.size ≤ w2.heap.size := by omega
    have b0 : w2.cell? ⟨H, 0, none⟩ = some (.string zk) := cell_of_row w2 H 0 _ _ (0, 0) XB.out
    have hll := HL0.out hkb trivial
    clear HX1 x2 hb2 XA HIa HEa HKa z2 hdn hpos
    go_upto_region 13 with (go_at_call 32; refine (put2 (w := w2) (s := [37]) (t := kd) (by omega) rfl HZK.out HIb.out hsb (by simp only [List.length_cons, List.length_nil]; omega)).mono ?_; rintro e w3 ⟨rfl, hI3, hK3⟩)
    have XC := Lib.hid (hK3.heap XB.out (by omega) (by decide))
    have HI3 := Lib.hid (show IsW W0.heap.size b (l ++ (37 :: kd)) w3 from hI3)
    have HE3 := Lib.hid (HEb.out.kb hK3)
    have HK3 := Lib.hid (HKb.out.trans hK3)
    have hs3 : W0.heap.size ≤ w3.heap.size := HE3.out.size
    clear hI3 hK3 HIb HEb HKb b0 XB
    have d1 : w3.cell? ⟨H, 1, none⟩ = some (.string zt) := cell_of_row w3 H 1 _ _ (0, 0) XC.out
    have d2 : w3.cell? ⟨H, 2, none⟩ = some (.slice a0 ns.length c0) := cell_of_row w3 H 2 _ _ (0, 0) XC.out
    have HW3 := Lib.hid (HW.out.trans HK3.out.below)
    have HC := Lib.hid (HPN.out w3 _ HI3.out HE3.out HW3.out (by simp only [List.length_append, List.length_cons]; omega))
    go_upto_region 17 with (go_at_call 49; refine (HC.out).mono ?_; rintro e w6 ⟨hK6, hr⟩; rcases hr with ⟨rfl, rfl, hI6⟩ | ⟨rfl, rfl⟩)
    rotate_left
    · exact ⟨rfl, HK3.out.trans hK6, .inr ⟨HF3.out trivial, rfl⟩⟩
    have HI6 := Lib.hid hI6; have HK6 := Lib.hid (HK3.out.trans hK6); have hs6 := hK6.size
    clear hI6 hK6
    have HG := Lib.hid (HG0.out trivial)
    go_wp2_with (go_at_call 32; refine (put1 (w := w6) (s := [59, 10]) (by omega) rfl HI6.out (by omega) (by simp only [List.length_append, List.length_cons, List.length_nil]; omega)).mono ?_; rintro e w7 ⟨rfl, hI7, hK7⟩)
    have HI7 := Lib.hid hI7; have HK7 := Lib.hid hK7; clear hI7 hK7
    go_end0
    exact ⟨HK6.out.trans HK7.out, .inl ⟨HF4.out hkb HNE.out rfl trivial, rfl, by rw [HG.out]; exact HI7.out⟩⟩
  · go_wp2_with (go_at_call 48; refine (must_f (w := w1) (by omega)).mono ?_; rintro e w2 ⟨rfl, rfl⟩)
    exact ⟨rfl, kb_alloc HK1.out hs1 _, .inr ⟨HF0.out hkb, rfl⟩⟩
  · go_upto_region 11 with (go_at_call 48; refine (must_t (w := w1) (by omega)).mono ?_; rintro e w2 ⟨rfl, rfl⟩)
    have HX1 := Lib.hid (box1 w1 (.cells #[.bool true] 4 (0, 0)))
    generalize hwa : w1.alloc (.cells #[.bool true] 4 (0, 0)) = wa at *
    clear hwa
    obtain ⟨x2, hb2, hs2⟩ := HX1.out
    have XA := Lib.hid ((hb2.block H (Array.getElem?_eq_some_iff.1 X1.out).1).trans X1.out)
    have HIa := Lib.hid (HI1.out.new hb2)
    have HEa := Lib.hid (HE1.out.new hb2)
    have HKa := Lib.hid (HK1.out.new hb2 hs1)
    have hsa : W0.heap.size ≤ wa.heap.size := by omega
    clear HX1 x2 hb2 y0 y1 HI1 HE1 HK1 X1
    have hHa : H < wa.heap.size := (Array.getElem?_eq_some_iff.1 XA.out).1
    have z2 : wa.cell? ⟨H, 2, none⟩ = some (.slice a0 ns.length c0) := cell_of_row wa H 2 _ _ (0, 0) XA.out
    clear t1 t2 t3 t4 t5 t6 s1 s2 s3 s4 s5 s6
    by_cases he : ns = []
    · have hpos : ¬ (0 : Int) < (ns.length : Int) := by rw [he]; simp
      have hdn : decide (0 < ns.length) = false := by rw [he]; rfl
      have HF := Lib.hid (HF1.out he)
      clear he
      go_wp2_with (go_at_call 48; refine (must_f (w := wa) (by omega)).mono ?_; rintro e w2 ⟨rfl, rfl⟩)
      exact ⟨rfl, kb_alloc HKa.out hsa _, .inr ⟨HF.out, rfl⟩⟩
    have hpos : (0 : Int) < (ns.length : Int) := by
      cases ns with
      | nil => exact absurd rfl he
      | cons _ _ => simp
    have hdn : decide (0 < ns.length) = true := decide_eq_true (by omega)
    have HNE := Lib.hid he
    clear he HF1
    go_upto_region 12 with (go_at_call 48; refine (must_t (w := wa) (by omega)).mono ?_; rintro e w2 ⟨rfl, rfl⟩)
    have HX1 := Lib.hid (box1 wa (.cells #[.bool true] 4 (0, 0)))
    generalize hw2 : wa.alloc (.cells #[.bool true] 4 (0, 0)) = w2 at *
    clear hw2
    obtain ⟨x2, hb2, hs2⟩ := HX1.out
    have XB := Lib.hid ((hb2.block H hHa).trans XA.out)
    have HIb := Lib.hid (HIa.out.new hb2)
    have HEb := Lib.hid (HEa.out.new hb2)
    have HKb := Lib.hid (HKa.out.new hb2 hsa)
    have hsb : W0.heap.size ≤ w2.heap.size := by omega
    have b0 : w2.cell? ⟨H, 0, none⟩ = some (.string zk) := cell_of_row w2 H 0 _ _ (0, 0) XB.out
    have hll := HL0.out hkb trivial
    clear HX1 x2 hb2 XA HIa HEa HKa z2 hdn hpos
    go_upto_region 13 with (go_at_call 32; refine (put2 (w := w2) (s := [37]) (t := kd) (by omega) rfl HZK.out HIb.out hsb (by simp only [List.length_cons, List.length_nil]; omega)).mono ?_; rintro e w3 ⟨rfl, hI3, hK3⟩)
    have XC := Lib.hid (hK3.heap XB.out (by omega) (by decide))
    have HI3 := Lib.hid (show IsW W0.heap.size b (l ++ (37 :: kd)) w3 from hI3)
    have HE3 := Lib.hid (HEb.out.kb hK3)
    have HK3 := Lib.hid (HKb.out.trans hK3)
    have hs3 : W0.heap.size ≤ w3.heap.size := HE3.out.size
    clear hI3 hK3 HIb HEb HKb b0 XB
    have d1 : w3.cell? ⟨H, 1, none⟩ = some (.string zt) := cell_of_row w3 H 1 _ _ (0, 0) XC.out
    have d2 : w3.cell? ⟨H, 2, none⟩ = some (.slice a0 ns.length c0) := cell_of_row w3 H 2 _ _ (0, 0) XC.out
    have HW3 := Lib.hid (HW.out.trans HK3.out.below)
    have HC := Lib.hid (HPN.out w3 _ HI3.out HE3.out HW3.out (by simp only [List.length_append, List.length_cons]; omega))
    go_upto_region 17 with (go_at_call 49; refine (HC.out).mono ?_; rintro e w6 ⟨hK6, hr⟩; rcases hr with ⟨rfl, rfl, hI6⟩ | ⟨rfl, rfl⟩)
    rotate_left
    · exact ⟨rfl, HK3.out.trans hK6, .inr ⟨HF3.out trivial, rfl⟩⟩
    have HI6 := Lib.hid hI6; have HK6 := Lib.hid (HK3.out.trans hK6); have hs6 := hK6.size
    clear hI6 hK6
    have HG := Lib.hid (HG0.out trivial)
    go_wp2_with (go_at_call 32; refine (put1 (w := w6) (s := [59, 10]) (by omega) rfl HI6.out (by omega) (by simp only [List.length_append, List.length_cons, List.length_nil]; omega)).mono ?_; rintro e w7 ⟨rfl, hI7, hK7⟩)
    have HI7 := Lib.hid hI7; have HK7 := Lib.hid hK7; clear hI7 hK7
    go_end0
    exact ⟨HK6.out.trans HK7.out, .inl ⟨HF4.out hkb HNE.out rfl trivial, rfl, by rw [HG.out]; exact HI7.out⟩⟩
  · go_wp2_with (go_at_call 48; refine (must_f (w := w1) (by omega)).mono ?_; rintro e w2 ⟨rfl, rfl⟩)
    exact ⟨rfl, kb_alloc HK1.out hs1 _, .inr ⟨HF0.out hkb, rfl⟩⟩
  · go_upto_region 11 with (go_at_call 48; refine (must_t (w := w1) (by omega)).mono ?_; rintro e w2 ⟨rfl, rfl⟩)
    have HX1 := Lib.hid (box1 w1 (.cells #[.bool true] 4 (0, 0)))
    generalize hwa : w1.alloc (.cells #[.bool true] 4 (0, 0)) = wa at *
    clear hwa
    obtain ⟨x2, hb2, hs2⟩ := HX1.out
    have XA := Lib.hid ((hb2.block H (Array.getElem?_eq_some_iff.1 X1.out).1).trans X1.out)
    have HIa := Lib.hid (HI1.out.new hb2)
    have HEa := Lib.hid (HE1.out.new hb2)
    have HKa := Lib.hid (HK1.out.new hb2 hs1)
    have hsa : W0.heap.size ≤ wa.heap.size := by omega
    clear HX1 x2 hb2 y0 y1 HI1 HE1 HK1 X1
    have hHa : H < wa.heap.size := (Array.getElem?_eq_some_iff.1 XA.out).1
    have z2 : wa.cell? ⟨H, 2, none⟩ = some (.slice a0 ns.length c0) := cell_of_row wa H 2 _ _ (0, 0) XA.out
    clear t1 t2 t3 t4 t5 t6 s1 s2 s3 s4 s5 s6
    by_cases he : ns = []
    · have hpos : ¬ (0 : Int) < (ns.length : Int) := by rw [he]; simp
      have hdn : decide (0 < ns.length) = false := by rw [he]; rfl
      have HF := Lib.hid (HF1.out he)
      clear he
      go_wp2_with (go_at_call 48; refine (must_f (w := wa) (by omega)).mono ?_; rintro e w2 ⟨rfl, rfl⟩)
      exact ⟨rfl, kb_alloc HKa.out hsa _, .inr ⟨HF.out, rfl⟩⟩
    have hpos : (0 : Int) < (ns.length : Int) := by
      cases ns with
      | nil => exact absurd rfl he
      | cons _ _ => simp
    have hdn : decide (0 < ns.length) = true := decide_eq_true (by omega)
    have HNE := Lib.hid he
    clear he HF1
    go_upto_region 12 with (go_at_call 48; refine (must_t (w := wa) (by omega)).mono ?_; rintro e w2 ⟨rfl, rfl⟩)
    have HX1 := Lib.hid (box1 wa (.cells #[.bool true] 4 (0, 0)))
    generalize hw2 : wa.alloc (.cells #[.bool true] 4 (0, 0)) = w2 at *
    clear hw2
    obtain ⟨x2, hb2, hs2⟩ := HX1.out
    have XB := Lib.hid ((hb2.block H hHa).trans XA.out)
    have HIb := Lib.hid (HIa.out.new hb2)
    have HEb := Lib.hid (HEa.out.new hb2)
    have HKb := Lib.hid (HKa.out.new hb2 hsa)
    have hsb : W0.heap.size ≤ w2.heap.size := by omega
    have b0 : w2.cell? ⟨H, 0, none⟩ = some (.string zk) := cell_of_row w2 H 0 _ _ (0, 0) XB.out
    have hll := HL0.out hkb trivial
    clear HX1 x2 hb2 XA HIa HEa HKa z2 hdn hpos
    go_upto_region 13 with (go_at_call 32; refine (put2 (w := w2) (s := [37]) (t := kd) (by omega) rfl HZK.out HIb.out hsb (by simp only [List.length_cons, List.length_nil]; omega)).mono ?_; rintro e w3 ⟨rfl, hI3, hK3⟩)
    have XC := Lib.hid (hK3.heap XB.out (by omega) (by decide))
    have HI3 := Lib.hid (show IsW W0.heap.size b (l ++ (37 :: kd)) w3 from hI3)
    have HE3 := Lib.hid (HEb.out.kb hK3)
    have HK3 := Lib.hid (HKb.out.trans hK3)
    have hs3 : W0.heap.size ≤ w3.heap.size := HE3.out.size
    clear hI3 hK3 HIb HEb HKb b0 XB
    have d1 : w3.cell? ⟨H, 1, none⟩ = some (.string zt) := cell_of_row w3 H 1 _ _ (0, 0) XC.out
    have d2 : w3.cell? ⟨H, 2, none⟩ = some (.slice a0 ns.length c0) := cell_of_row w3 H 2 _ _ (0, 0) XC.out
    have HW3 := Lib.hid (HW.out.trans HK3.out.below)
    have HC := Lib.hid (HPN.out w3 _ HI3.out HE3.out HW3.out (by simp only [List.length_append, List.length_cons]; omega))
    go_upto_region 17 with (go_at_call 49; refine (HC.out).mono ?_; rintro e w6 ⟨hK6, hr⟩; rcases hr with ⟨rfl, rfl, hI6⟩ | ⟨rfl, rfl⟩)
    rotate_left
    · exact ⟨rfl, HK3.out.trans hK6, .inr ⟨HF3.out trivial, rfl⟩⟩
    have HI6 := Lib.hid hI6; have HK6 := Lib.hid (HK3.out.trans hK6); have hs6 := hK6.size
    clear hI6 hK6
    have HG := Lib.hid (HG0.out trivial)
    go_wp2_with (go_at_call 32; refine (put1 (w := w6) (s := [59, 10]) (by omega) rfl HI6.out (by omega) (by simp only [List.length_append, List.length_cons, List.length_nil]; omega)).mono ?_; rintro e w7 ⟨rfl, hI7, hK7⟩)
    have HI7 := Lib.hid hI7; have HK7 := Lib.hid hK7; clear hI7 hK7
    go_end0
    exact ⟨HK6.out.trans HK7.out, .inl ⟨HF4.out hkb HNE.out rfl trivial, rfl, by rw [HG.out]; exact HI7.out⟩⟩
  · go_wp2_with (go_at_call 48; refine (must_f (w := w1) (by omega)).mono ?_; rintro e w2 ⟨rfl, rfl⟩)
    exact ⟨rfl, kb_alloc HK1.out hs1 _, .inr ⟨HF0.out hkb, rfl⟩⟩
  · go_upto_region 11 with (go_at_call 48; refine (must_t (w := w1) (by omega)).mono ?_; rintro e w2 ⟨rfl, rfl⟩)
    have HX1 := Lib.hid (box1 w1 (.cells #[.bool true] 4 (0, 0)))
    generalize hwa : w1.alloc (.cells #[.bool true] 4 (0, 0)) = wa at *
    clear hwa
    obtain ⟨x2, hb2, hs2⟩ := HX1.out
    have XA := Lib.hid ((hb2.block H (Array.getElem?_eq_some_iff.1 X1.out).1).trans X1.out)
    have HIa := Lib.hid (HI1.out.new hb2)
    have HEa := Lib.hid (HE1.out.new hb2)
    have HKa := Lib.hid (HK1.out.new hb2 hs1)
    have hsa : W0.heap.size ≤ wa.heap.size := by omega
    clear HX1 x2 hb2 y0 y1 HI1 HE1 HK1 X1
    have hHa : H < wa.heap.size := (Array.getElem?_eq_some_iff.1 XA.out).1
    have z2 : wa.cell? ⟨H, 2, none⟩ = some (.slice a0 ns.length c0) := cell_of_row wa H 2 _ _ (0, 0) XA.out
    clear t1 t2 t3 t4 t5 t6 s1 s2 s3 s4 s5 s6
    by_cases he : ns = []
    · have hpos : ¬ (0 : Int) < (ns.length : Int) := by rw [he]; simp
      have hdn : decide (0 < ns.length) = false := by rw [he]; rfl
      have HF := Lib.hid (HF1.out he)
      clear he
      go_wp2_with (go_at_call 48; refine (must_f (w := wa) (by omega)).mono ?_; rintro e w2 ⟨rfl, rfl⟩)
      exact ⟨rfl, kb_alloc HKa.out hsa _, .inr ⟨HF.out, rfl⟩⟩
    have hpos : (0 : Int) < (ns.length : Int) := by
      cases ns with
      | nil => exact absurd rfl he
      | cons _ _ => simp
    have hdn : decide (0 < ns.length) = true := decide_eq_true (by omega)
    have HNE := Lib.hid he
    clear he HF1
    go_upto_region 12 with (go_at_call 48; refine (must_t (w := wa) (by omega)).mono ?_; rintro e w2 ⟨rfl, rfl⟩)
    have HX1 := Lib.hid (box1 wa (.cells #[.bool true] 4 (0, 0)))
    generalize hw2 : wa.alloc (.cells #[.bool true] 4 (0, 0)) = w2 at *
    clear hw2
    obtain ⟨x2, hb2, hs2⟩ := HX1.out
    have XB := Lib.hid ((hb2.block H hHa).trans XA.out)
    have HIb := Lib.hid (HIa.out.new hb2)
    have HEb := Lib.hid (HEa.out.new hb2)
    have HKb := Lib.hid (HKa.out.new hb2 hsa)
    have hsb : W0.heap.size ≤ w2.heap.size := by omega
    have b0 : w2.cell? ⟨H, 0, none⟩ = some (.string zk) := cell_of_row w2 H 0 _ _ (0, 0) XB.out
    have hll := HL0.out hkb trivial
    clear HX1 x2 hb2 XA HIa HEa HKa z2 hdn hpos
    go_upto_region 13 with (go_at_call 32; refine (put2 (w := w2) (s := [37]) (t := kd) (by omega) rfl HZK.out HIb.out hsb (by simp only [List.length_cons, List.length_nil]; omega)).mono ?_; rintro e w3 ⟨rfl, hI3, hK3⟩)
    have XC := Lib.hid (hK3.heap XB.out (by omega) (by decide))
    have HI3 := Lib.hid (show IsW W0.heap.size b (l ++ (37 :: kd)) w3 from hI3)
    have HE3 := Lib.hid (HEb.out.kb hK3)
    have HK3 := Lib.hid (HKb.out.trans hK3)
    have hs3 : W0.heap.size ≤ w3.heap.size := HE3.out.size
    clear hI3 hK3 HIb HEb HKb b0 XB
    have d1 : w3.cell? ⟨H, 1, none⟩ = some (.string zt) := cell_of_row w3 H 1 _ _ (0, 0) XC.out
    have d2 : w3.cell? ⟨H, 2, none⟩ = some (.slice a0 ns.length c0) := cell_of_row w3 H 2 _ _ (0, 0) XC.out
    have HW3 := Lib.hid (HW.out.trans HK3.out.below)
    have HC := Lib.hid (HPN.out w3 _ HI3.out HE3.out HW3.out (by simp only [List.length_append, List.length_cons]; omega))
    go_upto_region 17 with (go_at_call 49; refine (HC.out).mono ?_; rintro e w6 ⟨hK6, hr⟩; rcases hr with ⟨rfl, rfl, hI6⟩ | ⟨rfl, rfl⟩)
    rotate_left
    · exact ⟨rfl, HK3.out.trans hK6, .inr ⟨HF3.out trivial, rfl⟩⟩
    have HI6 := Lib.hid hI6; have HK6 := Lib.hid (HK3.out.trans hK6); have hs6 := hK6.size
    clear hI6 hK6
    have HG := Lib.hid (HG0.out trivial)
    go_wp2_with (go_at_call 32; refine (put1 (w := w6) (s := [59, 10]) (by omega) rfl HI6.out (by omega) (by simp only [List.length_append, List.length_cons, List.length_nil]; omega)).mono ?_; rintro e w7 ⟨rfl, hI7, hK7⟩)
    have HI7 := Lib.hid hI7; have HK7 := Lib.hid hK7; clear hI7 hK7
    go_end0
    exact ⟨HK6.out.trans HK7.out, .inl ⟨HF4.out hkb HNE.out rfl trivial, rfl, by rw [HG.out]; exact HI7.out⟩⟩
  · go_wp2_with (go_at_call 48; refine (must_f (w := w1) (by omega)).mono ?_; rintro e w2 ⟨rfl, rfl⟩)
    exact ⟨rfl, kb_alloc HK1.out hs1 _, .inr ⟨HF0.out hkb, rfl⟩⟩
  · go_wp2_with (go_at_call 48; refine (must_f (w := w1) (by omega)).mono ?_; rintro e w2 ⟨rfl, rfl⟩)
    exact ⟨rfl, kb_alloc HK1.out hs1 _, .inr ⟨HF0.out hkb, rfl⟩⟩
end Go.Proofs.YtghebacphjglbaaGreat.WrM
