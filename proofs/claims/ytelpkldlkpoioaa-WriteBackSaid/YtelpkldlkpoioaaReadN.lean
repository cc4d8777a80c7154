/- The reader of grammars' texts: a declaration, walked. -/
import Derived.Test.YtelpkldlkpoioaaReadM
import Derived.Deep.Cut
import Derived.Deep.CutRange
namespace Go.Proofs.Ytelpkldlkpoioaa.ReadN
open Go.RowKit Go.Proofs.Ytelpkldlkpoioaa.Lexy Go.Proofs.Ytelpkldlkpoioaa.LexA Go.Proofs.Ytelpkldlkpoioaa.LexB Go.Proofs.Ytelpkldlkpoioaa.LexC Go.Proofs.Ytelpkldlkpoioaa.LexD Go.Proofs.Ytelpkldlkpoioaa.LexE Go.Proofs.Ytelpkldlkpoioaa.LexF Go.Proofs.Ytelpkldlkpoioaa.LexG Go.Proofs.Ytelpkldlkpoioaa.Heap Go.Proofs.Ytelpkldlkpoioaa.Dat Go.Proofs.Ytelpkldlkpoioaa.Ready Go.Proofs.Ytelpkldlkpoioaa.ReadA Go.Proofs.Ytelpkldlkpoioaa.ReadB Go.Proofs.Ytelpkldlkpoioaa.ReadC Go.Proofs.Ytelpkldlkpoioaa.ReadE Go.Proofs.Ytelpkldlkpoioaa.ReadD Go.Proofs.Ytelpkldlkpoioaa.ReadF Go.Proofs.Ytelpkldlkpoioaa.ReadG Go.Proofs.Ytelpkldlkpoioaa.ReadH Go.Proofs.Ytelpkldlkpoioaa.ReadI Go.Proofs.Ytelpkldlkpoioaa.ReadJ Go.Proofs.Ytelpkldlkpoioaa.ReadL Go.Proofs.Ytelpkldlkpoioaa.ReadM Go.Proofs.Ytelpkldlkpoioaa.Cut

def six : List (List UInt8) := [[116, 111, 107, 101, 110], [116, 121, 112, 101], [108, 101, 102, 116], [114, 105, 103, 104, 116], [110, 111, 110, 97, 115, 115, 111, 99], [115, 116, 97, 114, 116]]
abbrev sixO : Obj := .cells #[.string { data := #[116, 111, 107, 101, 110] }, .string { data := #[116, 121, 112, 101] }, .string { data := #[108, 101, 102, 116] }, .string { data := #[114, 105, 103, 104, 116] }, .string { data := #[110, 111, 110, 97, 115, 115, 111, 99] }, .string { data := #[115, 116, 97, 114, 116] }] 9
theorem six_texts (w : World) {w' : World} (h : w' = w.alloc sixO) : Texts w' w.heap.size six := by
  subst h
  intro j hj
  have hn := heap_alloc_new w sixO
  have key := fun o => cell_of_row _ w.heap.size o _ _ (0, 0) hn
  have : j < 6 := hj
  rcases j with _ | _ | _ | _ | _ | _ | j
  · exact key 0
  · exact key 1
  · exact key 2
  · exact key 3
  · exact key 4
  · exact key 5
  · omega
theorem must_six {w : World} {b g c k gt : Nat} {T : List Tok} {v : Bool} (h : Rr w b g c T k) (hk : k < T.length) (hT : T.length ≤ 1000000) (hv : isTs T k 1 six = v) (hg : gt = w.heap.size) :
    Calls Try.prog 37 #[.pointer (some ⟨b, 0, none⟩), .int .u8 1, .slice (some ⟨gt, 0, none⟩) 6 6] (w.alloc sixO) (MustQ (w.alloc sixO) b g c T k v) := by
  subst hg
  exact must_texts (ts := six) (cp := 6) (n := 6) (kz := 1) (h.new ((Below.refl _ _).alloc (Nat.le_refl _) sixO)) hk hT (six_texts w rfl) rfl (by omega) (by omega) hv rfl
/-- is there a type behind a declaration's word? -/
def hasTy (T : List Tok) (w : List UInt8) (k : Nat) : Bool := decide (w = [116, 121, 112, 101]) || (decide (w = [116, 111, 107, 101, 110]) && isT T k 6 [60])
theorem typeL_no {T : List Tok} {w : List UInt8} {k : Nat} (h : hasTy T w k = false) : typeL T w k = .ok [] k := by
  unfold typeL
  rw [if_neg]
  simp only [hasTy, Bool.or_eq_false_iff, Bool.and_eq_false_iff, decide_eq_false_iff_not] at h
  rintro (h1 | ⟨h1, h2⟩)
  · exact h.1 h1
  · rcases h.2 with h3 | h3
    · exact h3 h1
    · rw [h2] at h3; cases h3
theorem typeL_yes {T : List Tok} {w : List UInt8} {k : Nat} (h : hasTy T w k = true) : typeL T w k = (if isT T k 6 [60] = false then .bad 102 (tok T k).at_
     else if isK T (k + 1) 2 = false then .bad 102 (tok T (k + 1)).at_
     else if isT T (k + 2) 6 [62] = false then .bad 102 (tok T (k + 2)).at_
     else .ok (tok T (k + 1)).text (k + 3)) := by
  unfold typeL
  rw [if_pos]
  simp only [hasTy, Bool.or_eq_true, Bool.and_eq_true, decide_eq_true_eq] at h
  exact h
theorem text_at2 {w : World} {gt : Nat} (hg : gt = w.heap.size) {w' : World} {t : List UInt8} {ty : TypeId} (h : w' = w.alloc (.cells #[.string (bs t)] ty)) : w'.cell? ⟨gt, 0, none⟩ = some (.string (bs t)) := by subst hg; exact text_at w h
/-- what comes behind a declaration's type -/
def declT (T : List Tok) (k0 : Nat) : Out (List UInt8) → Out De
  | .bad e p => .bad e p
  | .ok t k1 =>
      if isK T k1 2 = false then .bad 102 (tok T k1).at_
      else
        let r := namesL T T.length (k1 + 1) [(tok T k1).text]
        if isT T r.2 6 [59] = false then .bad 102 (tok T r.2).at_ else .ok ⟨(tok T k0).text, t, r.1, (tok T k0).at_⟩ (r.2 + 1)
theorem declL_T {T : List Tok} {k : Nat} (h : (tok T k).text ≠ [112, 114, 101, 99]) : declL T k = declT T k (typeL T (tok T k).text (k + 1)) := by
  unfold declL
  rw [if_neg h]
  cases typeL T (tok T k).text (k + 1) <;> rfl

set_option maxRecDepth 100000 in
set_option maxHeartbeats 4000000 in
/-- a declaration -/
theorem decl_any {w : World} {b g c k0 : Nat} {T : List Tok} (hWd : ∀ i, isK T i 1 = true → (tok T i).text ≠ [112, 114, 101, 99] → (tok T i).text ∈ six) (hT : Ready.Ends T) (hT2 : T.length ≤ 1000000) (hR : Rr w b g c T k0) (hk : k0 < T.length) (hk1 : isK T k0 1 = true) :
    Calls Try.prog 36 #[.pointer (some ⟨b, 0, none⟩)] w (DeclQ b g c T w (declL T k0)) := by
  obtain ⟨ti0, hi0, hz0, hz1, hz2⟩ := stInfo
  obtain ⟨kk, hkd⟩ : ∃ x, (tok T k0).kind = x := ⟨_, rfl⟩
  obtain ⟨kd, htx⟩ : ∃ x, (tok T k0).text = x := ⟨_, rfl⟩
  obtain ⟨pa, hpa⟩ : ∃ x, (tok T k0).at_ = x := ⟨_, rfl⟩
  have hfl := field_at
  have hbw := hR.bl
  have hgw := hR.gl
  have HN := Lib.hid (fun (w : World) (h : Rr w b g c T k0) => next_is h hk hT2 hkd (congrArg bs htx) hpa)
  have HZ := Lib.hid (hR.new ((Below.refl _ w).alloc (Nat.le_refl _) (.cells #[.string { data := #[] }, .string { data := #[] }, .slice none 0 0, .int .i64 0] 45)))
  have HR := Lib.hid hR
  have NEXT : True := trivial
  by_cases hpr : (tok T k0).text = [112, 114, 101, 99]
  · have HTS := Lib.hid (show isTs T k0 1 six = false by
      simp only [isTs, hpr]; rw [Bool.and_eq_false_iff]; right; decide)
    have HD := Lib.hid (show declL T k0 = .bad 102 (tok T k0).at_ by unfold declL; rw [if_pos hpr])
    clear hR hkd hpr hk1 htx
    go_enter Try.func36, Try.ntmps36
    go_wp2_with (first | (go_at_call 37; refine (must_six S1.out.rr hk hT2 HTS.out (by simp)).mono ?_; rintro e w2 ⟨rfl, hg2⟩) | (go_at_call 59; go_must (refine (HN.out _ HZ.out).mono ?_); rintro e w1 ⟨rfl, hb1⟩; have S1 := Lib.hid (DeS.start (at_ := pa) hbw HR.out hb1)))
    rw [HD.out, hpa]
    exact ⟨rfl, rfl, ((S1.out.bx.below ((Below.refl _ _).alloc (Nat.le_refl _) sixO) S1.out.bx.size).grown hg2 (Nat.le_trans S1.out.bx.size (by simp)) (fun j hj => .inl (Option.some.inj hj).symm)).to⟩
  · have HTS := Lib.hid (show isTs T k0 1 six = true by
      simp only [isTs, Bool.and_eq_true, decide_eq_true_eq]; exact ⟨isK_eq hk1, hWd _ hk1 hpr⟩)
    have HD := Lib.hid (declL_T hpr)
    have HK1 := Lib.hid (hT.ltK hk hk1)
    have HTX := Lib.hid htx
    clear hR hkd hpr hk1 htx
    go_enter Try.func36, Try.ntmps36
    go_upto_region 3 with (first | (go_at_call 37; refine (must_six S1.out.rr hk hT2 HTS.out (by simp)).mono ?_; rintro e w2 ⟨rfl, hg2, hR2⟩; rw [HTX.out]; have S2 := Lib.hid ((S1.out.below hbw ((Below.refl _ _).alloc (Nat.le_refl _) sixO)).go hbw hg2 hR2); obtain ⟨vn, hH2⟩ : ∃ vn, _ = _ := (let ⟨vn, _, h, _⟩ := S2.out.row; ⟨vn, h⟩); obtain ⟨⟨c0, _⟩, f0, _⟩ := cells4 hH2; have S3 := Lib.hid (S2.out.put (i := 0) (v := .string (bs kd)) (kd' := kd) (ty' := []) hbw hgw hH2 (by rfl))) | (go_at_call 59; go_must (refine (HN.out _ HZ.out).mono ?_); rintro e w1 ⟨rfl, hb1⟩; have S1 := Lib.hid (DeS.start (at_ := pa) hbw HR.out hb1)))
    have hGT : (w1.alloc (.cells #[.string { data := #[] }, .string { data := #[] }, .slice none 0 0, .int .i64 (pa : Int)] 45)).heap.size ≤ w2.heap.size := by have := hg2.size; simp at this ⊢; omega
    go_cut [28] from 14 (fun s28 wr => s28 = .bool (hasTy T kd (k0 + 1)) ∧ DeS w wr w1.heap.size b g c T kd [] pa (k0 + 1) [])
    case first =>
      have e0 : (w2.setCell ⟨w1.heap.size, 0, none⟩ (.string (bs kd))).cell? ⟨w1.heap.size, 0, none⟩ = some (.string (bs kd)) := by
        obtain ⟨_, _, h, _⟩ := S3.out.row
        exact (cells4 h).1.1
      go_wp2_with (go_at_call 35; refine (is_one (t := [60]) (cp := 1) (v := isT T (k0 + 1) 6 [60]) (S3.out.rr.new ((Below.refl _ _).alloc (Nat.le_refl _) (.cells #[.string (bs [60])] 9))) HK1.out hT2 (text_at2 (by simp) rfl) rfl rfl).mono ?_; rintro e w4 ⟨rfl, hb4⟩; have S4 := Lib.hid ((S3.out.below hbw ((Below.refl _ _).alloc (Nat.le_refl _) _)).below hbw hb4))
      all_goals go_meet
      all_goals simp only [bs_toList] at *
      · exact ⟨by simp [hasTy, *], S3.out⟩
      · exact ⟨by simp [hasTy, *], S4.out⟩
      · exact ⟨by simp [hasTy, *], S3.out⟩
    case rest =>
      obtain ⟨rfl, hD⟩ := hcut
      clear S1 S2 S3 f0 c0 hH2 hGT hR2 hg2
      have D4 := Lib.hid hD; clear hD
      go_upto_if 28 with fail
      go_cut [] from 14 (fun wr => ∃ k1 t, typeL T kd (k0 + 1) = .ok t k1 ∧ k1 < T.length ∧ DeS w wr w1.heap.size b g c T kd t pa k1 [])
      case first =>
        cases hB : hasTy T kd (k0 + 1) with
        | false =>
          go_wp2
          go_meet
          exact ⟨_, _, typeL_no hB, HK1.out, D4.out⟩
        | true =>
          have hty := typeL_yes hB
          have HTY := Lib.hid hty
          cases h1 : isT T (k0 + 1) 6 [60] with
          | false =>
            have HDB := Lib.hid (show declL T k0 = .bad 102 (tok T (k0 + 1)).at_ by rw [HD.out, HTX.out, hty, if_pos h1]; rfl)
            have HM4 := Lib.hid h1; clear h1 hty hB
            go_wp2_with (first | (go_at_call 37; refine (must_one_f (t := [60]) (cp := 1) (D4.out.rr.new ((Below.refl _ _).alloc (Nat.le_refl _) (.cells #[.string (bs [60])] 9))) HK1.out hT2 (text_at2 (by simp) rfl) HM4.out rfl).mono ?_; rintro e w5 ⟨rfl, hb5⟩; have D5 := Lib.hid ((D4.out.below hbw ((Below.refl _ _).alloc (Nat.le_refl _) _)).below hbw hb5)))
            rw [HDB.out]; exact ⟨rfl, rfl, D5.out.bx.to⟩
          | true =>
            have HK2 := Lib.hid (hT.ltT HK1.out h1)
            have HM4 := Lib.hid h1
            cases h2 : isK T (k0 + 1 + 1) 2 with
            | false =>
              have HDB := Lib.hid (show declL T k0 = .bad 102 (tok T (k0 + 1 + 1)).at_ by rw [HD.out, HTX.out, hty, if_neg (by rw [h1]; simp), if_pos h2]; rfl)
              have HNM := Lib.hid h2; clear h1 hty hB h2
              go_wp2_with (first | (go_at_call 61; refine (name_f D5.out.rr HK2.out hT2 HNM.out).mono ?_; rintro e w6 ⟨rfl, hb6⟩; have D6 := Lib.hid (D5.out.below hbw hb6)) | (go_at_call 37; refine (must_one_t (t := [60]) (cp := 1) (D4.out.rr.new ((Below.refl _ _).alloc (Nat.le_refl _) (.cells #[.string (bs [60])] 9))) HK1.out hT2 (text_at2 (by simp) rfl) HM4.out rfl).mono ?_; rintro e w5 ⟨rfl, hg5, hR5⟩; have D5 := Lib.hid ((D4.out.below hbw ((Below.refl _ _).alloc (Nat.le_refl _) _)).go hbw hg5 hR5)))
              rw [HDB.out]; exact ⟨rfl, rfl, D6.out.bx.to⟩
            | true =>
              have HK3 := Lib.hid (hT.ltK HK2.out h2)
              obtain ⟨tt, htt⟩ : ∃ x, (tok T (k0 + 1 + 1)).text = x := ⟨_, rfl⟩
              have HNM := Lib.hid (show ∀ (w : World), Rr w b g c T (k0 + 1 + 1) → Calls Try.prog 61 #[.pointer (some ⟨b, 0, none⟩)] w fun e w' => e = .returned (.string (bs tt)) ∧ w.grownBy w' (some b) ∧ Rr w' b g c T (k0 + 1 + 1 + 1) from fun w h => by rw [← htt]; exact name_t h HK2.out hT2 h2)
              cases h3 : isT T (k0 + 1 + 2) 6 [62] with
              | false =>
                have HDB := Lib.hid (show declL T k0 = .bad 102 (tok T (k0 + 1 + 2)).at_ by rw [HD.out, HTX.out, hty, if_neg (by rw [h1]; simp), if_neg (by rw [h2]; simp), if_pos h3]; rfl)
                have HM6 := Lib.hid (show isT T (k0 + 1 + 1 + 1) 6 [62] = false from h3); clear h1 hty hB h2 h3 htt
                go_wp2_with (first | (go_at_call 37; refine (must_one_f (t := [62]) (cp := 1) (D6.out.rr.new ((Below.refl _ _).alloc (Nat.le_refl _) (.cells #[.string (bs [62])] 9))) HK3.out hT2 (text_at2 (by simp) rfl) HM6.out rfl).mono ?_; rintro e w7 ⟨rfl, hb7⟩; have D7 := Lib.hid ((D6.out.below hbw ((Below.refl _ _).alloc (Nat.le_refl _) _)).below hbw hb7)) | (go_at_call 61; refine (HNM.out _ D5.out.rr).mono ?_; rintro e w6 ⟨rfl, hg6, hR6⟩; have E6 := Lib.hid (D5.out.go hbw hg6 hR6); obtain ⟨vn6, hH6⟩ : ∃ vn, _ = _ := (let ⟨vn, _, h, _⟩ := E6.out.row; ⟨vn, h⟩); obtain ⟨⟨_, c61, _⟩, _, f61, _⟩ := cells4 hH6; have D6 := Lib.hid (E6.out.put (i := 1) (v := .string (bs tt)) (kd' := kd) (ty' := tt) hbw hgw hH6 (by rfl))) | (go_at_call 37; refine (must_one_t (t := [60]) (cp := 1) (D4.out.rr.new ((Below.refl _ _).alloc (Nat.le_refl _) (.cells #[.string (bs [60])] 9))) HK1.out hT2 (text_at2 (by simp) rfl) HM4.out rfl).mono ?_; rintro e w5 ⟨rfl, hg5, hR5⟩; have D5 := Lib.hid ((D4.out.below hbw ((Below.refl _ _).alloc (Nat.le_refl _) _)).go hbw hg5 hR5)))
                rw [HDB.out]; exact ⟨rfl, rfl, D7.out.bx.to⟩
              | true =>
                have HTY2 := Lib.hid (show typeL T kd (k0 + 1) = .ok tt (k0 + 1 + 1 + 1 + 1) by rw [hty, if_neg (by rw [h1]; simp), if_neg (by rw [h2]; simp), if_neg (by rw [h3]; simp), htt])
                have HM6 := Lib.hid (show isT T (k0 + 1 + 1 + 1) 6 [62] = true from h3); clear h1 hty hB h2 h3 htt
                go_wp2_with (first | (go_at_call 37; refine (must_one_t (t := [62]) (cp := 1) (D6.out.rr.new ((Below.refl _ _).alloc (Nat.le_refl _) (.cells #[.string (bs [62])] 9))) HK3.out hT2 (text_at2 (by simp) rfl) HM6.out rfl).mono ?_; rintro e w7 ⟨rfl, hg7, hR7⟩; have D7 := Lib.hid ((D6.out.below hbw ((Below.refl _ _).alloc (Nat.le_refl _) _)).go hbw hg7 hR7)) | (go_at_call 61; refine (HNM.out _ D5.out.rr).mono ?_; rintro e w6 ⟨rfl, hg6, hR6⟩; have E6 := Lib.hid (D5.out.go hbw hg6 hR6); obtain ⟨vn6, hH6⟩ : ∃ vn, _ = _ := (let ⟨vn, _, h, _⟩ := E6.out.row; ⟨vn, h⟩); obtain ⟨⟨_, c61, _⟩, _, f61, _⟩ := cells4 hH6; have D6 := Lib.hid (E6.out.put (i := 1) (v := .string (bs tt)) (kd' := kd) (ty' := tt) hbw hgw hH6 (by rfl))) | (go_at_call 37; refine (must_one_t (t := [60]) (cp := 1) (D4.out.rr.new ((Below.refl _ _).alloc (Nat.le_refl _) (.cells #[.string (bs [60])] 9))) HK1.out hT2 (text_at2 (by simp) rfl) HM4.out rfl).mono ?_; rintro e w5 ⟨rfl, hg5, hR5⟩; have D5 := Lib.hid ((D4.out.below hbw ((Below.refl _ _).alloc (Nat.le_refl _) _)).go hbw hg5 hR5)))
                go_meet
                exact ⟨_, _, HTY2.out, hT.ltT HK3.out HM6.out, D7.out⟩
      case rest =>
        obtain ⟨k1, tt, hty, hk1, hD⟩ := hcut
        clear D4
        have D7 := Lib.hid hD; clear hD
        have HDT := Lib.hid (show declL T k0 = declT T k0 (.ok tt k1) by rw [HD.out, HTX.out, hty])
        clear hty
        go_wp2
        obtain ⟨vn, bk, hH, hL, hnd⟩ := D7.out.row
        obtain ⟨oa, oc, rfl⟩ := row_slice hL
        obtain ⟨⟨_, _, cc, _⟩, _, _, ff, _⟩ := cells4 hH
        have hHl := (Array.getElem?_eq_some_iff.1 hH).1
        have hbase := D7.out.base
        have hRd := D7.out.rr
        refine append8 (α := Unit) (val := fun _ => .string (bs (tok T k1).text)) (us := fun _ => [.string (bs (tok T k1).text)]) (ds := fun _ => [.lit (.string (bs (tok T k1).text))]) (X := fun _ u => isK T k1 2 = true ∧ Rr u b g c T (k1 + 1)) (S2 := fun _ => True) (rr := some b) (H := w1.heap.size) (fo := 2) (B := w1.heap.size + 1) (bk := bk) (items := nmsD ([] : List (List UInt8))) (n := ([] : List (List UInt8)).length) (E := 9) (S := 1) (R := 43) (bytes := 16) (ti := ti0) (z := .string { data := #[] }) (v2 := .pointer (some ⟨b, 0, none⟩)) (f := 61) (args := #[.pointer (some ⟨b, 0, none⟩)]) (by kernel_rfl) (by kernel_rfl) (loose_then (loose_body (P := Try.prog) (fn := Try.f36))) cc ff hL hnd (by omega) (by omega) Try.underlying43 hi0 hz0 hz1 hz2 (by rfl) (by omega) (by first | omega | simp) (by omega) ?hus ?y0 ?y1 trivial (fun _ _ _ => trivial) ?y2 ?y3 ?hc ?y4 (by rfl) ?y5a ?y5b ?y6 ?y7 ?hfin
        case hus => intro x; exact ⟨rfl, rfl, by simp [Value.oneCell']⟩
        case y0 => intro u; go_simp
        case y1 => intro u hu; go_simp
        case y2 => intro u hu; go_simp
        case y3 => intro u; go_simp
        case y4 => intro x u; go_simp
        case y5a => intro x v4; rfl
        case y5b => intro x v4; rfl
        case y6 => intro x v4 v5 u; go_simp
        case y7 => intro x v4 gg cp u h0 h1; go_simp
        case hc =>
          cases h2 : isK T k1 2 with
          | false =>
            refine (name_f (hRd.drewN 1) hk1 hT2 h2).mono ?_
            rintro e w3 ⟨rfl, hb3⟩
            refine .inl ⟨_, rfl, rfl, ?_⟩
            rw [HDT.out]
            simp only [declT, h2, if_true]
            exact ⟨rfl, (D7.out.bx.below ((Below.refl _ _).drew.trans hb3) D7.out.bx.size).to⟩
          | true =>
            refine (name_t (hRd.drewN 1) hk1 hT2 h2).mono ?_
            rintro e w3 ⟨rfl, hg1, hR1⟩
            have hg : wc.grownBy w3 (some b) := kept_b (Below.refl _ _).drew hg1
            exact .inr ⟨(), [], rfl, ⟨rfl, hR1⟩, trivial, ⟨LiesL.lit (LiesL.nil.2 ⟨rfl, rfl⟩), List.nodup_nil, hg, fun j hj => by cases hj; omega⟩⟩
        case hfin =>
          rintro x w3 wa gg cp bk' v4 ⟨hX2, hR3⟩ ⟨r, hgr, hrb⟩ hgw' hL' hnd' hbk hsz hH'
          have hr0 : ∀ j, j < w1.heap.size + 1 → some j ≠ r := fun j hj e => by have := (Lies.lt hL j (hrb j e.symm)).1; omega
          have hD' := DeS.more (ns' := ([] : List (List UInt8)) ++ [(tok T k1).text]) D7.out hbw hgw hH (append_bx hL (by omega) hgw') (hR3.grown hgr (hr0 _ (by omega)) (hr0 _ (by omega))) (by rw [nmsD_snoc, List.length_append]; exact hL') hnd'
          have HD8 := Lib.hid hD'; clear hD' hgw' hL' hnd' hbk hr0 hgr hrb hR3 hH hL hnd
          have HK8 := Lib.hid (hT.ltK hk1 hX2)
          have HDT2 := Lib.hid (show declL T k0 = (let r := namesL T T.length (k1 + 1) [(tok T k1).text]; if isT T r.2 6 [59] = false then .bad 102 (tok T r.2).at_ else .ok ⟨(tok T k0).text, tt, r.1, (tok T k0).at_⟩ (r.2 + 1)) by rw [HDT.out]; simp only [declT]; rw [if_neg (by rw [hX2]; simp)])
          show (_ : Act → World → Prop) _ _
          refine (by assumption : ∀ a' w', Code.wp _ _ _ a' w' → _) _ _ ?_
          simp only [Act.put, List.setIfInBounds_toArray, List.set_cons_succ, List.set_cons_zero]
          generalize wa.setCell ⟨w1.heap.size, 2, none⟩ _ = w8 at HD8 ⊢
          clear HDT hX2 D7
          go_wp2
          go_loopg [] T.length (fun gk wr => ∃ (k m : Nat) (ns : List (List UInt8)), k < T.length ∧ T.length - k ≤ gk ∧ T.length - k ≤ m ∧ ns.length ≤ k ∧ namesL T T.length (k1 + 1) [(tok T k1).text] = namesL T m k ns ∧ DeS w wr w1.heap.size b g c T kd tt pa k ns)
          case atStart => exact ⟨k1 + 1, T.length, [] ++ [(tok T k1).text], HK8.out, by omega, by omega, by simp, rfl, HD8.out⟩
          case round =>
            clear HD8
            obtain ⟨k, m, ns, hk, hgk, hm, hl, hnm, hD⟩ := hrel
            have D := Lib.hid hD; clear hD
            obtain ⟨m, rfl⟩ : ∃ m', m = m' + 1 := ⟨m - 1, by omega⟩
            cases h2 : isK T k 2 with
            | false =>
              have hr : namesL T T.length (k1 + 1) [(tok T k1).text] = (ns, k) := by rw [hnm]; simp [namesL, h2]
              have HIS := Lib.hid (is_kind (kz := 2) D.out.rr hk hT2 h2 rfl)
              clear h2 hnm
              cases h3 : isT T k 6 [59] with
              | false =>
                have HDB := Lib.hid (show declL T k0 = .bad 102 (tok T k).at_ by rw [HDT2.out, hr]; simp [h3])
                have HM9 := Lib.hid h3; clear h3 hr
                go_wp2_with (first | (go_at_call 37; refine (must_one_f (t := [59]) (cp := 1) (D9.out.rr.new ((Below.refl _ _).alloc (Nat.le_refl _) (.cells #[.string (bs [59])] 9))) hk hT2 (text_at2 rfl rfl) HM9.out rfl).mono ?_; rintro e w10 ⟨rfl, hb10⟩; have D10 := Lib.hid ((D9.out.below hbw ((Below.refl _ _).alloc (Nat.le_refl _) _)).below hbw hb10)) | (go_at_call 35; refine (HIS.out).mono ?_; rintro e w9 ⟨rfl, hb9⟩; have D9 := Lib.hid (D.out.below hbw hb9)))
                rw [HDB.out]; exact ⟨rfl, rfl, D10.out.bx.to⟩
              | true =>
                have HDB := Lib.hid (show declL T k0 = .ok ⟨kd, tt, ns, pa⟩ (k + 1) by rw [HDT2.out, hr, HTX.out, hpa]; simp [h3])
                have HM9 := Lib.hid h3; clear h3 hr
                go_wp2_with (first | (go_at_call 37; refine (must_one_t (t := [59]) (cp := 1) (D9.out.rr.new ((Below.refl _ _).alloc (Nat.le_refl _) (.cells #[.string (bs [59])] 9))) hk hT2 (text_at2 rfl rfl) HM9.out rfl).mono ?_; rintro e w10 ⟨rfl, hg10, hR10⟩; have D10 := Lib.hid ((D9.out.below hbw ((Below.refl _ _).alloc (Nat.le_refl _) _)).go hbw hg10 hR10); obtain ⟨vn10, c10⟩ : ∃ vn, _ = _ := (let ⟨vn, _, h, _⟩ := D10.out.row; ⟨vn, h⟩); obtain ⟨a10, e10, rfl⟩ := D10.out.slice c10; obtain ⟨⟨d0, d1, d2, d3⟩, _⟩ := cells4 c10; have hz10 := D10.out.hz; obtain ⟨⟨e0, e1, e2, e3⟩, f0, f1, f2, f3⟩ := cells4 hz10) | (go_at_call 35; refine (HIS.out).mono ?_; rintro e w9 ⟨rfl, hb9⟩; have D9 := Lib.hid (D.out.below hbw hb9)))
                refine bodyPost_ret (res_decl (tok4h hz10 _ _ _ _) rfl) rfl ?_
                rw [HDB.out]
                exact D10.out.done hbw hgw d2 rfl rfl rfl rfl
            | true =>
              have HIS := Lib.hid (is_kind (kz := 2) D.out.rr hk hT2 h2 rfl)
              have HNM := Lib.hid (show namesL T T.length (k1 + 1) [(tok T k1).text] = namesL T m (k + 1) (ns ++ [(tok T k).text]) by rw [hnm]; simp [namesL, h2])
              clear hnm
              go_wp2_with (first | (go_at_call 35; refine (HIS.out).mono ?_; rintro e w9 ⟨rfl, hb9⟩; have D9 := Lib.hid (D.out.below hbw hb9)))
              obtain ⟨vn, bk, hH, hL, hnd⟩ := D9.out.row
              obtain ⟨oa, oc, rfl⟩ := row_slice hL
              obtain ⟨⟨_, _, cc, _⟩, _, _, ff, _⟩ := cells4 hH
              have hHl := (Array.getElem?_eq_some_iff.1 hH).1
              have hbase := D9.out.base
              have hRd := D9.out.rr
              refine append8 (α := Unit) (val := fun _ => .string (bs (tok T k).text)) (us := fun _ => [.string (bs (tok T k).text)]) (ds := fun _ => [.lit (.string (bs (tok T k).text))]) (X := fun _ u => isK T k 2 = true ∧ Rr u b g c T (k + 1)) (S2 := fun _ => True) (rr := some b) (H := w1.heap.size) (fo := 2) (B := w1.heap.size + 1) (bk := bk) (items := nmsD ns) (n := ns.length) (E := 9) (S := 1) (R := 43) (bytes := 16) (ti := ti0) (z := .string { data := #[] }) (v2 := .pointer (some ⟨b, 0, none⟩)) (f := 61) (args := #[.pointer (some ⟨b, 0, none⟩)]) (by kernel_rfl) (by kernel_rfl) (loose_block (loose_then (loose_block (loose_then (loose_body (P := Try.prog) (fn := Try.f36)))))) cc ff hL hnd (by omega) (by omega) Try.underlying43 hi0 hz0 hz1 hz2 (by rfl) (by omega) (by first | omega | simp) (by omega) ?hus ?y0 ?y1 trivial (fun _ _ _ => trivial) ?y2 ?y3 ?hc ?y4 (by rfl) ?y5a ?y5b ?y6 ?y7 ?hfin
              case hus => intro x; exact ⟨rfl, rfl, by simp [Value.oneCell']⟩
              case y0 => intro u; go_simp
              case y1 => intro u hu; go_simp
              case y2 => intro u hu; go_simp
              case y3 => intro u; go_simp
              case y4 => intro x u; go_simp
              case y5a => intro x v4; rfl
              case y5b => intro x v4; rfl
              case y6 => intro x v4 v5 u; go_simp
              case y7 => intro x v4 gg cp u h0 h1; go_simp
              case hc =>
                refine (name_t (hRd.drewN 1) hk hT2 h2).mono ?_
                rintro e w3 ⟨rfl, hg1, hR1⟩
                have hg : w9.grownBy w3 (some b) := kept_b (Below.refl _ _).drew hg1
                exact .inr ⟨(), [], rfl, ⟨h2, hR1⟩, trivial, ⟨LiesL.lit (LiesL.nil.2 ⟨rfl, rfl⟩), List.nodup_nil, hg, fun j hj => by cases hj; omega⟩⟩
              case hfin =>
                rintro x w3 wa gg cp bk' v4 ⟨hX2, hR3⟩ ⟨r, hgr, hrb⟩ hgw' hL' hnd' hbk hsz hH'
                have hr0 : ∀ j, j < w1.heap.size + 1 → some j ≠ r := fun j hj e => by have := (Lies.lt hL j (hrb j e.symm)).1; omega
                have hD' := DeS.more (ns' := ns ++ [(tok T k).text]) D9.out hbw hgw hH (append_bx hL (by omega) hgw') (hR3.grown hgr (hr0 _ (by omega)) (hr0 _ (by omega))) (by rw [nmsD_snoc, List.length_append]; exact hL') hnd'
                show (_ : Act → World → Prop) _ _
                refine (by assumption : ∀ a' w', Handed _ _ a' w' → _) _ _ ?_
                have hk' := hT.ltK hk h2
                go_roundg (T.length - (k + 1))
                case measure => omega
                case rel => exact ⟨k + 1, m, ns ++ [(tok T k).text], hk', by omega, by omega, by simp; omega, HNM.out, hD'⟩
end Go.Proofs.Ytelpkldlkpoioaa.ReadN
