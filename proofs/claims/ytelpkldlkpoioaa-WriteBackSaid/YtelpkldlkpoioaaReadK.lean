/- The reader of grammars' texts: a rule, walked. -/
import Derived.Test.YtelpkldlkpoioaaReadJ
namespace Go.Proofs.Ytelpkldlkpoioaa.ReadK
open Go.RowKit Go.Proofs.Ytelpkldlkpoioaa.Lexy Go.Proofs.Ytelpkldlkpoioaa.LexA Go.Proofs.Ytelpkldlkpoioaa.LexB Go.Proofs.Ytelpkldlkpoioaa.LexC Go.Proofs.Ytelpkldlkpoioaa.LexD Go.Proofs.Ytelpkldlkpoioaa.LexE Go.Proofs.Ytelpkldlkpoioaa.LexF Go.Proofs.Ytelpkldlkpoioaa.LexG Go.Proofs.Ytelpkldlkpoioaa.Heap Go.Proofs.Ytelpkldlkpoioaa.Dat Go.Proofs.Ytelpkldlkpoioaa.Ready Go.Proofs.Ytelpkldlkpoioaa.ReadA Go.Proofs.Ytelpkldlkpoioaa.ReadB Go.Proofs.Ytelpkldlkpoioaa.ReadC Go.Proofs.Ytelpkldlkpoioaa.ReadE Go.Proofs.Ytelpkldlkpoioaa.ReadD Go.Proofs.Ytelpkldlkpoioaa.ReadF Go.Proofs.Ytelpkldlkpoioaa.ReadG Go.Proofs.Ytelpkldlkpoioaa.ReadH Go.Proofs.Ytelpkldlkpoioaa.ReadI Go.Proofs.Ytelpkldlkpoioaa.ReadJ Go.Proofs.Ytelpkldlkpoioaa.Cut

/-- what comes of a rule, in the words of parts -/
theorem rule_cases {T : List Tok} {k : Nat} {o : Out Ru} (hT : Ready.Ends T) (h : RuleR T k o) (hk : k < T.length) :
    (isK T k 2 = false ∧ o = .bad 102 (tok T k).at_) ∨ (isK T k 2 = true ∧
      ((∃ e p, GR T (NPS T) (k + 1) [] (.inr (e, p)) ∧ o = .bad e p) ∨ ∃ k1 ps, GR T (NPS T) (k + 1) [] (.inl (k1, ps)) ∧ k1 < T.length ∧
        ((isT T k1 6 [58] = false ∧ o = .bad 102 (tok T k1).at_) ∨ (isT T k1 6 [58] = true ∧
          ((∃ e p, LR T [124] (APS T) (k1 + 1) [] (.inr (e, p)) ∧ o = .bad e p) ∨ ∃ k2 zs, LR T [124] (APS T) (k1 + 1) [] (.inl (k2, zs)) ∧ k2 < T.length ∧
            ((isT T k2 6 [59] = false ∧ o = .bad 102 (tok T k2).at_) ∨ (isT T k2 6 [59] = true ∧ o = .ok ⟨(tok T k).text, ps, zs, (tok T k).at_⟩ (k2 + 1)))))))) := by
  have pp : ∀ {ps k1}, isK T k 2 = true → ParamsR T (k + 1) (.ok ps k1) → GR T (NPS T) (k + 1) [] (.inl (k1, ps)) ∧ k1 < T.length := fun h1 h2 => by
    have h3 := params_GR hT h2 (hT.ltK hk h1)
    refine ⟨h3, (GR.past hT (fun {k s k1 s1} hk h => ?_) h3 (hT.ltK hk h1) _ _ rfl).2⟩
    obtain ⟨_, h2, rfl, _⟩ := h
    have := hT.ltK hk h2
    omega
  have aa : ∀ {k1 k2 a o}, k1 < T.length → isT T k1 6 [58] = true → AltR T (k1 + 1) (.ok a k2) → AltsR T k2 [a] o → (match o with | .ok zs k3 => LR T [124] (APS T) (k1 + 1) [] (.inl (k3, zs)) ∧ k3 < T.length | .bad e p => LR T [124] (APS T) (k1 + 1) [] (.inr (e, p))) := fun {k1 k2 a o} h0 h1 h2 h3 => by
    have h4 := hT.ltT h0 h1
    have h5 := alt_past hT h2 h4
    have h6 := alts_LT hT h3 h5.2 (by have := h5.1; simp; omega)
    have hp : ∀ {k s k1 s1}, k < T.length → APS T k s (.inl (k1, s1)) → k ≤ k1 ∧ k1 < T.length := fun hk h => by
      obtain ⟨_, x, hx, _⟩ := h
      exact alt_past hT hx hk
    cases o with
    | bad e p => exact .more ⟨by simp, a, h2, rfl⟩ h6
    | ok zs k3 => exact ⟨.more ⟨by simp, a, h2, rfl⟩ h6, (LT.past hT hp h6 h5.2 _ _ rfl).2⟩
  cases h with
  | name h1 => exact .inl ⟨h1, rfl⟩
  | params h1 h2 => exact .inr ⟨h1, .inl ⟨_, _, params_GR hT h2 (hT.ltK hk h1), rfl⟩⟩
  | colon h1 h2 h3 => exact .inr ⟨h1, .inr ⟨_, _, (pp h1 h2).1, (pp h1 h2).2, .inl ⟨h3, rfl⟩⟩⟩
  | first h1 h2 h3 h4 => exact .inr ⟨h1, .inr ⟨_, _, (pp h1 h2).1, (pp h1 h2).2, .inr ⟨h3, .inl ⟨_, _, .fail ⟨by simp, h4⟩, rfl⟩⟩⟩⟩
  | rest h1 h2 h3 h4 h5 => exact .inr ⟨h1, .inr ⟨_, _, (pp h1 h2).1, (pp h1 h2).2, .inr ⟨h3, .inl ⟨_, _, aa (pp h1 h2).2 h3 h4 h5, rfl⟩⟩⟩⟩
  | semi h1 h2 h3 h4 h5 h6 => exact .inr ⟨h1, .inr ⟨_, _, (pp h1 h2).1, (pp h1 h2).2, .inr ⟨h3, .inr ⟨_, _, (aa (pp h1 h2).2 h3 h4 h5).1, (aa (pp h1 h2).2 h3 h4 h5).2, .inl ⟨h6, rfl⟩⟩⟩⟩⟩
  | whole h1 h2 h3 h4 h5 h6 => exact .inr ⟨h1, .inr ⟨_, _, (pp h1 h2).1, (pp h1 h2).2, .inr ⟨h3, .inr ⟨_, _, (aa (pp h1 h2).2 h3 h4 h5).1, (aa (pp h1 h2).2 h3 h4 h5).2, .inr ⟨h6, rfl⟩⟩⟩⟩⟩

theorem rule_slices {w w' : World} {Hx b g c k at_ : Nat} {T : List Tok} {nm : List UInt8} {ps : List (List UInt8)} {zs : List Al} {v0 vp va v3 : Value} (h : RuS w w' Hx b g c T nm at_ k ps zs) (hc : w'.heap[Hx]? = some (.cells #[v0, vp, va, v3] 48 (0, 0))) :
    ∃ a1 c1 a2 c2, vp = .slice a1 ps.length c1 ∧ va = .slice a2 zs.length c2 := by
  obtain ⟨wp, wa, bp, ba, hH, hp, ha, hnd⟩ := h.i.row
  obtain ⟨⟨_, c1, c2, _⟩, _⟩ := cells4 hH
  obtain ⟨⟨_, d1, d2, _⟩, _⟩ := cells4 hc
  obtain rfl : vp = wp := Option.some.inj (d1.symm.trans c1)
  obtain rfl : va = wa := Option.some.inj (d2.symm.trans c2)
  obtain ⟨a1, e1, h1⟩ := row_slice hp
  obtain ⟨a2, e2, h2⟩ := row_slice ha
  exact ⟨a1, e1, a2, e2, h1, h2⟩
set_option maxRecDepth 100000 in
set_option maxHeartbeats 4000000 in
/-- a rule -/
theorem rule_any {w : World} {b g c k : Nat} {T : List Tok} {o : Out Ru} (hAt : ∀ i, (tok T i).at_ ≤ 1000000000) (hT : Ready.Ends T) (hT2 : T.length ≤ 1000000) (hR : Rr w b g c T k) (hk : k < T.length) (ho : RuleR T k o) :
    Calls Try.prog 38 #[.pointer (some ⟨b, 0, none⟩)] w (RuleQ b g c T w o) := by
  have hcs := Lib.hid (rule_cases hT ho hk)
  clear ho
  obtain ⟨kd, hkd⟩ : ∃ x, (tok T k).kind = x := ⟨_, rfl⟩
  obtain ⟨tx, htx⟩ : ∃ x, (tok T k).text = x := ⟨_, rfl⟩
  obtain ⟨pa, hpa⟩ : ∃ x, (tok T k).at_ = x := ⟨_, rfl⟩
  have hfl := field_at
  have hbw := hR.bl
  have hgw := hR.gl
  have HN := Lib.hid (fun (w : World) (h : Rr w b g c T k) => next_is h hk hT2 hkd (congrArg bs htx) hpa)
  have hw0 := ((Below.refl w.heap.size w).alloc (Nat.le_refl _) (.cells #[.pointer (some ⟨b, 0, none⟩)] 71)).alloc (by simp) (.cells #[.string { data := #[] }, .slice none 0 0, .slice none 0 0, .int .i64 0] 48)
  have hr0 : ((w.alloc (.cells #[.pointer (some ⟨b, 0, none⟩)] 71)).alloc (.cells #[.string { data := #[] }, .slice none 0 0, .slice none 0 0, .int .i64 0] 48)).heap[w.heap.size]? = some (.cells #[.pointer (some ⟨b, 0, none⟩)] 71 (0, 0)) := by
    rw [Below.heap_alloc _ _ _ (by simp)]; exact heap_alloc_new w _
  have hz0 : ((w.alloc (.cells #[.pointer (some ⟨b, 0, none⟩)] 71)).alloc (.cells #[.string { data := #[] }, .slice none 0 0, .slice none 0 0, .int .i64 0] 48)).heap[w.heap.size + 1]? = some (.cells #[.string { data := #[] }, .slice none 0 0, .slice none 0 0, .int .i64 0] 48 (0, 0)) := by
    have := heap_alloc_new (w.alloc (.cells #[.pointer (some ⟨b, 0, none⟩)] 71)) (.cells #[.string { data := #[] }, .slice none 0 0, .slice none 0 0, .int .i64 0] 48)
    simpa using this
  have e0 := cell_of_row _ w.heap.size 0 _ _ _ hr0
  go_enter Try.func38, Try.ntmps38
  go_wp2
  generalize hW : (w.alloc (.cells #[.pointer (some ⟨b, 0, none⟩)] 71)).alloc (.cells #[.string { data := #[] }, .slice none 0 0, .slice none 0 0, .int .i64 0] 48) = W at hw0 hr0 hz0 e0 ⊢
  clear hW
  have hR0 : Rr W b g c T k := hR.new hw0
  have hs0 : w.heap.size + 1 < W.heap.size := (Array.getElem?_eq_some_iff.1 hz0).1
  refine two_calls (E := 48) (zs := #[.string { data := #[] }, .slice none 0 0, .slice none 0 0, .int .i64 0]) (v0 := .pointer (some ⟨b, 0, none⟩)) (v1 := .pointer (some ⟨b, 0, none⟩)) (v2 := .pointer (some ⟨b, 0, none⟩)) (v3 := .agg #[.int .u8 (kd : Int), .string (bs tx), .int .i64 (pa : Int)]) (v4 := .int .i64 (pa : Int)) (v5 := .pointer (some ⟨b, 0, none⟩)) (v6 := .string (bs tx)) (v7 := .agg #[.string (bs tx), .slice none 0 0, .slice none 0 0, .int .i64 (pa : Int)]) (f1 := 59) (f2 := 61) (args1 := #[.pointer (some ⟨b, 0, none⟩)]) (args2 := #[.pointer (some ⟨b, 0, none⟩)]) (rr := some b) (S := fun u => u.cell? ⟨w.heap.size, 0, none⟩ = some (.pointer (some ⟨b, 0, none⟩))) (wf := fun u H => (((u.setCell ⟨H, 0, none⟩ (.string (bs tx))).setCell ⟨H, 1, none⟩ (.slice none 0 0)).setCell ⟨H, 2, none⟩ (.slice none 0 0)).setCell ⟨H, 3, none⟩ (.int .i64 (pa : Int))) (X := fun u => u.cell? ⟨w.heap.size, 0, none⟩ = some (.pointer (some ⟨b, 0, none⟩)) ∧ isK T k 2 = true ∧ Rr u b g c T (k + 1)) (by kernel_rfl) (by kernel_rfl) (loose_then loose_body) (by simpa using e0) ?hSn (fun u h => h.1) ?hXn (fun j hj => by cases hj; omega) _ rfl _ rfl _ rfl _ rfl _ rfl _ rfl _ rfl _ rfl ?y0 ?y1 ?y2 ?y5 ?y3 ?y3' ?hc1 ?y4 ?y4' ?y6 ?y6' ?hc2 ?y7 ?y7' ?y8 ?y9 ?hfin
  case hSn => intro u o h1; exact (World.cell?_alloc_past _ _ _ (World.block_lt_of_cell? _ _ h1)).trans h1
  case hXn => rintro u o ⟨h1, h2, h3⟩; exact ⟨(World.cell?_alloc_past _ _ _ (World.block_lt_of_cell? _ _ h1)).trans h1, h2, h3.new ((Below.refl _ _).alloc (Nat.le_refl _) _)⟩
  case y0 => intro u hu; go_simp
  case y1 => intro u hu; go_simp
  case y2 => intro u hu; go_simp
  case y5 => intro u hu; go_simp
  case y3 => intro u; go_simp
  case y3' => intro p u; go_simp
  case y4 => intro u hu; go_simp
  case y4' => intro p u hu; go_simp
  case y6 => intro u; go_simp
  case y6' => intro p u; go_simp
  case y7 => intro u hu; go_simp
  case y7' => intro p u hu; go_simp
  case y8 => intro a' u; go_simp
  case y9 =>
    intro u H hc
    obtain ⟨⟨c0, c1, c2, c3⟩, f0, f1, f2, f3⟩ := cells4 hc
    go_simp
  case hc1 =>
    intro w0 hS0 hb0
    refine (HN.out w0 (hR0.new hb0)).mono ?_
    rintro e w1 ⟨rfl, hb1⟩
    exact ⟨rfl, (World.cell?_of_block (hb1.block _ (World.block_lt_of_cell? _ _ hS0))).trans hS0, hb1⟩
  case hc2 =>
    intro w1 hS1 hb1
    cases h2 : isK T k 2 with
    | false =>
      refine (name_f (hR0.new hb1) hk hT2 h2).mono ?_
      rintro e w2 ⟨rfl, hb2⟩
      refine .inl ⟨_, rfl, ⟨rfl, ?_⟩, fun p => ⟨rfl, ?_⟩⟩
      all_goals rcases hcs.out with ⟨_, rfl⟩ | ⟨h3, _⟩
      all_goals first
        | (rw [h2] at h3; cases h3; done)
        | skip
      all_goals exact ⟨rfl, (((Bx.refl _ b w).below hw0 (Nat.le_refl _)).below (hb1.trans (hb2.mono hb1.size)) hw0.size).to⟩
    | true =>
      refine (name_t (hR0.new hb1) hk hT2 h2).mono ?_
      rintro e w2 ⟨rfl, hg2, hR2⟩
      have hl := World.block_lt_of_cell? _ _ hS1
      exact .inr ⟨by rw [htx], ⟨(World.cell?_of_block (hg2.block _ hl (by simp; omega))).trans hS1, rfl, hR2⟩, hg2⟩
  case hfin =>
    intro w' Hx hX hg hH hcell
    obtain ⟨hX1, hX2, hX3⟩ := hX
    have hS := RuS.start (nm := tx) (at_ := pa) hbw hgw hw0 hr0 hz0 hg hX3 hH (E := (.string { data := #[] }, .slice none 0 0, .slice none 0 0, .int .i64 0)) hcell
    show (_ : Act → World → Prop) _ _
    refine (by assumption : ∀ a' w', Code.wp _ _ _ a' w' → _) _ _ ?_
    simp only [Act.put, List.setIfInBounds_toArray, List.set_cons_succ, List.set_cons_zero]
    generalize (((w'.setCell ⟨Hx, 0, none⟩ (.string (bs tx))).setCell ⟨Hx, 1, none⟩ (.slice none 0 0)).setCell ⟨Hx, 2, none⟩ (.slice none 0 0)).setCell ⟨Hx, 3, none⟩ (.int .i64 (pa : Int)) = w1 at hS ⊢
    have S1 := Lib.hid hS
    have q1 := cell_of_row _ _ 0 _ _ _ S1.out.i.hr
    clear hS hg hcell hH hX1 hX3 hr0 hz0 hw0 hR0 hs0 hR
    have HK1 := Lib.hid (hT.ltK hk hX2)
    rcases hcs.out with ⟨h3, _⟩ | ⟨_, ⟨e, p, hgr, ho⟩ | ⟨k1, ps, hgr, hk1, ⟨hm, ho⟩ | ⟨hm, ⟨e, p, hl, ho⟩ | ⟨k2, zs, hl, hk2, ⟨hm2, ho⟩ | ⟨hm2, ho⟩⟩⟩⟩⟩
    · rw [hX2] at h3; cases h3
    · have HG := Lib.hid hgr; have HO := Lib.hid ho; clear hgr ho hcs
      go_wp2_with (first | (go_at_call 64; refine (S1.out.given hbw hgw hT hT2 HK1.out HG.out).mono ?_; rintro e w2 ⟨rfl, hg2⟩))
      rw [HO.out]; exact ⟨rfl, rfl, hg2⟩
    · have HG := Lib.hid hgr; have HO := Lib.hid ho; have HK2 := Lib.hid hk1; have HM2 := Lib.hid hm; clear hgr ho hcs hm
      go_wp2_with (first | (go_at_call 37; refine (must_one_f (t := [58]) (cp := 1) (S2.out.i.rr.new ((Below.refl _ _).alloc (Nat.le_refl _) (.cells #[.string (bs [58])] 9))) HK2.out hT2 (text_at w2 rfl) HM2.out rfl).mono ?_; rintro e w3 ⟨rfl, hb3⟩; have S3 := Lib.hid ((S2.out.below hbw hgw ((Below.refl _ _).alloc (Nat.le_refl _) _)).below hbw hgw hb3)) | (go_at_call 64; refine (S1.out.given hbw hgw hT hT2 HK1.out HG.out).mono ?_; rintro e w2 ⟨rfl, hS2⟩; have S2 := Lib.hid hS2; clear hS2; have q2 := cell_of_row _ _ 0 _ _ _ S2.out.i.hr))
      rw [HO.out]; exact ⟨rfl, rfl, S3.out.bx.to⟩
    · have HG := Lib.hid hgr; have HO := Lib.hid ho; have HK2 := Lib.hid hk1; have HM2 := Lib.hid hm; have HL := Lib.hid hl; have HK3 := Lib.hid (hT.ltT hk1 hm); clear hgr ho hcs hm hl
      go_wp2_with (first | (go_at_call 66; refine (S3.out.list hbw hgw hAt hT hT2 HK3.out HL.out).mono ?_; rintro e w4 ⟨rfl, hg4⟩) | (go_at_call 37; refine (must_one_t (t := [58]) (cp := 1) (S2.out.i.rr.new ((Below.refl _ _).alloc (Nat.le_refl _) (.cells #[.string (bs [58])] 9))) HK2.out hT2 (text_at w2 rfl) HM2.out rfl).mono ?_; rintro e w3 ⟨rfl, hg3, hR3⟩; have S3 := Lib.hid ((S2.out.below hbw hgw ((Below.refl _ _).alloc (Nat.le_refl _) _)).go hbw hgw hg3 hR3); have q3 := cell_of_row _ _ 0 _ _ _ S3.out.i.hr) | (go_at_call 64; refine (S1.out.given hbw hgw hT hT2 HK1.out HG.out).mono ?_; rintro e w2 ⟨rfl, hS2⟩; have S2 := Lib.hid hS2; clear hS2; have q2 := cell_of_row _ _ 0 _ _ _ S2.out.i.hr))
      rw [HO.out]; exact ⟨rfl, rfl, hg4⟩
    · have HG := Lib.hid hgr; have HO := Lib.hid ho; have HK2 := Lib.hid hk1; have HM2 := Lib.hid hm; have HL := Lib.hid hl; have HK3 := Lib.hid (hT.ltT hk1 hm); have HK4 := Lib.hid hk2; have HM4 := Lib.hid hm2; clear hgr ho hcs hm hl hm2
      go_wp2_with (first | (go_at_call 37; refine (must_one_f (t := [59]) (cp := 1) (S4.out.i.rr.new ((Below.refl _ _).alloc (Nat.le_refl _) (.cells #[.string (bs [59])] 9))) HK4.out hT2 (text_at w4 rfl) HM4.out rfl).mono ?_; rintro e w5 ⟨rfl, hb5⟩; have S5 := Lib.hid ((S4.out.below hbw hgw ((Below.refl _ _).alloc (Nat.le_refl _) _)).below hbw hgw hb5)) | (go_at_call 66; refine (S3.out.list hbw hgw hAt hT hT2 HK3.out HL.out).mono ?_; rintro e w4 ⟨rfl, hS4⟩; have S4 := Lib.hid hS4; clear hS4; have q4 := cell_of_row _ _ 0 _ _ _ S4.out.i.hr) | (go_at_call 37; refine (must_one_t (t := [58]) (cp := 1) (S2.out.i.rr.new ((Below.refl _ _).alloc (Nat.le_refl _) (.cells #[.string (bs [58])] 9))) HK2.out hT2 (text_at w2 rfl) HM2.out rfl).mono ?_; rintro e w3 ⟨rfl, hg3, hR3⟩; have S3 := Lib.hid ((S2.out.below hbw hgw ((Below.refl _ _).alloc (Nat.le_refl _) _)).go hbw hgw hg3 hR3); have q3 := cell_of_row _ _ 0 _ _ _ S3.out.i.hr) | (go_at_call 64; refine (S1.out.given hbw hgw hT hT2 HK1.out HG.out).mono ?_; rintro e w2 ⟨rfl, hS2⟩; have S2 := Lib.hid hS2; clear hS2; have q2 := cell_of_row _ _ 0 _ _ _ S2.out.i.hr))
      rw [HO.out]; exact ⟨rfl, rfl, S5.out.bx.to⟩
    · rw [htx, hpa] at ho
      have HG := Lib.hid hgr; have HO := Lib.hid ho; have HK2 := Lib.hid hk1; have HM2 := Lib.hid hm; have HL := Lib.hid hl; have HK3 := Lib.hid (hT.ltT hk1 hm); have HK4 := Lib.hid hk2; have HM4 := Lib.hid hm2; clear hgr ho hcs hm hl hm2
      go_wp2_with (first | (go_at_call 37; refine (must_one_t (t := [59]) (cp := 1) (S4.out.i.rr.new ((Below.refl _ _).alloc (Nat.le_refl _) (.cells #[.string (bs [59])] 9))) HK4.out hT2 (text_at w4 rfl) HM4.out rfl).mono ?_; rintro e w5 ⟨rfl, hg5, hR5⟩; have S5 := Lib.hid ((S4.out.below hbw hgw ((Below.refl _ _).alloc (Nat.le_refl _) _)).go hbw hgw hg5 hR5); have q5 := cell_of_row _ _ 0 _ _ _ S5.out.i.hr; obtain ⟨vp5, va5, c5⟩ : ∃ vp va, _ = _ := (let ⟨vp, va, _, _, h, _⟩ := S5.out.i.row; ⟨vp, va, h⟩); obtain ⟨a1, c1, a2, c2, rfl, rfl⟩ := rule_slices S5.out c5; obtain ⟨⟨d0, d1, d2, d3⟩, _⟩ := cells4 c5; have hz5 := S5.out.hz; obtain ⟨⟨e0, e1, e2, e3⟩, f0, f1, f2, f3⟩ := cells4 hz5) | (go_at_call 66; refine (S3.out.list hbw hgw hAt hT hT2 HK3.out HL.out).mono ?_; rintro e w4 ⟨rfl, hS4⟩; have S4 := Lib.hid hS4; clear hS4; have q4 := cell_of_row _ _ 0 _ _ _ S4.out.i.hr) | (go_at_call 37; refine (must_one_t (t := [58]) (cp := 1) (S2.out.i.rr.new ((Below.refl _ _).alloc (Nat.le_refl _) (.cells #[.string (bs [58])] 9))) HK2.out hT2 (text_at w2 rfl) HM2.out rfl).mono ?_; rintro e w3 ⟨rfl, hg3, hR3⟩; have S3 := Lib.hid ((S2.out.below hbw hgw ((Below.refl _ _).alloc (Nat.le_refl _) _)).go hbw hgw hg3 hR3); have q3 := cell_of_row _ _ 0 _ _ _ S3.out.i.hr) | (go_at_call 64; refine (S1.out.given hbw hgw hT hT2 HK1.out HG.out).mono ?_; rintro e w2 ⟨rfl, hS2⟩; have S2 := Lib.hid hS2; clear hS2; have q2 := cell_of_row _ _ 0 _ _ _ S2.out.i.hr))
      refine bodyPost_ret (res_rule (tok4h hz5 _ _ _ _) rfl) rfl ?_
      rw [HO.out]
      exact S5.out.done hbw hgw d1 d2 rfl rfl rfl rfl
end Go.Proofs.Ytelpkldlkpoioaa.ReadK
