/- What was read may be written; what is written hangs on no places. Plain. -/
import Derived.Test.YtelpkldlkpoioaaWrE
namespace Go.Proofs.Ytelpkldlkpoioaa.WrP
open Go.Proofs.Ytelpkldlkpoioaa.Lexy Go.Proofs.Ytelpkldlkpoioaa.Ready Go.Proofs.Ytelpkldlkpoioaa.WrA Go.Proofs.Ytelpkldlkpoioaa.WrB Go.Proofs.Ytelpkldlkpoioaa.WrC Go.Proofs.Ytelpkldlkpoioaa.WrD Go.Proofs.Ytelpkldlkpoioaa.WrE

mutual
theorem wrW_bare : ∀ x : Wd, wrW (bareW x) = wrW x
  | .mk n xs z => by rw [bareW, wrW, wrW, wrP_bare xs]
theorem wrP_bare : ∀ xs : List Wd, wrP (bareWs xs) = wrP xs
  | [] => by rw [bareWs]
  | x :: xs => by rw [bareWs, wrP, wrP, wrW_bare x, wrWs_bare xs]
theorem wrWs_bare : ∀ xs : List Wd, wrWs (bareWs xs) = wrWs xs
  | [] => by rw [bareWs]
  | x :: xs => by rw [bareWs, wrWs, wrWs, wrW_bare x, wrWs_bare xs]
end
mutual
theorem okW_bare : ∀ (x : Wd) (d : Nat), okW d (bareW x) = okW d x
  | .mk n xs z, d => by rw [bareW, okW, okW, okWs_bare xs]
theorem okWs_bare : ∀ (xs : List Wd) (d : Nat), okWs d (bareWs xs) = okWs d xs
  | [], d => by rw [bareWs]
  | x :: xs, d => by rw [bareWs, okWs, okWs, okW_bare x, okWs_bare xs]
end
theorem wrA_plain (a : Al) : wrA (plainA a) = wrA a := by
  have h : wrL (bareWs a.words) = wrL a.words := by rw [bareWs_map]; simp [wrL, List.flatMap_map, wrW_bare]
  show wrL (bareWs a.words) ++ _ = _
  rw [h]; rfl
theorem okA_plain (a : Al) : okA (plainA a) = okA a := by
  have h : (bareWs a.words).all (okW 0) = a.words.all (okW 0) := by rw [bareWs_map]; simp [List.all_map, Function.comp_def, okW_bare]
  show ((bareWs a.words).all (okW 0) && _) = _
  rw [h]; rfl
theorem wrAlts_plain : ∀ l : List Al, wrAlts (l.map plainA) = wrAlts l
  | [] => rfl
  | a :: l => by
    have h : wrAs (l.map plainA) = wrAs l := by simp [wrAs, List.flatMap_map, wrA_plain]
    rw [List.map_cons, wrAlts, wrAlts, wrA_plain, h]
theorem wrR_plain (r : Ru) : wrR (plainR r) = wrR r := by
  show r.name ++ (wrN r.params ++ (wrAlts (r.alts.map plainA) ++ _)) = _
  rw [wrAlts_plain]; rfl
theorem okR_plain (r : Ru) : okR (plainR r) = okR r := by
  show (decide (r.alts.map plainA ≠ []) && (nameB r.name && (r.params.all nameB && (r.alts.map plainA).all okA))) = _
  have h : (r.alts.map plainA).all okA = r.alts.all okA := by simp [List.all_map, Function.comp_def, okA_plain]
  rw [h]
  unfold okR
  congr 1
  simp
theorem wrT_plain (x : Tx) : wrT (plainT x) = wrT x := by
  show (x.decls.map plainD).flatMap wrD ++ (37 :: 37 :: 10 :: (x.rules.map plainR).flatMap wrR) = _
  have h1 : (x.decls.map plainD).flatMap wrD = x.decls.flatMap wrD := by rw [List.flatMap_map]; rfl
  have h2 : (x.rules.map plainR).flatMap wrR = x.rules.flatMap wrR := by simp [List.flatMap_map, wrR_plain]
  rw [h1, h2]; rfl
theorem okT_plain (x : Tx) : okT (plainT x) = okT x := by
  show ((x.decls.map plainD).all okD && (x.rules.map plainR).all okR) = _
  have h1 : (x.decls.map plainD).all okD = x.decls.all okD := by rw [List.all_map]; rfl
  have h2 : (x.rules.map plainR).all okR = x.rules.all okR := by simp [List.all_map, Function.comp_def, okR_plain]
  rw [h1, h2]; rfl
theorem wrT_alike {x y : Tx} (h : plainT x = plainT y) : wrT x = wrT y := by rw [← wrT_plain x, h, wrT_plain]
theorem okT_alike {x y : Tx} (h : plainT x = plainT y) : okT x = okT y := by rw [← okT_plain x, h, okT_plain]

/-! what was read may be written -/
/-- names, actions, words are such -/
structure Fit (T : List Tok) : Prop where
  name : ∀ i, isK T i 2 = true → nameB (tok T i).text = true
  act : ∀ i, isK T i 9 = true → actB (tok T i).text = true
  word : ∀ i, isK T i 1 = true → (tok T i).text ∈ wordsL
theorem fine_inner {t : Tok} (h : t.fine) (hk : t.kind = 9) : Inner t.text := by
  have h1 := h.2 []
  rw [hk] at h1
  generalize t.text = s at h1
  have e : render 9 s ++ 32 :: [] = 123 :: (s ++ [125, 32]) := by simp [render]
  rw [e] at h1
  have k1 : letN 123 = false := by decide
  have k2 : UInt8.toNat 123 = 123 := rfl
  simp only [tokL, k1, k2, Bool.false_eq_true, if_false, Nat.reduceEqDiff, if_true] at h1
  cases ha : autoL (s ++ [125, 32]) 1 0 with
  | none => simp [ha] at h1
  | some n =>
    simp only [ha] at h1
    have hl : n = s.length + 1 := by
      have : (render 9 s).length = s.length + 2 := by simp [render]
      simp only [One.good.injEq, true_and] at h1
      omega
    subst hl
    have := autoL_app _ _ _ _ [] ha
    have e2 : (s ++ [125, 32]).take (s.length + 1) ++ [] = s ++ [125] := by
      rw [List.append_nil, show s ++ [125, 32] = (s ++ [125]) ++ [32] by simp]
      exact List.take_left' (by simp)
    rw [e2] at this
    exact inner_of_auto s 0 0 this
theorem toks_fit {s : List UInt8} {T : List Tok} (h : toks s = .good T) : Fit T := by
  obtain ⟨ts, rfl, hc, hf, hs⟩ := toks_shape h
  have key := chain_stands hc
  refine ⟨fun i hi => ?_, fun i hi => ?_, fun i hi => ?_⟩
  · exact name_iff.2 (fine_name (hf _ (tok_last hi (by decide) (by decide))) (isK_eq hi))
  · have ht := tok_last hi (by decide) (by decide)
    refine inner_act (fine_inner (hf _ ht) (isK_eq hi)) ?_
    have := key _ ht
    rw [isK_eq hi] at this
    have h2 : standsL s (tok (ts ++ [(⟨7, [], s.length⟩ : Tok)]) i).at_ (123 :: ((tok (ts ++ [(⟨7, [], s.length⟩ : Tok)]) i).text ++ [125])) := by simpa [render] using this
    have h3 := h2.1
    simp only [List.length_cons, List.length_append, List.length_nil] at h3
    omega
  · exact fine_word (hf _ (tok_last hi (by decide) (by decide))) (isK_eq hi)
def OkA : Job → Ans → Prop
  | .word _ d, .one x _ => okW d x = true
  | .args _ d acc, .many xs _ => okWs d acc = true → okWs d xs = true
  | _, _ => True
theorem okWs_snoc {d : Nat} : ∀ {l : List Wd} {x : Wd}, okWs d l = true → okW d x = true → okWs d (l ++ [x]) = true
  | [], x, _, h => by rw [List.nil_append, okWs, okWs, h]; rfl
  | y :: l, x, h1, h => by
    rw [okWs, Bool.and_eq_true] at h1
    rw [List.cons_append, okWs, Bool.and_eq_true]
    exact ⟨h1.1, okWs_snoc h1.2 h⟩
theorem PR_ok {T : List Tok} (hT : Fit T) {j : Job} {a : Ans} (h : PR T j a) : OkA j a := by
  induction h with
  | name h1 hd h2 =>
    show okW _ _ = true
    rw [okW, okWs, hT.name _ h1]; simp [hd]
  | whole h1 hd h3 _ _ h4 ih1 ih2 =>
    show okW _ _ = true
    have i1 : okW _ _ = true := ih1
    have i2 := ih2 (by rw [okWs, okWs, i1]; rfl)
    rw [okW, hT.name _ h1, i2]; simp [hd]
  | stop _ => exact fun h => h
  | @next _ _ _ _ _ a _ _ _ ih1 ih2 =>
    cases a with
    | many xs k =>
      exact fun h => ih2 (okWs_snoc h ih1)
    | one _ _ => trivial
    | bad _ _ => trivial
  | _ => trivial
theorem WordsR_ok {T : List Tok} (hT : Fit T) {k : Nat} {acc : List Wd} {o : Out (List Wd)} (h : WordsR T k acc o) : ∀ ws k1, o = .ok ws k1 → acc.all (okW 0) = true → ws.all (okW 0) = true := by
  induction h with
  | stop _ => intro ws k1 e hA; cases e; exact hA
  | fail _ _ => intro ws k1 e; cases e
  | next _ h2 _ ih =>
    intro ws k1 e hA
    have := PR_ok hT h2
    have this : okW 0 _ = true := this
    exact ih ws k1 e (by rw [List.all_append, hA]; simp [this])
theorem AltR_ok {T : List Tok} (hT : Fit T) {k : Nat} {o : Out Al} (h : AltR T k o) : ∀ x k1, o = .ok x k1 → okA x = true := by
  intro x k1 e
  cases h with
  | words _ => cases e
  | prec _ _ => cases e
  | @ok ws j1 j2 q h1 h2 =>
    have hw := WordsR_ok hT h1 _ _ rfl rfl
    have hq : (decide (q = []) || nameB q) = true := by
      rcases precL_ok h2 with ⟨_, h, _⟩ | ⟨_, h, h3, _⟩
      · simp [h]
      · rw [h3, hT.name _ h]; simp
    cases e
    unfold actL
    split
    · rename_i hk
      show (ws.all (okW 0) && ((decide (q = []) || nameB q) && ((true || _) && (!true || actB (tok T j2).text)))) = true
      rw [hw, hq, hT.act _ hk]; rfl
    · show (ws.all (okW 0) && ((decide (q = []) || nameB q) && ((false || decide (([] : List UInt8) = [])) && (!false || actB [])))) = true
      rw [hw, hq]; rfl
theorem AltsR_ok {T : List Tok} (hT : Fit T) {k : Nat} {acc : List Al} {o : Out (List Al)} (h : AltsR T k acc o) : ∀ zs k1, o = .ok zs k1 → acc ≠ [] → acc.all okA = true → zs ≠ [] ∧ zs.all okA = true := by
  induction h with
  | stop _ => intro ws k1 e hn hA; cases e; exact ⟨hn, hA⟩
  | fail _ _ => intro ws k1 e; cases e
  | next _ h2 _ ih =>
    intro ws k1 e _ hA
    have := AltR_ok hT h2 _ _ rfl
    exact ih ws k1 e (by simp) (by rw [List.all_append, hA]; simp [this])
theorem NamesR_ok {T : List Tok} (hT : Fit T) {k : Nat} {acc : List (List UInt8)} {o : Out (List (List UInt8))} (h : NamesR T k acc o) : ∀ zs k1, o = .ok zs k1 → acc.all nameB = true → zs.all nameB = true := by
  induction h with
  | stop _ => intro ws k1 e hA; cases e; exact hA
  | fail _ _ => intro ws k1 e; cases e
  | next _ h2 _ ih =>
    intro ws k1 e hA
    exact ih ws k1 e (by rw [List.all_append, hA]; simp [hT.name _ h2])
theorem ParamsR_ok {T : List Tok} (hT : Fit T) {k : Nat} {o : Out (List (List UInt8))} (h : ParamsR T k o) : ∀ zs k1, o = .ok zs k1 → zs.all nameB = true := by
  intro zs k1 e
  cases h with
  | none _ => cases e; rfl
  | whole _ h2 h3 _ => cases e; exact NamesR_ok hT h3 _ _ rfl (by simp [hT.name _ h2])
  | _ => cases e
theorem RuleR_ok {T : List Tok} (hT : Fit T) {k : Nat} {o : Out Ru} (h : RuleR T k o) : ∀ x k1, o = .ok x k1 → okR x = true := by
  intro x k1 e
  cases h with
  | whole h1 h2 _ h4 h5 _ =>
    cases e
    have h6 := ParamsR_ok hT h2 _ _ rfl
    have h7 := AltR_ok hT h4 _ _ rfl
    obtain ⟨h8, h9⟩ := AltsR_ok hT h5 _ _ rfl (by simp) (by simp [h7])
    unfold okR
    simp only [h6, h9, hT.name _ h1, Bool.and_true, decide_eq_true_eq]
    exact h8
  | _ => cases e
theorem RulesR_ok {T : List Tok} (hT : Fit T) {k : Nat} {acc : List Ru} {o : Out (List Ru)} (h : RulesR T k acc o) : ∀ zs k1, o = .ok zs k1 → acc.all okR = true → zs.all okR = true := by
  induction h with
  | stop _ => intro ws k1 e hA; cases e; exact hA
  | fail _ _ => intro ws k1 e; cases e
  | next _ h2 _ ih =>
    intro ws k1 e hA
    exact ih ws k1 e (by rw [List.all_append, hA]; simp [RuleR_ok hT h2 _ _ rfl])
theorem namesL_ok {T : List Tok} (hT : Fit T) : ∀ (m k : Nat) (acc : List (List UInt8)), acc ≠ [] → acc.all nameB = true → (namesL T m k acc).1 ≠ [] ∧ (namesL T m k acc).1.all nameB = true
  | 0, _, _, hn, h => ⟨hn, h⟩
  | m + 1, k, acc, hn, h => by
    rw [namesL]
    split
    · rename_i hk
      exact namesL_ok hT m _ _ (by simp) (by rw [List.all_append, h]; simp [hT.name _ hk])
    · exact ⟨hn, h⟩
theorem name_ne {s : List UInt8} (h : nameB s = true) : s ≠ [] := by
  obtain ⟨⟨c, r, e, _⟩, _⟩ := name_iff.1 h
  rw [e]; simp
theorem declL_ok {T : List Tok} (hT : Fit T) {k k1 : Nat} {x : De} (hk : isK T k 1 = true) (h : declL T k = .ok x k1) : okD x = true := by
  unfold declL at h
  split at h
  · cases h
  rename_i hp
  split at h
  · cases h
  rename_i t j hty
  split at h
  · cases h
  rename_i h2
  simp only at h
  split at h
  · cases h
  have h2 : isK T j 2 = true := by simpa using h2
  obtain ⟨n1, n2⟩ := namesL_ok hT T.length (j + 1) [(tok T j).text] (by simp) (by simp [hT.name _ h2])
  have hw := hT.word _ hk
  cases h
  generalize (tok T k).text = w at hp hty hw ⊢
  have hkd : kindB ⟨w, t, (namesL T T.length (j + 1) [(tok T j).text]).1, (tok T k).at_⟩ = true ∧ (decide (t = []) || nameB t) = true := by
    simp only [wordsL, List.mem_cons, List.not_mem_nil, or_false] at hw
    rcases typeL_ok hty with ⟨h3, h4, h5, _, h6, _⟩ | ⟨h3, h4, _⟩
    · have hn : nameB t = true := by rw [h6]; exact hT.name _ h5
      refine ⟨?_, by rw [hn]; simp⟩
      rcases h3 with h3 | ⟨h3, _⟩
      · simp [kindB, h3, typeT, name_ne hn]
      · simp [kindB, h3, tokenT]
    · refine ⟨?_, by simp [h4]⟩
      rw [not_or] at h3
      rcases hw with e | e | e | e | e | e | e
      · simp [kindB, e, tokenT]
      · exact absurd e h3.1
      · simp [kindB, e, h4, othersL]
      · simp [kindB, e, h4, othersL]
      · simp [kindB, e, h4, othersL]
      · simp [kindB, e, h4, othersL]
      · exact absurd e hp
  unfold okD
  simp only [hkd.1, hkd.2, n2, Bool.and_true, Bool.true_and, decide_eq_true_eq]
  exact n1
theorem DeclsR_ok {T : List Tok} (hT : Fit T) {k : Nat} {acc : List De} {o : Out (List De)} (h : DeclsR T k acc o) : ∀ zs k1, o = .ok zs k1 → acc.all okD = true → zs.all okD = true := by
  induction h with
  | stop _ => intro ws k1 e hA; cases e; exact hA
  | fail _ _ => intro ws k1 e; cases e
  | next h1 h2 _ ih =>
    intro ws k1 e hA
    exact ih ws k1 e (by rw [List.all_append, hA]; simp [declL_ok hT h1 h2])
/-- WHAT WAS READ MAY BE WRITTEN -/
theorem text_ok {s : List UInt8} {T : List Tok} {x : Tx} {k : Nat} (h : toks s = .good T) (hx : TextR T (.ok x k)) : okT x = true := by
  have hT := toks_fit h
  cases hx with
  | whole h1 _ h2 =>
    have h3 := DeclsR_ok hT h1 _ _ rfl rfl
    have h4 := RulesR_ok hT h2 _ _ rfl rfl
    unfold okT; rw [h3, h4]; rfl
end Go.Proofs.Ytelpkldlkpoioaa.WrP
