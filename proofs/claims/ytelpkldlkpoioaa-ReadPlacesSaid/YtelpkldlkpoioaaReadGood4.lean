/- Where faults are; that tokens stand at their places; comments and blanks ahead and behind. No program in sight. -/
import Derived.Test.YtelpkldlkpoioaaReadGood3
namespace Go.Proofs.Ytelpkldlkpoioaa.Ready
open Go.Proofs.Ytelpkldlkpoioaa.Lexy

/-- a fault is at a token -/
def Bads (T : List Tok) (e p : Nat) : Prop := (e = 102 ∨ e = 103) ∧ ∃ k, p = (tok T k).at_
theorem bad2 (T : List Tok) (k : Nat) : Bads T 102 (tok T k).at_ := ⟨.inl rfl, k, rfl⟩
theorem PR_bad {T : List Tok} {j : Job} {a : Ans} (h : PR T j a) : ∀ e p, a = .bad e p → Bads T e p := by
  induction h with
  | deep _ _ => intro e p he; cases he; exact ⟨.inr rfl, _, rfl⟩
  | none _ => intro e p he; cases he; exact bad2 _ _
  | close _ _ _ _ _ _ _ _ => intro e p he; cases he; exact bad2 _ _
  | first _ _ _ _ ih => intro e p he; cases he; exact ih _ _ rfl
  | rest _ _ _ _ _ _ ih => intro e p he; cases he; exact ih _ _ rfl
  | fail _ _ ih => intro e p he; cases he; exact ih _ _ rfl
  | next _ _ _ _ ih => intro e p he; exact ih _ _ he
  | name _ _ _ => intro e p he; cases he
  | whole _ _ _ _ _ _ _ _ => intro e p he; cases he
  | stop _ => intro e p he; cases he
theorem WordsR_bad {T : List Tok} {k : Nat} {acc : List Wd} {o : Out (List Wd)} (h : WordsR T k acc o) : ∀ e p, o = .bad e p → Bads T e p := by
  induction h with
  | stop _ => intro e p he; cases he
  | fail _ h => intro e p he; cases he; exact PR_bad h _ _ rfl
  | next _ _ _ ih => exact ih
theorem precL_bad {T : List Tok} {k e p : Nat} (h : precL T k = .bad e p) : Bads T e p := by
  unfold precL at h
  split at h
  · split at h
    · cases h
    · cases h; exact bad2 _ _
  · cases h
theorem AltR_bad {T : List Tok} {k e p : Nat} (h : AltR T k (.bad e p)) : Bads T e p := by
  cases h with
  | words h => exact WordsR_bad h _ _ rfl
  | prec _ h => exact precL_bad h
theorem AltsR_bad {T : List Tok} {k : Nat} {acc : List Al} {o : Out (List Al)} (h : AltsR T k acc o) : ∀ e p, o = .bad e p → Bads T e p := by
  induction h with
  | stop _ => intro e p he; cases he
  | fail _ h => intro e p he; cases he; exact AltR_bad h
  | next _ _ _ ih => exact ih
theorem NamesR_bad {T : List Tok} {k : Nat} {acc : List (List UInt8)} {o : Out (List (List UInt8))} (h : NamesR T k acc o) : ∀ e p, o = .bad e p → Bads T e p := by
  induction h with
  | stop _ => intro e p he; cases he
  | fail _ _ => intro e p he; cases he; exact bad2 _ _
  | next _ _ _ ih => exact ih
theorem ParamsR_bad {T : List Tok} {k e p : Nat} (h : ParamsR T k (.bad e p)) : Bads T e p := by
  cases h with
  | first _ _ => exact bad2 _ _
  | rest _ _ h => exact NamesR_bad h _ _ rfl
  | close _ _ _ _ => exact bad2 _ _
theorem RuleR_bad {T : List Tok} {k e p : Nat} (h : RuleR T k (.bad e p)) : Bads T e p := by
  cases h with
  | name _ => exact bad2 _ _
  | params _ h => exact ParamsR_bad h
  | colon _ _ _ => exact bad2 _ _
  | first _ _ _ h => exact AltR_bad h
  | rest _ _ _ _ h => exact AltsR_bad h _ _ rfl
  | semi _ _ _ _ _ _ => exact bad2 _ _
theorem RulesR_bad {T : List Tok} {k : Nat} {acc : List Ru} {o : Out (List Ru)} (h : RulesR T k acc o) : ∀ e p, o = .bad e p → Bads T e p := by
  induction h with
  | stop _ => intro e p he; cases he
  | fail _ h => intro e p he; cases he; exact RuleR_bad h
  | next _ _ _ ih => exact ih
theorem declL_bad {T : List Tok} {k e p : Nat} (h : declL T k = .bad e p) : Bads T e p := by
  unfold declL at h
  split at h
  · cases h; exact bad2 _ _
  · split at h
    · rename_i e' p' ht
      cases h
      unfold typeL at ht
      split at ht
      · split at ht
        · cases ht; exact bad2 _ _
        · split at ht
          · cases ht; exact bad2 _ _
          · split at ht
            · cases ht; exact bad2 _ _
            · cases ht
      · cases ht
    · split at h
      · cases h; exact bad2 _ _
      · simp only at h
        split at h
        · cases h; exact bad2 _ _
        · cases h
theorem DeclsR_bad {T : List Tok} {k : Nat} {acc : List De} {o : Out (List De)} (h : DeclsR T k acc o) : ∀ e p, o = .bad e p → Bads T e p := by
  induction h with
  | stop _ => intro e p he; cases he
  | fail _ h => intro e p he; cases he; exact declL_bad h
  | next _ _ _ ih => exact ih
theorem TextR_bad {T : List Tok} {e p : Nat} (h : TextR T (.bad e p)) : Bads T e p := by
  cases h with
  | decls h => exact DeclsR_bad h _ _ rfl
  | mid _ _ => exact bad2 _ _
  | rules _ _ h => exact RulesR_bad h _ _ rfl
/-! tokens stand at their places -/
theorem chain_stands {s : List UInt8} : ∀ {ts : List Tok} {b : Nat}, chain s b ts → ∀ t ∈ ts, standsL s t.at_ (render t.kind t.text)
  | [], _, _, t, ht => by cases ht
  | x :: ts, b, h, t, ht => by
    obtain ⟨h1, h2, h3, h4⟩ := h
    rcases List.mem_cons.1 ht with rfl | ht
    · exact ⟨h2, h3⟩
    · exact chain_stands h4 t ht
theorem tok_last {ts : List Tok} {n i kind : Nat} (hk : isK (ts ++ [(⟨7, [], n⟩ : Tok)]) i kind = true) (h7 : kind ≠ 7) (h0 : kind ≠ 0) : tok (ts ++ [(⟨7, [], n⟩ : Tok)]) i ∈ ts := by
  have hk := isK_eq hk
  rcases Nat.lt_or_ge i ts.length with h | h
  · unfold tok
    rw [List.getD_eq_getElem?_getD, List.getElem?_append_left h, List.getElem?_eq_getElem h]
    exact List.getElem_mem h
  · rcases Nat.lt_or_ge ts.length i with h2 | h2
    · rw [tok_ge (by simp; omega)] at hk
      exact absurd hk.symm h0
    · obtain rfl : i = ts.length := by omega
      have : tok (ts ++ [(⟨7, [], n⟩ : Tok)]) ts.length = ⟨7, [], n⟩ := by unfold tok; simp
      rw [this] at hk
      exact absurd hk.symm h7
theorem toks_places {s : List UInt8} {T : List Tok} (h : toks s = .good T) : Places T s := by
  obtain ⟨ts, rfl, hc, hf, hs⟩ := toks_shape h
  have key := chain_stands hc
  refine ⟨fun i hi => ?_, fun i hi => ?_, fun i hi => ?_⟩
  · have := key _ (tok_last hi (by decide) (by decide))
    rw [isK_eq hi] at this
    simpa [render] using this
  · have := key _ (tok_last hi (by decide) (by decide))
    rw [isK_eq hi] at this
    simpa [render] using this
  · have := key _ (tok_last hi (by decide) (by decide))
    rw [isK_eq hi] at this
    simpa [render] using this
/-! comments and blanks ahead and behind -/
theorem alike_of {T T2 : List Tok} (h : bare T2 = bare T) (k : Nat) : Alike T T2 0 0 k := by
  intro i _ _
  have hl : T2.length = T.length := by have := congrArg List.length h; simpa [bare] using this
  rcases Nat.lt_or_ge i T.length with hi | hi
  · have h1 := congrArg (fun l => l[i]?) h
    simp only [bare, List.getElem?_map] at h1
    rw [List.getElem?_eq_getElem hi, List.getElem?_eq_getElem (by omega)] at h1
    simp only [Option.map_some, Option.some.injEq, Prod.mk.injEq] at h1
    unfold tok
    rw [Nat.add_zero, List.getD_eq_getElem?_getD, List.getD_eq_getElem?_getD, List.getElem?_eq_getElem hi, List.getElem?_eq_getElem (by omega)]
    exact h1
  · rw [Nat.add_zero, tok_ge hi, tok_ge (by omega)]; exact ⟨rfl, rfl⟩
theorem bare_sh (d : Nat) (ts : List Tok) : bare (ts.map (sh d)) = bare ts := by simp [bare, sh, List.map_map, Function.comp_def]
theorem lexA_pre (x : List UInt8) (a : Nat) : lexA (47 :: 47 :: 32 :: 37 :: 10 :: 9 :: x) 0 a = lexA x 0 (a + 6) := by
  rw [lexA_com _ _ (by rfl) (by rfl)]
  have ho : overL (47 :: 47 :: 32 :: 37 :: 10 :: 9 :: x) = 4 := by rfl
  rw [ho]
  simp only [List.drop_succ_cons, List.drop_zero]
  rw [lexA_ws _ _ (by simp) (by rfl)]
  simp only [List.drop_succ_cons, List.drop_zero]
  rw [lexA_ws _ _ (by simp) (by rfl)]
  rfl
theorem lexA_suf (a : Nat) : lexA [32, 47, 47, 32, 123] 0 a = .good [⟨7, [], a + 5⟩] := by
  rw [lexA_ws _ _ (by simp) (by rfl)]
  simp only [List.drop_succ_cons, List.drop_zero]
  rw [lexA_com _ _ (by rfl) (by rfl)]
  rfl
theorem toks_wrap {s : List UInt8} {T : List Tok} (h : toks s = .good T) (hs : s.length ≤ 20000) : ∃ T2, toks (47 :: 47 :: 32 :: 37 :: 10 :: 9 :: (s ++ [32, 47, 47, 32, 123])) = .good T2 ∧ bare T2 = bare T := by
  obtain ⟨ts, rfl, _, _, _⟩ := toks_shape h
  unfold toks at h
  rw [if_neg (by omega)] at h
  have ht := lexA_tail (c := 32) (x := [47, 47, 32, 123]) (by rfl) 6 s.length s 0 ts (Nat.le_refl _) (by simpa using h)
  unfold toks
  rw [if_neg (by simp; omega), lexA_pre]
  rw [lexA_suf] at ht
  have ho : overL [32, 47, 47, 32, 123] = 5 := by rfl
  rw [ho] at ht
  have hd : ([32, 47, 47, 32, 123] : List UInt8).drop 5 = [] := rfl
  rw [hd] at ht
  simp only [Nat.zero_add] at ht ⊢
  rcases ht with ht | ht
  · rw [ht, ahead_good]
    exact ⟨_, rfl, by rw [bare, List.map_append]; have := bare_sh 6 ts; unfold bare at this ⊢; rw [this, List.map_append]; rfl⟩
  · rw [ht]
    simp only [lexA]
    rw [ahead_good]
    exact ⟨_, rfl, by rw [bare, List.map_append]; have := bare_sh 6 ts; unfold bare at this ⊢; rw [this, List.map_append]; rfl⟩
theorem TextR_end {T : List Tok} {x : Tx} {k : Nat} (hT : Ends T) (h : TextR T (.ok x k)) : k < T.length := by
  cases h with
  | whole h1 h2 h3 =>
    rename_i ds ka rs
    have hk1 : ∀ {k : Nat} {acc zs : List De} {k1 : Nat} {o : Out (List De)}, k < T.length → DeclsR T k acc o → o = .ok zs k1 → k1 < T.length := by
      intro k acc zs k1 o hk h
      induction h with
      | stop _ => intro e; cases e; exact hk
      | fail _ _ => intro e; cases e
      | next h1 h2 _ ih => exact ih (declL_past hT hk h1 _ _ h2).2
    have hka := hk1 hT.pos h1 rfl
    have hk2 : ∀ {k : Nat} {acc zs : List Ru} {k1 : Nat} {o : Out (List Ru)}, k < T.length → RulesR T k acc o → o = .ok zs k1 → k1 < T.length := by
      intro k acc zs k1 o hk h
      induction h with
      | stop _ => intro e; cases e; exact hk
      | fail _ _ => intro e; cases e
      | next h1 h2 _ ih =>
        rename_i k acc x o hr hmore
        refine ih ?_
        cases h2 with
        | whole g1 g2 g3 g4 g5 g6 =>
          rename_i ps ka kb kc a zs
          rcases Nat.lt_or_ge (kc) (T.length) with hh | hh
          · exact hT.ltT hh g6
          · have := (isT_eq g6).1
            rw [tok_ge hh] at this; cases this
    exact hk2 (hT.ltT hka h2) h3 rfl
end Go.Proofs.Ytelpkldlkpoioaa.Ready
