/- What a text's parts are, that a row of tokens says: alternatives, rules, declarations, texts. No program in sight. -/
import Derived.Test.YtelpkldlkpoioaaReadGood
namespace Go.Proofs.Ytelpkldlkpoioaa.Ready
open Go.Proofs.Ytelpkldlkpoioaa.Lexy

mutual
/-- rows that are no longer than may be -/
def wdOk : Wd → Prop
  | .mk _ ws _ => ws.length ≤ 1000000 ∧ wdsOk ws
def wdsOk : List Wd → Prop
  | [] => True
  | x :: xs => wdOk x ∧ wdsOk xs
end
theorem wdsOk_mem : ∀ {l : List Wd}, wdsOk l → ∀ x ∈ l, wdOk x
  | [], _, x, h => by cases h
  | y :: ys, ho, x, h => by
    simp only [wdsOk] at ho
    rcases List.mem_cons.1 h with e | h
    · rw [e]; exact ho.1
    · exact wdsOk_mem ho.2 x h
theorem wdsOk_of : ∀ {l : List Wd}, (∀ x ∈ l, wdOk x) → wdsOk l
  | [], _ => by simp [wdsOk]
  | y :: ys, h => by
    simp only [wdsOk]
    exact ⟨h y (List.mem_cons_self ..), wdsOk_of fun x hx => h x (List.mem_cons_of_mem _ hx)⟩
mutual
theorem wdOk_sz : ∀ x : Wd, szW x ≤ 1000000 → wdOk x
  | .mk n ws a, h => by
    simp only [szW] at h
    have := len_szWs ws
    simp only [wdOk]
    exact ⟨by omega, wdsOk_sz ws (by omega)⟩
theorem wdsOk_sz : ∀ l : List Wd, szWs l ≤ 1000000 → wdsOk l
  | [], _ => by simp [wdsOk]
  | x :: xs, h => by
    simp only [szWs] at h
    simp only [wdsOk]
    exact ⟨wdOk_sz x (by omega), wdsOk_sz xs (by omega)⟩
end
structure AlOk (x : Al) : Prop where
  n : x.words.length ≤ 1000000
  words : wdsOk x.words
structure RuOk (x : Ru) : Prop where
  n : x.params.length ≤ 1000000
  m : x.alts.length ≤ 1000000
  alts : ∀ a ∈ x.alts, AlOk a
def DeOk (x : De) : Prop := x.names.length ≤ 1000000
structure TxOk (x : Tx) : Prop where
  n : x.decls.length ≤ 1000000
  m : x.rules.length ≤ 1000000
  decls : ∀ a ∈ x.decls, DeOk a
  rules : ∀ a ∈ x.rules, RuOk a

/-- tokens stand at their places -/
structure Places (T : List Tok) (s : List UInt8) : Prop where
  names : Names T s
  words : ∀ i, isK T i 1 = true → standsL s (tok T i).at_ (37 :: (tok T i).text)
  acts : ∀ i, isK T i 9 = true → standsL s (tok T i).at_ (123 :: ((tok T i).text ++ [125]))
def thereA (s : List UInt8) (x : Al) : Prop := thereWs s x.words ∧ (x.has = true → 1 ≤ x.whr ∧ standsL s (x.whr - 1) (123 :: (x.action ++ [125])))
def thereR (s : List UInt8) (x : Ru) : Prop := standsL s x.at_ x.name ∧ ∀ a ∈ x.alts, thereA s a
def thereD (s : List UInt8) (x : De) : Prop := standsL s x.at_ (37 :: x.kind)
def thereT (s : List UInt8) (x : Tx) : Prop := (∀ d ∈ x.decls, thereD s d) ∧ ∀ r ∈ x.rules, thereR s r

structure GoodAl (T : List Tok) (s : List UInt8) (k k1 : Nat) (x : Al) : Prop where
  le : k ≤ k1
  semi : ∀ i, k ≤ i → i < k1 → isT T i 6 [59] = false
  ok : k1 ≤ 1000000 → AlOk x
  there : thereA s x
  move : ∀ (T2 : List Tok) (d k' k1' : Nat), Alike T T2 d k k1 → k' = k + d → k1' = k1 + d → ∃ x2, AltR T2 k' (.ok x2 k1') ∧ plainA x2 = plainA x
theorem precL_ok {T : List Tok} {k k1 : Nat} {q : List UInt8} (h : precL T k = .ok q k1) : (isT T k 1 [112, 114, 101, 99] = false ∧ q = [] ∧ k1 = k) ∨ (isT T k 1 [112, 114, 101, 99] = true ∧ isK T (k + 1) 2 = true ∧ q = (tok T (k + 1)).text ∧ k1 = k + 2) := by
  unfold precL at h
  split at h
  · rename_i h1
    split at h
    · rename_i h2
      cases h; exact .inr ⟨h1, h2, rfl, rfl⟩
    · cases h
  · rename_i h1
    cases h; exact .inl ⟨by simpa using h1, rfl, rfl⟩
theorem AltR_good {T : List Tok} {s : List UInt8} (hP : Places T s) {k k1 : Nat} {x : Al} (h : AltR T k (.ok x k1)) : GoodAl T s k k1 x := by
  generalize ho : Out.ok x k1 = o at h
  cases h with
  | words _ => cases ho
  | prec _ _ => cases ho
  | ok h1 h2 =>
    rename_i ws ka kb q
    cases ho
    obtain ⟨l1, s1, z1, t1, m1⟩ := WordsR_good hP.names h1 rfl
    have hq : ka ≤ kb ∧ (∀ i, ka ≤ i → i < kb → isT T i 6 [59] = false) ∧ ∀ T2 d, Alike T T2 d ka kb → precL T2 (ka + d) = .ok q (kb + d) := by
      rcases precL_ok h2 with ⟨p1, rfl, rfl⟩ | ⟨p1, p2, rfl, rfl⟩
      · refine ⟨Nat.le_refl _, fun i a b => by omega, fun T2 d hA => ?_⟩
        unfold precL
        rw [hA.t (Nat.le_refl _) (Nat.le_refl _) rfl, p1]; rfl
      · refine ⟨by omega, fun i a b => ?_, fun T2 d hA => ?_⟩
        · by_cases c : i = ka
          · rw [c]; exact noSemi_t p1 (by decide)
          · obtain rfl : i = ka + 1 := by omega
            exact noSemi_k p2 (by decide)
        · unfold precL
          rw [hA.t (i := ka) (Nat.le_refl _) (by omega) rfl, p1, hA.k (i := ka + 1) (by omega) (by omega) (by omega), p2]
          simp only [if_true]
          rw [hA.text (i := ka + 1) (by omega) (by omega) (by omega), show ka + d + 2 = ka + 2 + d by omega]
    obtain ⟨l2, s2, m2⟩ := hq
    have hwk : szWs ws ≤ ka := by simp only [szWs] at z1; omega
    have hthere : thereWs s ws := t1 (by simp [thereWs])
    cases h9 : isK T kb 9 with
    | true =>
      have e1 : actL T k ws q kb = (⟨ws, q, true, (tok T kb).text, (tok T kb).at_ + 1, (tok T k).at_⟩, kb + 1) := by unfold actL; rw [if_pos h9]
      rw [e1]
      refine ⟨by simp only; omega, fun i a b => ?_, fun hm => ⟨by have := len_szWs ws; simp only at hm ⊢; omega, wdsOk_sz _ (by simp only at hm ⊢; omega)⟩, ⟨hthere, fun _ => ⟨by simp, by simpa using hP.acts _ h9⟩⟩, fun T2 d k' k1' hA e2 e3 => ?_⟩
      · simp only at b
        by_cases c1 : i < ka
        · exact s1 i a c1
        by_cases c2 : i < kb
        · exact s2 i (by omega) c2
        · obtain rfl : i = kb := by omega
          exact noSemi_k h9 (by decide)
      · simp only at hA e3
        obtain ⟨ws2, p1, b1⟩ := m1 T2 d k' (ka + d) [] (hA.less (by omega) (by omega)) e2 rfl rfl
        have p2 := m2 T2 d (hA.less (by omega) (by omega))
        have q9 := (hA.k (kind := 9) (i := kb) (j := kb + d) (by omega) (by omega) rfl).trans h9
        have hx := AltR.ok p1 p2
        have e4 : actL T2 k' ws2 q (kb + d) = (⟨ws2, q, true, (tok T2 (kb + d)).text, (tok T2 (kb + d)).at_ + 1, (tok T2 k').at_⟩, kb + d + 1) := by unfold actL; rw [if_pos q9]
        rw [e4] at hx
        obtain rfl : k1' = kb + d + 1 := by omega
        exact ⟨_, hx, by simp only [plainA]; rw [b1, hA.text (i := kb) (by omega) (by omega) rfl]⟩
    | false =>
      have e1 : actL T k ws q kb = (⟨ws, q, false, [], 0, (tok T k).at_⟩, kb) := by unfold actL; rw [if_neg (by rw [h9]; decide)]
      rw [e1]
      refine ⟨by simp only; omega, fun i a b => ?_, fun hm => ⟨by have := len_szWs ws; simp only at hm ⊢; omega, wdsOk_sz _ (by simp only at hm ⊢; omega)⟩, ⟨hthere, fun hh => by cases hh⟩, fun T2 d k' k1' hA e2 e3 => ?_⟩
      · simp only at b
        by_cases c1 : i < ka
        · exact s1 i a c1
        · exact s2 i (by omega) b
      · simp only at hA e3
        obtain ⟨ws2, p1, b1⟩ := m1 T2 d k' (ka + d) [] (hA.less (by omega) (by omega)) e2 rfl rfl
        have p2 := m2 T2 d (hA.less (by omega) (by omega))
        have q9 := (hA.k (kind := 9) (i := kb) (j := kb + d) (by omega) (by omega) rfl).trans h9
        have hx := AltR.ok p1 p2
        have e4 : actL T2 k' ws2 q (kb + d) = (⟨ws2, q, false, [], 0, (tok T2 k').at_⟩, kb + d) := by unfold actL; rw [if_neg (by rw [q9]; decide)]
        rw [e4] at hx
        obtain rfl : k1' = kb + d := by omega
        exact ⟨_, hx, by simp only [plainA]; rw [b1]⟩
theorem AltsR_good {T : List Tok} {s : List UInt8} (hP : Places T s) {k k1 : Nat} {acc zs : List Al} {o : Out (List Al)} (h : AltsR T k acc o) (ho : o = .ok zs k1) :
    k ≤ k1 ∧ (∀ i, k ≤ i → i < k1 → isT T i 6 [59] = false) ∧ (k1 ≤ 1000000 → (∀ a ∈ acc, AlOk a) → ∀ a ∈ zs, AlOk a) ∧ zs.length ≤ acc.length + (k1 - k) ∧ ((∀ a ∈ acc, thereA s a) → ∀ a ∈ zs, thereA s a) ∧
    ∀ (T2 : List Tok) (d k' k1' : Nat) (acc2 : List Al), Alike T T2 d k k1 → k' = k + d → k1' = k1 + d → acc2.map plainA = acc.map plainA → ∃ zs2, AltsR T2 k' acc2 (.ok zs2 k1') ∧ zs2.map plainA = zs.map plainA := by
  induction h with
  | stop h1 =>
    cases ho
    refine ⟨Nat.le_refl _, fun i a b => by omega, fun _ => id, by omega, id, fun T2 d2 k' k1' acc2 hA e1 e2 eb => ?_⟩
    obtain rfl : k1' = k' := by omega
    exact ⟨_, .stop ((hA.t (kind := 6) (t := [124]) (Nat.le_refl _) (Nat.le_refl _) e1).trans h1), eb⟩
  | fail _ _ => cases ho
  | next h1 hw _ ih =>
    rename_i k km acc x o _
    obtain ⟨l1, s1, z1, t1, m1⟩ := AltR_good hP hw
    obtain ⟨l2, s2, z2, n2, t2, m2⟩ := ih ho
    simp only [List.length_append, List.length_cons, List.length_nil] at n2
    refine ⟨by omega, fun i a b => ?_, fun hm ha => z2 hm (fun a hx => ?_), by omega, fun ha => t2 (fun a hx => ?_), fun T2 d2 k' k1' acc2 hA e1 e2 eb => ?_⟩
    · by_cases c1 : i = k
      · rw [c1]; exact noSemi_t h1 (by decide)
      by_cases c3 : i < km
      · exact s1 i (by omega) c3
      · exact s2 i (by omega) b
    · rcases List.mem_append.1 hx with hx | hx
      · exact ha a hx
      · rw [List.mem_singleton.1 hx]; exact z1 (by omega)
    · rcases List.mem_append.1 hx with hx | hx
      · exact ha a hx
      · rw [List.mem_singleton.1 hx]; exact t1
    · have q1 := (hA.t (kind := 6) (t := [124]) (i := k) (j := k') (Nat.le_refl _) (by omega) e1).trans h1
      obtain ⟨x2, p1, b1⟩ := m1 T2 d2 (k' + 1) (km + d2) (hA.less (by omega) (by omega)) (by omega) rfl
      obtain ⟨ws2, p2, b2⟩ := m2 T2 d2 (km + d2) k1' (acc2 ++ [x2]) (hA.less (by omega) (by omega)) rfl e2 (by rw [List.map_append, List.map_append, eb, List.map_cons, List.map_cons, b1])
      exact ⟨_, .next q1 p1 p2, b2⟩
theorem NamesR_good {T : List Tok} {k k1 : Nat} {acc zs : List (List UInt8)} {o : Out (List (List UInt8))} (h : NamesR T k acc o) (ho : o = .ok zs k1) :
    k ≤ k1 ∧ (∀ i, k ≤ i → i < k1 → isT T i 6 [59] = false) ∧ zs.length ≤ acc.length + (k1 - k) ∧
    ∀ (T2 : List Tok) (d k' k1' : Nat), Alike T T2 d k k1 → k' = k + d → k1' = k1 + d → NamesR T2 k' acc (.ok zs k1') := by
  induction h with
  | stop h1 =>
    cases ho
    refine ⟨Nat.le_refl _, fun i a b => by omega, by omega, fun T2 d2 k' k1' hA e1 e2 => ?_⟩
    obtain rfl : k1' = k' := by omega
    exact .stop ((hA.t (kind := 6) (t := [44]) (Nat.le_refl _) (Nat.le_refl _) e1).trans h1)
  | fail _ _ => cases ho
  | next h1 h2 _ ih =>
    rename_i k acc o _
    obtain ⟨l2, s2, n2, m2⟩ := ih ho
    simp only [List.length_append, List.length_cons, List.length_nil] at n2
    refine ⟨by omega, fun i a b => ?_, by omega, fun T2 d2 k' k1' hA e1 e2 => ?_⟩
    · by_cases c1 : i = k
      · rw [c1]; exact noSemi_t h1 (by decide)
      by_cases c3 : i = k + 1
      · rw [c3]; exact noSemi_k h2 (by decide)
      · exact s2 i (by omega) b
    · have q1 := (hA.t (kind := 6) (t := [44]) (i := k) (j := k') (Nat.le_refl _) (by omega) e1).trans h1
      have q2 := (hA.k (kind := 2) (i := k + 1) (j := k' + 1) (by omega) (by omega) (by omega)).trans h2
      have p2 := m2 T2 d2 (k' + 2) k1' (hA.less (by omega) (by omega)) (by omega) e2
      have e3 := hA.text (i := k + 1) (j := k' + 1) (by omega) (by omega) (by omega)
      rw [← e3] at p2
      exact .next q1 q2 p2
theorem ParamsR_good {T : List Tok} {k k1 : Nat} {zs : List (List UInt8)} (h : ParamsR T k (.ok zs k1)) :
    k ≤ k1 ∧ (∀ i, k ≤ i → i < k1 → isT T i 6 [59] = false) ∧ zs.length ≤ k1 - k ∧
    ∀ (T2 : List Tok) (d k' k1' : Nat), Alike T T2 d k k1 → k' = k + d → k1' = k1 + d → ParamsR T2 k' (.ok zs k1') := by
  cases h with
  | none h1 =>
    refine ⟨Nat.le_refl _, fun i a b => by omega, by simp, fun T2 d2 k' k1' hA e1 e2 => ?_⟩
    obtain rfl : k1' = k' := by omega
    exact .none ((hA.t (kind := 6) (t := [40]) (Nat.le_refl _) (Nat.le_refl _) e1).trans h1)
  | whole h1 h2 h3 h4 =>
    rename_i km
    obtain ⟨l2, s2, n2, m2⟩ := NamesR_good h3 rfl
    simp only [List.length_cons, List.length_nil] at n2
    refine ⟨by omega, fun i a b => ?_, by omega, fun T2 d2 k' k1' hA e1 e2 => ?_⟩
    · by_cases c1 : i = k
      · rw [c1]; exact noSemi_t h1 (by decide)
      by_cases c3 : i = k + 1
      · rw [c3]; exact noSemi_k h2 (by decide)
      by_cases c4 : i < km
      · exact s2 i (by omega) c4
      · obtain rfl : i = km := by omega
        exact noSemi_t h4 (by decide)
    · have q1 := (hA.t (kind := 6) (t := [40]) (i := k) (j := k') (Nat.le_refl _) (by omega) e1).trans h1
      have q2 := (hA.k (kind := 2) (i := k + 1) (j := k' + 1) (by omega) (by omega) (by omega)).trans h2
      have p2 := m2 T2 d2 (k' + 2) (km + d2) (hA.less (by omega) (by omega)) (by omega) rfl
      have q4 := (hA.t (kind := 6) (t := [41]) (i := km) (j := km + d2) (by omega) (by omega) rfl).trans h4
      have e3 := hA.text (i := k + 1) (j := k' + 1) (by omega) (by omega) (by omega)
      rw [← e3] at p2
      obtain rfl : k1' = km + d2 + 1 := by omega
      exact .whole q1 q2 p2 q4
structure GoodRu (T : List Tok) (s : List UInt8) (k k1 : Nat) (x : Ru) : Prop where
  lt : k < k1
  semi : ∀ i, k ≤ i → i + 1 < k1 → isT T i 6 [59] = false
  last : isT T (k1 - 1) 6 [59] = true
  head : isK T k 2 = true
  ok : k1 ≤ 1000000 → RuOk x
  there : thereR s x
  move : ∀ (T2 : List Tok) (d k' k1' : Nat), Alike T T2 d k (k1 - 1) → k' = k + d → k1' = k1 + d → ∃ x2, RuleR T2 k' (.ok x2 k1') ∧ plainR x2 = plainR x
theorem RuleR_good {T : List Tok} {s : List UInt8} (hP : Places T s) {k k1 : Nat} {x : Ru} (h : RuleR T k (.ok x k1)) : GoodRu T s k k1 x := by
  cases h with
  | whole h1 h2 h3 h4 h5 h6 =>
    rename_i ps ka kb kc a zs
    obtain ⟨l2, s2, n2, m2⟩ := ParamsR_good h2
    obtain ⟨l4, s4, z4, t4, m4⟩ := AltR_good hP h4
    obtain ⟨l5, s5, z5, n5, t5, m5⟩ := AltsR_good hP h5 rfl
    simp only [List.length_cons, List.length_nil] at n5
    refine ⟨by omega, fun i p q => ?_, by simpa using h6, h1, fun hm => ⟨by simp only; omega, by simp only; omega, z5 (by omega) (fun y hy => by rw [List.mem_singleton.1 hy]; exact z4 (by omega))⟩, ⟨hP.names _ h1, t5 (fun y hy => by rw [List.mem_singleton.1 hy]; exact t4)⟩, fun T2 d k' k1' hA e1 e2 => ?_⟩
    · by_cases c1 : i = k
      · rw [c1]; exact noSemi_k h1 (by decide)
      by_cases c2 : i < ka
      · exact s2 i (by omega) c2
      by_cases c3 : i = ka
      · rw [c3]; exact noSemi_t h3 (by decide)
      by_cases c4 : i < kb
      · exact s4 i (by omega) c4
      · exact s5 i (by omega) (by omega)
    · simp only [Nat.add_sub_cancel] at hA
      have q1 := (hA.k (kind := 2) (i := k) (j := k') (Nat.le_refl _) (by omega) e1).trans h1
      have p2 := m2 T2 d (k' + 1) (ka + d) (hA.less (by omega) (by omega)) (by omega) rfl
      have q3 := (hA.t (kind := 6) (t := [58]) (i := ka) (j := ka + d) (by omega) (by omega) rfl).trans h3
      obtain ⟨a2, p4, b4⟩ := m4 T2 d (ka + d + 1) (kb + d) (hA.less (by omega) (by omega)) (by omega) rfl
      obtain ⟨zs2, p5, b5⟩ := m5 T2 d (kb + d) (kc + d) [a2] (hA.less (by omega) (by omega)) rfl rfl (by simp [b4])
      have q6 := (hA.t (kind := 6) (t := [59]) (i := kc) (j := kc + d) (by omega) (by omega) rfl).trans h6
      obtain rfl : k1' = kc + d + 1 := by omega
      exact ⟨_, .whole q1 p2 q3 p4 p5 q6, by simp only [plainR]; rw [b5, hA.text (Nat.le_refl _) (by omega) e1]⟩
/-- how many of these tokens are ; -/
def semis (T : List Tok) (lo n : Nat) : Nat := (List.range n).countP fun i => isT T (lo + i) 6 [59]
theorem semis_add (T : List Tok) (lo a b : Nat) : semis T lo (a + b) = semis T lo a + semis T (lo + a) b := by
  unfold semis
  rw [List.range_add, List.countP_append, List.countP_map]
  congr 1
  apply List.countP_congr
  intro i _
  simp [Nat.add_assoc]
theorem semis_zero {T : List Tok} {lo n : Nat} (h : ∀ i, lo ≤ i → i < lo + n → isT T i 6 [59] = false) : semis T lo n = 0 := by
  unfold semis
  rw [List.countP_eq_zero]
  intro i hi
  rw [List.mem_range] at hi
  rw [h (lo + i) (by omega) (by omega)]; decide
theorem GoodRu.one {T : List Tok} {s : List UInt8} {k k1 : Nat} {x : Ru} (h : GoodRu T s k k1 x) : semis T k (k1 - k) = 1 := by
  have := h.lt
  rw [show k1 - k = (k1 - 1 - k) + 1 by omega, semis_add, semis_zero (fun i a b => h.semi i a (by omega))]
  unfold semis
  rw [show k + (k1 - 1 - k) = k1 - 1 by omega]
  simp [h.last]
/-- rules: these of one list of tokens, and what comes behind them in another one -/
theorem RulesR_good {T : List Tok} {s : List UInt8} (hP : Places T s) {k k1 : Nat} {acc zs : List Ru} {o : Out (List Ru)} (h : RulesR T k acc o) (ho : o = .ok zs k1) :
    k ≤ k1 ∧ isK T k1 7 = true ∧ zs.length = acc.length + semis T k (k1 - k) ∧ (k1 ≤ 1000000 → (∀ a ∈ acc, RuOk a) → ∀ a ∈ zs, RuOk a) ∧ ((∀ a ∈ acc, thereR s a) → ∀ a ∈ zs, thereR s a) ∧ zs.length ≤ acc.length + (k1 - k) ∧
    ∀ (T2 : List Tok) (d k' k1' : Nat) (acc2 : List Ru), (∀ i, k ≤ i → i < k1 → (tok T2 (i + d)).kind = (tok T i).kind ∧ (tok T2 (i + d)).text = (tok T i).text) → k' = k + d → k1' = k1 + d → ∃ ys2, (∀ o2, RulesR T2 k1' (acc2 ++ ys2) o2 → RulesR T2 k' acc2 o2) ∧ acc.map plainR ++ ys2.map plainR = zs.map plainR := by
  induction h with
  | stop h1 =>
    cases ho
    refine ⟨Nat.le_refl _, h1, by simp [semis], fun _ => id, id, by omega, fun T2 d k' k1' acc2 hA e1 e2 => ⟨[], fun o2 h => ?_, by simp⟩⟩
    obtain rfl : k1' = k' := by omega
    simpa using h
  | fail _ _ => cases ho
  | next h1 hw _ ih =>
    rename_i k km acc x o _
    have hg := RuleR_good hP hw
    have hone := hg.one
    obtain ⟨l1, s1, _, hd, z1, t1, m1⟩ := hg
    obtain ⟨l2, q7, c2, z2, t2, n2, m2⟩ := ih ho
    simp only [List.length_append, List.length_cons, List.length_nil] at n2 c2
    refine ⟨by omega, q7, ?_, fun hm ha => z2 hm (fun a hx => ?_), fun ha => t2 (fun a hx => ?_), by omega, fun T2 d k' k1' acc2 hA e1 e2 => ?_⟩
    · rw [show k1 - k = (km - k) + (k1 - km) by omega, semis_add, hone, c2, show k + (km - k) = km by omega]; omega
    · rcases List.mem_append.1 hx with hx | hx
      · exact ha a hx
      · rw [List.mem_singleton.1 hx]; exact z1 (by omega)
    · rcases List.mem_append.1 hx with hx | hx
      · exact ha a hx
      · rw [List.mem_singleton.1 hx]; exact t1
    · obtain ⟨x2, p1, b1⟩ := m1 T2 d k' (km + d) (fun i a b => hA i a (by omega)) e1 rfl
      obtain ⟨ys2, p2, b2⟩ := m2 T2 d (km + d) k1' (acc2 ++ [x2]) (fun i a b => hA i (by omega) b) rfl e2
      have q7' : isK T2 k' 7 = false := by
        have hd2 : isK T2 k' 2 = true := by
          have := hA k (Nat.le_refl _) (by omega)
          unfold isK at hd ⊢
          rw [e1, this.1]; exact hd
        have := isK_eq hd2
        simp only [isK, decide_eq_false_iff_not]; omega
      refine ⟨x2 :: ys2, fun o2 h => .next q7' p1 (p2 o2 (by simpa using h)), ?_⟩
      rw [← b2, List.map_append, List.map_cons, List.map_cons, b1]; simp
end Go.Proofs.Ytelpkldlkpoioaa.Ready
