/- What a text is, that a row of tokens says, whole. No program in sight. -/
import Derived.Test.YtelpkldlkpoioaaReadGood2
namespace Go.Proofs.Ytelpkldlkpoioaa.Ready
open Go.Proofs.Ytelpkldlkpoioaa.Lexy

theorem typeL_ok {T : List Tok} {w t : List UInt8} {k k1 : Nat} (h : typeL T w k = .ok t k1) :
    (w = [116, 121, 112, 101] ∨ w = [116, 111, 107, 101, 110] ∧ isT T k 6 [60] = true) ∧ isT T k 6 [60] = true ∧ isK T (k + 1) 2 = true ∧ isT T (k + 2) 6 [62] = true ∧ t = (tok T (k + 1)).text ∧ k1 = k + 3 ∨
    ¬ (w = [116, 121, 112, 101] ∨ w = [116, 111, 107, 101, 110] ∧ isT T k 6 [60] = true) ∧ t = [] ∧ k1 = k := by
  unfold typeL at h
  split at h
  · rename_i hc
    split at h
    · cases h
    · rename_i h1
      split at h
      · cases h
      · rename_i h2
        split at h
        · cases h
        · rename_i h3
          cases h
          exact .inl ⟨hc, by simpa using h1, by simpa using h2, by simpa using h3, rfl, rfl⟩
  · rename_i hc
    cases h; exact .inr ⟨hc, rfl, rfl⟩
theorem namesL_spec {T : List Tok} : ∀ (m k : Nat) (acc : List (List UInt8)), ∃ zs, namesL T m k acc = (acc ++ zs, k + zs.length) ∧ ∀ i, k ≤ i → i < k + zs.length → isK T i 2 = true
  | 0, k, acc => ⟨[], by simp [namesL], fun i a b => by simp at b; omega⟩
  | m + 1, k, acc => by
    simp only [namesL]
    split
    · rename_i h
      obtain ⟨zs, h1, h2⟩ := namesL_spec m (k + 1) (acc ++ [(tok T k).text])
      refine ⟨(tok T k).text :: zs, by rw [h1]; simp; omega, fun i a b => ?_⟩
      by_cases c : i = k
      · rw [c]; exact h
      · exact h2 i (by omega) (by simp at b; omega)
    · exact ⟨[], by simp, fun i a b => by simp at b; omega⟩
theorem namesL_move {T T2 : List Tok} {d : Nat} : ∀ (m m2 k : Nat) (acc : List (List UInt8)), (∀ i, k ≤ i → i ≤ (namesL T m k acc).2 → (tok T2 (i + d)).kind = (tok T i).kind ∧ (tok T2 (i + d)).text = (tok T i).text) → isK T (namesL T m k acc).2 2 = false → (namesL T m k acc).2 - k ≤ m2 → namesL T2 m2 (k + d) acc = ((namesL T m k acc).1, (namesL T m k acc).2 + d)
  | 0, m2, k, acc, hA, h2, hm => by
    simp only [namesL] at hA h2 hm ⊢
    cases m2 with
    | zero => simp [namesL]
    | succ m2 =>
      simp only [namesL]
      rw [if_neg]
      have := hA k (Nat.le_refl _) (Nat.le_refl _)
      unfold isK at h2 ⊢
      rw [this.1, h2]; decide
  | m + 1, m2, k, acc, hA, h2, hm => by
    cases hk : isK T k 2 with
    | true =>
      have e : namesL T (m + 1) k acc = namesL T m (k + 1) (acc ++ [(tok T k).text]) := by simp [namesL, hk]
      rw [e] at hA h2 hm ⊢
      obtain ⟨zs, hz, _⟩ := namesL_spec (T := T) m (k + 1) (acc ++ [(tok T k).text])
      have hge : k + 1 ≤ (namesL T m (k + 1) (acc ++ [(tok T k).text])).2 := by rw [hz]; exact Nat.le_add_right _ _
      have ih := namesL_move m (m2 - 1) (k + 1) (acc ++ [(tok T k).text]) (fun i a b => hA i (by omega) b) h2 (by omega)
      obtain ⟨m2, rfl⟩ : ∃ x, m2 = x + 1 := ⟨m2 - 1, by omega⟩
      have h0 := hA k (Nat.le_refl _) (by omega)
      have hk' : isK T2 (k + d) 2 = true := by unfold isK at hk ⊢; rw [h0.1]; exact hk
      simp only [namesL, hk', if_true, h0.2]
      rw [show k + d + 1 = k + 1 + d by omega]
      simpa using ih
    | false =>
      have e : namesL T (m + 1) k acc = (acc, k) := by simp [namesL, hk]
      rw [e] at hA h2 hm ⊢
      have h0 := hA k (Nat.le_refl _) (Nat.le_refl _)
      have hk' : isK T2 (k + d) 2 = false := by unfold isK at hk ⊢; rw [h0.1]; exact hk
      cases m2 with
      | zero => simp [namesL]
      | succ m2 => simp [namesL, hk']
structure GoodDe (T : List Tok) (s : List UInt8) (k k1 : Nat) (x : De) : Prop where
  lt : k < k1
  ok : k1 ≤ 1000000 → DeOk x
  there : thereD s x
  move : ∀ T2 : List Tok, Alike T T2 0 k (k1 - 1) → k1 ≤ T2.length → ∃ x2, declL T2 k = .ok x2 k1 ∧ plainD x2 = plainD x
theorem declL_good {T : List Tok} {s : List UInt8} (hP : Places T s) {k k1 : Nat} {x : De} (hk : isK T k 1 = true) (h : declL T k = .ok x k1) : GoodDe T s k k1 x := by
  unfold declL at h
  split at h
  · cases h
  · rename_i hpr
    split at h
    · cases h
    · rename_i t ka ht
      split at h
      · cases h
      · rename_i h2
        have h2' : isK T ka 2 = true := by simpa using h2
        simp only at h
        split at h
        · cases h
        · rename_i h3
          have h3' : isT T (namesL T T.length (ka + 1) [(tok T ka).text]).2 6 [59] = true := by simpa using h3
          cases h
          obtain ⟨zs, hz, hzs⟩ := namesL_spec (T := T) T.length (ka + 1) [(tok T ka).text]
          have hn2 : (namesL T T.length (ka + 1) [(tok T ka).text]).2 = ka + 1 + zs.length := by rw [hz]
          have hn1 : (namesL T T.length (ka + 1) [(tok T ka).text]).1 = [(tok T ka).text] ++ zs := by rw [hz]
          have hka : k + 1 ≤ ka := by
            rcases typeL_ok ht with ⟨_, _, _, _, _, h⟩ | ⟨_, _, h⟩ <;> omega
          refine ⟨by omega, fun hm => ?_, hP.words _ hk, fun T2 hA hl => ?_⟩
          · show (namesL T T.length (ka + 1) [(tok T ka).text]).1.length ≤ 1000000
            rw [hn1]; simp; omega
          · rw [Nat.add_sub_cancel] at hA
            have e0 := (hA k (Nat.le_refl _) (by omega)).2
            have hpr' : ¬ (tok T2 k).text = [112, 114, 101, 99] := by
              have : (tok T2 k).text = (tok T k).text := e0
              rw [this]; exact hpr
            have ht2 : typeL T2 (tok T2 k).text (k + 1) = .ok t ka := by
              have e0' : (tok T2 k).text = (tok T k).text := e0
              rw [e0']
              rcases typeL_ok ht with ⟨c1, c2, c3, c4, rfl, rfl⟩ | ⟨c1, rfl, rfl⟩
              · have q1 := (hA.t (kind := 6) (t := [60]) (i := k + 1) (j := k + 1) (by omega) (by omega) rfl).trans c2
                have q2 := (hA.k (kind := 2) (i := k + 1 + 1) (j := k + 1 + 1) (by omega) (by omega) rfl).trans c3
                have q3 := (hA.t (kind := 6) (t := [62]) (i := k + 1 + 2) (j := k + 1 + 2) (by omega) (by omega) rfl).trans c4
                unfold typeL
                rw [if_pos (by rw [q1]; rw [c2] at c1; exact c1), if_neg (by rw [q1]; decide), if_neg (by rw [q2]; decide), if_neg (by rw [q3]; decide), hA.text (i := k + 1 + 1) (j := k + 1 + 1) (by omega) (by omega) rfl]
              · have q1 := (hA.t (kind := 6) (t := [60]) (i := k + 1) (j := k + 1) (by omega) (by omega) rfl)
                unfold typeL
                rw [if_neg (by rw [q1]; exact c1)]
            have hlast : isK T (namesL T T.length (ka + 1) [(tok T ka).text]).2 2 = false := by
              have := (isT_eq h3').1
              simp only [isK, decide_eq_false_iff_not]; omega
            have hnm := namesL_move (T := T) (T2 := T2) (d := 0) T.length T2.length (ka + 1) [(tok T ka).text] (fun i a b => hA i (by omega) b) hlast (by omega)
            simp only [Nat.add_zero] at hnm
            have q2 := (hA.k (kind := 2) (i := ka) (j := ka) (by omega) (by omega) rfl).trans h2'
            have q3 := (hA.t (kind := 6) (t := [59]) (i := (namesL T T.length (ka + 1) [(tok T ka).text]).2) (j := (namesL T T.length (ka + 1) [(tok T ka).text]).2) (by omega) (Nat.le_refl _) rfl).trans h3'
            refine ⟨⟨(tok T2 k).text, t, (namesL T T.length (ka + 1) [(tok T ka).text]).1, (tok T2 k).at_⟩, ?_, ?_⟩
            · unfold declL
              rw [if_neg hpr', ht2]
              simp only
              rw [if_neg (by rw [q2]; decide), hA.text (i := ka) (j := ka) (by omega) (by omega) rfl, hnm]
              simp only
              rw [if_neg (by rw [q3]; decide)]
            · simp only [plainD]
              have e0' : (tok T2 k).text = (tok T k).text := e0
              rw [e0']
theorem DeclsR_good {T : List Tok} {s : List UInt8} (hP : Places T s) {k k1 : Nat} {acc zs : List De} {o : Out (List De)} (h : DeclsR T k acc o) (ho : o = .ok zs k1) :
    k ≤ k1 ∧ (k1 ≤ 1000000 → (∀ a ∈ acc, DeOk a) → ∀ a ∈ zs, DeOk a) ∧ ((∀ a ∈ acc, thereD s a) → ∀ a ∈ zs, thereD s a) ∧ zs.length ≤ acc.length + (k1 - k) ∧
    ∀ (T2 : List Tok) (acc2 : List De), Alike T T2 0 k k1 → k1 ≤ T2.length → acc2.map plainD = acc.map plainD → ∃ zs2, DeclsR T2 k acc2 (.ok zs2 k1) ∧ zs2.map plainD = zs.map plainD := by
  induction h with
  | stop h1 =>
    cases ho
    exact ⟨Nat.le_refl _, fun _ => id, id, by omega, fun T2 acc2 hA _ eb => ⟨_, .stop ((hA.k (kind := 1) (Nat.le_refl _) (Nat.le_refl _) rfl).trans h1), eb⟩⟩
  | fail _ _ => cases ho
  | next h1 hw _ ih =>
    rename_i k km acc x o _
    obtain ⟨l1, z1, t1, m1⟩ := declL_good hP h1 hw
    obtain ⟨l2, z2, t2, n2, m2⟩ := ih ho
    simp only [List.length_append, List.length_cons, List.length_nil] at n2
    refine ⟨by omega, fun hm ha => z2 hm (fun a hx => ?_), fun ha => t2 (fun a hx => ?_), by omega, fun T2 acc2 hA hl eb => ?_⟩
    · rcases List.mem_append.1 hx with hx | hx
      · exact ha a hx
      · rw [List.mem_singleton.1 hx]; exact z1 (by omega)
    · rcases List.mem_append.1 hx with hx | hx
      · exact ha a hx
      · rw [List.mem_singleton.1 hx]; exact t1
    · obtain ⟨x2, p1, b1⟩ := m1 T2 (hA.less (by omega) (by omega)) (by omega)
      obtain ⟨zs2, p2, b2⟩ := m2 T2 (acc2 ++ [x2]) (hA.less (by omega) (by omega)) hl (by rw [List.map_append, List.map_append, eb, List.map_cons, List.map_cons, b1])
      exact ⟨_, .next ((hA.k (kind := 1) (i := k) (j := k) (by omega) (by omega) rfl).trans h1) p1 p2, b2⟩
theorem TextR_good {T : List Tok} {s : List UInt8} (hP : Places T s) {k1 : Nat} {x : Tx} (h : TextR T (.ok x k1)) (hk : k1 ≤ 1000000) :
    TxOk x ∧ thereT s x ∧ ∀ T2 : List Tok, Alike T T2 0 0 k1 → k1 ≤ T2.length → ∃ x2, TextR T2 (.ok x2 k1) ∧ plainT x2 = plainT x := by
  cases h with
  | whole h1 h2 h3 =>
    rename_i ds ka rs
    obtain ⟨l1, z1, t1, n1, m1⟩ := DeclsR_good hP h1 rfl
    obtain ⟨l2, q7, _, z2, t2, n2, m2⟩ := RulesR_good hP h3 rfl
    simp only [List.length_nil, Nat.zero_add] at n1 n2
    refine ⟨⟨by simp only; omega, by simp only; omega, z1 (by omega) (fun a h => by cases h), z2 hk (fun a h => by cases h)⟩, ⟨t1 (fun a h => by cases h), t2 (fun a h => by cases h)⟩, fun T2 hA hl => ?_⟩
    obtain ⟨ds2, p1, b1⟩ := m1 T2 [] (hA.less (by omega) (by omega)) (by omega) rfl
    obtain ⟨ys2, p2, b2⟩ := m2 T2 0 (ka + 1) k1 [] (fun i a b => hA i (by omega) (by omega)) rfl rfl
    have q3 := (hA.t (kind := 6) (t := [37, 37]) (i := ka) (j := ka) (by omega) (by omega) rfl).trans h2
    have q7' := (hA.k (kind := 7) (i := k1) (j := k1) (by omega) (by omega) rfl).trans q7
    have hr := p2 _ (RulesR.stop q7')
    refine ⟨⟨ds2, [] ++ ys2⟩, .whole p1 q3 hr, ?_⟩
    simp only [plainT, List.nil_append]
    rw [b1, ← b2]; rfl
end Go.Proofs.Ytelpkldlkpoioaa.Ready
