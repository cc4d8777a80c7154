/- The lexer's tokens, written one behind the other, are told as they were; an action within another one. Plain lists; no program in sight. -/
import Derived.Test.YtelpkldlkpoioaaLexPlain
namespace Go.Proofs.Ytelpkldlkpoioaa.Lexy

/-- a token's text in a source -/
def render (k : Nat) (t : List UInt8) : List UInt8 := if k = 1 then 37 :: t else if k = 9 then 123 :: (t ++ [125]) else t
/-- the tokens' texts, a blank behind each -/
def renderAll (l : List Tok) : List UInt8 := l.flatMap fun t => render t.kind t.text ++ [32]

theorem runL_all (l : List UInt8) : ∀ c ∈ l.take (runL l), ldN c.toNat = true := by
  induction l with
  | nil => simp
  | cons c r ih =>
    by_cases h : ldN c.toNat = true
    · simp only [runL, h, if_true, List.take_succ_cons, List.mem_cons]
      rintro d (rfl | hd)
      · exact h
      · exact ih d hd
    · simp [runL, h]
theorem runL_len (p : List UInt8) (x : List UInt8) (hp : ∀ c ∈ p, ldN c.toNat = true) (hx : ∀ c, x.head? = some c → ldN c.toNat = false) : runL (p ++ x) = p.length := by
  induction p with
  | nil =>
    cases x with
    | nil => simp [runL]
    | cons c x => simp [runL, hx c (by simp)]
  | cons c r ih =>
    simp only [List.cons_append, runL, hp c (by simp), if_true, List.length_cons]
    rw [ih fun d hd => hp d (by simp [hd])]
theorem take_runL_len (l : List UInt8) : (l.take (runL l)).length = runL l := by have := runL_le l; simp; omega

theorem autoL_app (l : List UInt8) : ∀ o m n x, autoL l o m = some n → autoL (l.take n ++ x) o m = some n := by
  induction l with
  | nil =>
    intro o m n x h
    cases o with
    | zero => simp [autoL] at h ⊢; exact h
    | succ o => simp [autoL] at h
  | cons c r ih =>
    intro o m n x h
    cases o with
    | zero => simp [autoL] at h ⊢; exact h
    | succ o =>
      rw [autoL_cons] at h
      cases hs : stepA (o + 1) m c.toNat with
      | none => simp [hs] at h
      | some p =>
        simp only [hs] at h
        cases ha : autoL r p.1 p.2 with
        | none => simp [ha] at h
        | some k =>
          simp only [ha, Option.map_some, Option.some.injEq] at h
          subst h
          simp only [List.take_succ_cons, List.cons_append]
          rw [autoL_cons, hs]
          simp only
          rw [ih _ _ _ x ha]; rfl

/-- the last byte that an action takes is its closing brace -/
theorem autoL_last (l : List UInt8) : ∀ o m n, autoL l (o + 1) m = some n → l.take n = l.take (n - 1) ++ [125] := by
  induction l with
  | nil => intro o m n h; simp [autoL] at h
  | cons c r ih =>
    intro o m n h
    rw [autoL_cons] at h
    cases hs : stepA (o + 1) m c.toNat with
    | none => simp [hs] at h
    | some p =>
      obtain ⟨o', m'⟩ := p
      simp only [hs] at h
      cases ha : autoL r o' m' with
      | none => simp [ha] at h
      | some k =>
        simp only [ha, Option.map_some, Option.some.injEq] at h
        subst h
        cases o' with
        | zero =>
          cases r <;> simp [autoL] at ha <;> subst ha
          all_goals
            have : c.toNat = 125 := by
              unfold stepA at hs
              (repeat' split at hs) <;> simp at hs <;> omega
            have : c = 125 := UInt8.toNat_inj.1 (by simpa using this)
            simp [this]
        | succ o' =>
          have h1 := (autoL_le r (o' + 1) m' k ha).2 (by omega)
          have := ih o' m' k ha
          obtain ⟨j, rfl⟩ : ∃ j, k = j + 1 := ⟨k - 1, by omega⟩
          simp only [List.take_succ_cons, Nat.add_sub_cancel, List.cons_append]
          rw [this]; simp

/-- what begins a token begins with no blank and no comment -/
theorem tokL_head (l : List UInt8) (k : Nat) (t : List UInt8) (n : Nat) (h : tokL l = .good k t n) :
    ∃ c r, l = c :: r ∧ wsN c.toNat = false ∧ c.toNat ≠ 47 := by
  cases l with
  | nil => simp [tokL] at h
  | cons c r =>
    refine ⟨c, r, rfl, ?_⟩
    unfold tokL at h
    by_cases h1 : letN c.toNat = true
    · simp only [letN, Bool.or_eq_true, Bool.and_eq_true, decide_eq_true_eq] at h1
      exact ⟨by simp [wsN]; omega, by omega⟩
    · simp only [h1, Bool.false_eq_true, if_false] at h
      by_cases h2 : c.toNat = 37
      · exact ⟨by simp [wsN, h2], by omega⟩
      · simp only [h2, if_false] at h
        by_cases h3 : c.toNat = 123
        · exact ⟨by simp [wsN, h3], by omega⟩
        · simp only [h3, if_false] at h
          by_cases h4 : signN c.toNat = true
          · simp only [signN, Bool.or_eq_true, decide_eq_true_eq] at h4
            exact ⟨by simp [wsN]; omega, by omega⟩
          · simp [h4] at h

theorem tokL_kind (l : List UInt8) (k : Nat) (t : List UInt8) (n : Nat) (h : tokL l = .good k t n) : k = 1 ∨ k = 2 ∨ k = 6 ∨ k = 9 := by
  cases l with
  | nil => simp [tokL] at h
  | cons c r =>
    simp only [tokL] at h
    split at h
    · split at h
      · cases h
      · cases h; simp
    · split at h
      · split at h
        · cases h; simp
        · split at h
          · cases h; simp
          · cases h
      · split at h
        · split at h
          · cases h
          · cases h; simp
        · split at h
          · cases h; simp
          · cases h

theorem words_head (t : List UInt8) (h : t ∈ wordsL) (x : List UInt8) : ((t ++ x).head?.map (·.toNat)) ≠ some 37 := by
  simp only [wordsL, List.mem_cons, List.not_mem_nil, or_false] at h
  rcases h with rfl | rfl | rfl | rfl | rfl | rfl | rfl <;> simp

/-- what a token takes is its text as it is written, and that, with a blank behind it, is the same token -/
theorem tokL_render (l : List UInt8) (k : Nat) (t : List UInt8) (n : Nat) (h : tokL l = .good k t n) :
    l.take n = render k t ∧ ∀ x, tokL (render k t ++ 32 :: x) = .good k t n := by
  cases l with
  | nil => simp [tokL] at h
  | cons c r =>
    have hb : ∀ (x : List UInt8) d, ((32 : UInt8) :: x).head? = some d → ldN d.toNat = false := by intro x d hd; simp at hd; subst hd; decide
    unfold tokL at h
    by_cases h1 : letN c.toNat = true
    · simp only [h1, if_true] at h
      split at h
      · cases h
      · rename_i h40
        cases h
        refine ⟨by simp [render], fun x => ?_⟩
        have he : render 2 (List.take (runL (c :: r)) (c :: r)) = List.take (runL (c :: r)) (c :: r) := by simp [render]
        rw [he]
        have hr := runL_len _ (32 :: x) (runL_all (c :: r)) (hb x)
        have hlen := take_runL_len (c :: r)
        obtain ⟨m, hm⟩ : ∃ m, runL (c :: r) = m + 1 := ⟨runL r, by simp [runL, ldN, h1]⟩
        rw [hlen] at hr
        rw [hm] at hr hlen h40 ⊢
        simp only [List.take_succ_cons, List.cons_append] at hr hlen ⊢
        simp only [tokL, h1, if_true, hr]
        rw [if_neg (by omega), List.take_succ_cons, List.take_append_of_le_length (by simp at hlen ⊢; omega), List.take_of_length_le (by simp at hlen ⊢; omega)]
    · simp only [h1, Bool.false_eq_true, if_false] at h
      by_cases h2 : c.toNat = 37
      · have hc : c = 37 := UInt8.toNat_inj.1 (by simpa using h2)
        subst hc
        simp only [h2, if_true] at h
        split at h
        · rename_i h3
          cases h
          cases r with
          | nil => simp at h3
          | cons d r =>
            simp at h3
            have hd : d = 37 := UInt8.toNat_inj.1 (by simpa using h3)
            subst hd
            exact ⟨by simp [render], fun x => by simp [render, tokL, letN]⟩
        · split at h
          · rename_i h4
            cases h
            refine ⟨by simp [render], fun x => ?_⟩
            have hr := runL_len _ (32 :: x) (runL_all r) (hb x)
            have hw := words_head _ h4 (32 :: x)
            have he : render 1 (List.take (runL r) r) = 37 :: List.take (runL r) r := by simp [render]
            rw [he]
            have hlen := take_runL_len r
            rw [hlen] at hr
            rw [List.cons_append]
            have k1 : letN 37 = false := by decide
            simp only [tokL, h2, k1, Bool.false_eq_true, if_false, if_true, hr]
            rw [if_neg hw, List.take_left' hlen, if_pos h4]
          · cases h
      · simp only [h2, if_false] at h
        by_cases h3 : c.toNat = 123
        · have hc : c = 123 := UInt8.toNat_inj.1 (by simpa using h3)
          subst hc
          simp only [h3, if_true] at h
          split at h
          · cases h
          · rename_i n' ha
            cases h
            have hlast := autoL_last r 0 0 n' ha
            have hpos := (autoL_le r 1 0 n' ha).2 (by omega)
            have he : render 9 (List.take (n' - 1) r) = 123 :: List.take n' r := by simp [render, hlast]
            refine ⟨by rw [he]; simp, fun x => ?_⟩
            rw [he]
            rw [List.cons_append]
            have k1 : letN 123 = false := by decide
            simp only [tokL, h3, k1, Bool.false_eq_true, if_false, Nat.reduceEqDiff, if_true]
            rw [autoL_app r 1 0 n' (32 :: x) ha]
            simp only
            have hlen := (autoL_le r 1 0 n' ha).1
            rw [List.take_append_of_le_length (by simp; omega), List.take_take, Nat.min_eq_left (by omega)]
        · simp only [h3, if_false] at h
          split at h
          · rename_i h4
            cases h
            exact ⟨by simp [render], fun x => by simp [tokL, render, h1, h2, h3, h4]⟩
          · cases h

/-- a row of tokens: they rise, and each stands at its place -/
def chain (s : List UInt8) : Nat → List Tok → Prop
  | _, [] => True
  | b, t :: l => b ≤ t.at_ ∧ t.at_ + (render t.kind t.text).length ≤ s.length ∧ (s.drop t.at_).take (render t.kind t.text).length = render t.kind t.text ∧ chain s (t.at_ + (render t.kind t.text).length) l

theorem chain_mono (s : List UInt8) (l : List Tok) (b b' : Nat) (hb : b' ≤ b) (h : chain s b l) : chain s b' l := by
  cases l with
  | nil => trivial
  | cons t l => exact ⟨Nat.le_trans hb h.1, h.2⟩

/-- a token that stays one with a blank behind it -/
def Tok.fine (t : Tok) : Prop :=
  (t.kind = 1 ∨ t.kind = 2 ∨ t.kind = 6 ∨ t.kind = 9) ∧ ∀ x, tokL (render t.kind t.text ++ 32 :: x) = .good t.kind t.text (render t.kind t.text).length

/-- the tokens of a source, as a row and its end; or a fault at a place that is there -/
theorem lexA_shape (s : List UInt8) : ∀ (m : Nat) (a : Nat), s.length - a ≤ m → a ≤ s.length →
    match lexA (s.drop a) 0 a with
    | .bad e p => (e = 100 ∨ e = 101) ∧ a ≤ p ∧ p < s.length
    | .good l => ∃ ts, l = ts ++ [⟨7, [], s.length⟩] ∧ chain s a ts ∧ ∀ t ∈ ts, t.fine := by
  intro m
  induction m with
  | zero =>
    intro a h1 h2
    have : a = s.length := by omega
    subst this
    simp [lexA, chain]
  | succ m ih =>
    intro a h1 h2
    by_cases he : a = s.length
    · subst he; simp [lexA, chain]
    have hlt : a < s.length := by omega
    have hne : s.drop a ≠ [] := by simp; omega
    by_cases hw : wsN ((s.drop a).headD 0).toNat = true
    · rw [lexA_ws _ _ hne hw, List.drop_drop]
      have := ih (a + 1) (by omega) (by omega)
      revert this
      cases lexA (List.drop (a + 1) s) 0 (a + 1) with
      | bad e p => intro h; exact ⟨h.1, by omega, h.2.2⟩
      | good l => rintro ⟨ts, h, hc, hf⟩; exact ⟨ts, h, chain_mono _ _ _ _ (by omega) hc, hf⟩
    · have hw' : wsN ((s.drop a).headD 0).toNat = false := by simpa using hw
      by_cases hc : comL (s.drop a) = true
      · rw [lexA_com _ _ hw' hc, List.drop_drop]
        have hp := overL_pos _ hc
        have hl := overL_le (s.drop a)
        simp only [List.length_drop] at hl
        have := ih (a + overL (s.drop a)) (by omega) (by omega)
        revert this
        cases lexA (List.drop (a + overL (s.drop a)) s) 0 (a + overL (s.drop a)) with
        | bad e p => intro h; exact ⟨h.1, by omega, h.2.2⟩
        | good l => rintro ⟨ts, h, hc, hf⟩; exact ⟨ts, h, chain_mono _ _ _ _ (by omega) hc, hf⟩
      · have hc' : comL (s.drop a) = false := by simpa using hc
        rw [lexA_tok _ _ hne hw' hc']
        cases ht : tokL (s.drop a) with
        | bad e =>
          refine ⟨?_, Nat.le_refl _, hlt⟩
          revert ht
          cases s.drop a with
          | nil => simp [tokL]; omega
          | cons c r =>
            simp only [tokL]
            intro ht
            (repeat' split at ht) <;> first | (cases ht; simp; done) | cases ht
        | good k t n =>
          simp only
          have hn := tokL_le _ _ _ _ ht
          have hr := tokL_render _ _ _ _ ht
          have hk := tokL_kind _ _ _ _ ht
          simp only [List.length_drop] at hn
          have hlen : (render k t).length = n := by rw [← hr.1]; simp; omega
          rw [List.drop_drop]
          have := ih (a + n) (by omega) (by omega)
          revert this
          cases lexA (List.drop (a + n) s) 0 (a + n) with
          | bad e p => intro h; exact ⟨h.1, by omega, h.2.2⟩
          | good l =>
            rintro ⟨ts, h, hc, hf⟩
            refine ⟨⟨k, t, a⟩ :: ts, by simp [h], ⟨Nat.le_refl _, by simp only [hlen]; omega, by simp only [hlen]; exact hr.1, by simp only [hlen]; exact hc⟩, ?_⟩
            intro x hx
            rcases List.mem_cons.1 hx with rfl | hx
            · exact ⟨hk, fun x => by simp only [hlen]; exact hr.2 x⟩
            · exact hf x hx

/-- the tokens without their places -/
def bare (l : List Tok) : List (Nat × List UInt8) := l.map fun t => (t.kind, t.text)

theorem lexA_back (ts : List Tok) : ∀ b, (∀ t ∈ ts, t.fine) → ∃ m, lexA (renderAll ts) 0 b = .good m ∧ bare m = bare ts ++ [(7, [])] := by
  induction ts with
  | nil => intro b _; exact ⟨_, rfl, rfl⟩
  | cons t ts ih =>
    intro b hf
    have hfine := hf t (List.mem_cons_self ..)
    have he : renderAll (t :: ts) = render t.kind t.text ++ 32 :: renderAll ts := by simp [renderAll]
    rw [he]
    have htok := hfine.2 (renderAll ts)
    obtain ⟨c, r, hcr, hw, h47⟩ := tokL_head _ _ _ _ htok
    have hne : render t.kind t.text ++ 32 :: renderAll ts ≠ [] := by simp
    have hcom : comL (render t.kind t.text ++ 32 :: renderAll ts) = false := by
      rw [hcr]; cases r <;> simp [comL, h47]
    rw [lexA_tok _ _ hne (by rw [hcr]; exact hw) hcom, htok]
    simp only
    rw [List.drop_left]
    obtain ⟨m, hm, hb⟩ := ih (b + (render t.kind t.text).length + 1) fun x hx => hf x (List.mem_cons_of_mem _ hx)
    rw [lexA_ws _ _ (by simp) (by simp [wsN])]
    simp only [List.drop_succ_cons, List.drop_zero]
    rw [hm]
    refine ⟨_, rfl, ?_⟩
    simp only [bare, List.map_cons, List.cons_append] at hb ⊢
    rw [hb]

/-- THE PLAIN LAW OF LexBack -/
theorem toks_back (s : List UInt8) (l : List Tok) (h : toks s = .good l) :
    ∃ ts, l = ts ++ [⟨7, [], s.length⟩] ∧ chain s 0 ts ∧ ((renderAll ts).length ≤ 65536 → ∃ m, toks (renderAll ts) = .good m ∧ bare m = bare l) := by
  unfold toks at h
  split at h
  · cases h
  · have := lexA_shape s s.length 0 (by omega) (by omega)
    simp only [List.drop_zero, h] at this
    obtain ⟨ts, h1, h2, h3⟩ := this
    refine ⟨ts, h1, h2, fun hlen => ?_⟩
    obtain ⟨m, hm, hb⟩ := lexA_back ts 0 h3
    refine ⟨m, ?_, by rw [hb, h1]; simp [bare]⟩
    unfold toks
    rw [if_neg (by omega)]; exact hm
theorem toks_bad (s : List UInt8) (e p : Nat) (h : toks s = .bad e p) : e ≠ 0 ∧ e < 200 ∧ (p < s.length ∨ 65536 < s.length) ∧ p ≤ s.length := by
  unfold toks at h
  split at h
  · cases h; omega
  · have := lexA_shape s s.length 0 (by omega) (by omega)
    simp only [List.drop_zero, h] at this
    omega
end Go.Proofs.Ytelpkldlkpoioaa.Lexy
