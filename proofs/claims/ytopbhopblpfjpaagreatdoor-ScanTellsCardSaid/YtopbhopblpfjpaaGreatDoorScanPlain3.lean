/- The scanner's tokens, written one behind the other, are told as they were. Plain lists; no program in sight. -/
import Derived.Test.YtopbhopblpfjpaaGreatDoorScanPlain2
import Derived.Test.YtopbhopblpfjpaaGreatDoorLexPlain2
namespace Go.Proofs.YtopbhopblpfjpaaGreatDoor.Scany
open Go.Proofs.YtopbhopblpfjpaaGreatDoor.Lexy

/-- a token's text in a source -/
def rendS (k : Nat) (t : List UInt8) : List UInt8 := if k = 5 then quoS t else if k = 8 then 36 :: t else t
/-- the tokens' texts, a blank behind each -/
def writS (l : List Tok) : List UInt8 := l.flatMap fun t => rendS t.kind t.text ++ [32]

theorem digL_all (l : List UInt8) : ∀ c ∈ l.take (digL l), digN c.toNat = true := by
  induction l with
  | nil => simp
  | cons c r ih =>
    by_cases h : digN c.toNat = true
    · simp only [digL, h, if_true, List.take_succ_cons, List.mem_cons]
      rintro d (rfl | hd)
      · exact h
      · exact ih d hd
    · simp [digL, h]
theorem digL_len (p : List UInt8) (x : List UInt8) (hp : ∀ c ∈ p, digN c.toNat = true) (hx : ∀ c, x.head? = some c → digN c.toNat = false) : digL (p ++ x) = p.length := by
  induction p with
  | nil =>
    cases x with
    | nil => simp [digL]
    | cons c x => simp [digL, hx c (by simp)]
  | cons c r ih =>
    simp only [List.cons_append, digL, hp c (by simp), if_true, List.length_cons]
    rw [ih fun d hd => hp d (by simp [hd])]
theorem take_digL_len (l : List UInt8) : (l.take (digL l)).length = digL l := by have := digL_le l; simp; omega
theorem sign_rend : ∀ t ∈ signsS, ∀ x, tokS (t ++ 32 :: x) = .good 6 t t.length := by
  intro t ht x
  simp only [signsS, List.mem_cons, List.not_mem_nil, or_false] at ht
  rcases ht with rfl | rfl | rfl | rfl | rfl | rfl | rfl | rfl | rfl | rfl | rfl | rfl | rfl | rfl | rfl | rfl | rfl | rfl | rfl | rfl | rfl | rfl | rfl | rfl | rfl | rfl <;> rfl
theorem dol_rend {r t : List UInt8} {n : Nat} (h : dolL r = some (t, n)) (x : List UInt8) : dolL (t ++ 32 :: x) = some (t, t.length + 1) := by
  unfold dolL at h
  split at h
  · cases h; rfl
  · rename_i h36
    split at h
    · cases h
    · rename_i h1
      have h0 : digL r ≠ 0 := fun e => h1 (.inl e)
      have h2 : ¬ 2 < digL r := fun e => h1 (.inr (.inl e))
      have h48 : (r.headD 0).toNat ≠ 48 := fun e => h1 (.inr (.inr (.inl e)))
      cases h
      have hl := take_digL_len r
      have hd := digL_len _ (32 :: x) (digL_all r) (by intro c hc; simp at hc; subst hc; decide)
      rw [hl] at hd
      have hh : ((List.take (digL r) r ++ 32 :: x).headD 0) = r.headD 0 := by
        cases r with
        | nil => simp [digL] at h0
        | cons c r =>
          obtain ⟨m, hm⟩ : ∃ m, digL (c :: r) = m + 1 := ⟨digL (c :: r) - 1, by omega⟩
          rw [hm]; rfl
      have hdr : (List.take (digL r) r ++ 32 :: x).drop (digL r) = 32 :: x := by
        rw [List.drop_append_of_le_length (by omega), List.drop_of_length_le (by omega)]; rfl
      have htk : (List.take (digL r) r ++ 32 :: x).take (digL r) = List.take (digL r) r := by
        rw [List.take_append_of_le_length (by omega), List.take_of_length_le (by omega)]
      unfold dolL
      rw [hh, hd, if_neg h36, hdr, htk, if_neg (by
        rintro (h | h | h | h)
        · exact h0 h
        · exact h2 h
        · exact h48 h
        · rw [show letN (((32 : UInt8) :: x).headD 0).toNat = false from rfl] at h; cases h), hl]
theorem num_rend {l : List UInt8} (h0 : 0 < digL l) (hb : numBad l = false) (x : List UInt8) :
    numBad (l.take (numLen l) ++ 32 :: x) = false ∧ numLen (l.take (numLen l) ++ 32 :: x) = numLen l ∧ pointL ((l.take (numLen l) ++ 32 :: x).drop (digL (l.take (numLen l) ++ 32 :: x))) = pointL (l.drop (digL l)) := by
  obtain ⟨c, r, rfl⟩ : ∃ c r, l = c :: r := by cases l with | nil => simp [digL] at h0 | cons c r => exact ⟨c, r, rfl⟩
  have hnl := numLen_le (c :: r)
  have hh : ∀ y, ((((c :: r).take (numLen (c :: r)) ++ y).headD 0)) = c := by
    intro y
    obtain ⟨m, hm⟩ : ∃ m, numLen (c :: r) = m + 1 := ⟨numLen (c :: r) - 1, by omega⟩
    rw [hm]; rfl
  simp only [numBad, Bool.or_eq_false_iff, Bool.and_eq_false_iff] at hb
  obtain ⟨⟨⟨b1, b2⟩, b3⟩, b4⟩ := hb
  cases hp : pointL ((c :: r).drop (digL (c :: r))) with
  | false =>
    have hn : numLen (c :: r) = digL (c :: r) := by unfold numLen; rw [hp]; rfl
    have hc : numCnt (c :: r) = digL (c :: r) := by unfold numCnt; rw [hp]; rfl
    have hl := take_digL_len (c :: r)
    have hd := digL_len _ (32 :: x) (digL_all (c :: r)) (by intro c hc; simp at hc; subst hc; decide)
    rw [hl] at hd
    have hdr : (List.take (digL (c :: r)) (c :: r) ++ 32 :: x).drop (digL (c :: r)) = 32 :: x := by
      rw [List.drop_append_of_le_length (by omega), List.drop_of_length_le (by omega)]; rfl
    have hpx : pointL (32 :: x) = false := by simp [pointL]
    rw [hn] at hh ⊢
    have hn2 : numLen (List.take (digL (c :: r)) (c :: r) ++ 32 :: x) = digL (c :: r) := by unfold numLen; rw [hd, hdr, hpx]; rfl
    have hc2 : numCnt (List.take (digL (c :: r)) (c :: r) ++ 32 :: x) = digL (c :: r) := by unfold numCnt; rw [hd, hdr, hpx]; rfl
    refine ⟨?_, hn2, by rw [hd, hdr, hpx]⟩
    simp only [numBad, Bool.or_eq_false_iff, Bool.and_eq_false_iff]
    rw [hd, hh, hc2, hn2, hdr]
    rw [hc] at b2
    exact ⟨⟨⟨b1, b2⟩, rfl⟩, rfl⟩
  | true =>
    obtain ⟨d, y, r', hcons, hd46, hy⟩ := point_cons hp
    generalize hD : digL (c :: r) = D at *
    have hdr1 : (c :: r).drop (D + 1) = y :: r' := by
      have := congrArg (List.drop 1) hcons
      rw [List.drop_drop] at this
      exact this
    generalize hE : digL ((c :: r).drop (D + 1)) = E at *
    have hE1 : 1 ≤ E := by rw [← hE, hdr1]; simp [digL, hy]
    have hn : numLen (c :: r) = D + 1 + E := by unfold numLen; rw [hD, hp, hE]; rfl
    have hc : numCnt (c :: r) = D + E := by unfold numCnt; rw [hD, hp, hE]; rfl
    have hDl : D ≤ (c :: r).length := by rw [← hD]; exact digL_le _
    have hEl : E ≤ (y :: r').length := by rw [← hE, hdr1]; exact digL_le _
    have hlen : (c :: r).length = D + 1 + (y :: r').length := by
      have := congrArg List.length hcons
      simp only [List.length_drop, List.length_cons] at this ⊢
      omega
    -- the text in three pieces
    have ht : (c :: r).take (D + 1 + E) = (c :: r).take D ++ d :: (y :: r').take E := by
      rw [show D + 1 + E = D + (1 + E) by omega, List.take_add, hcons, show 1 + E = E + 1 by omega]
      rfl
    have hPl : ((c :: r).take D).length = D := by simp only [List.length_take]; omega
    have hQl : ((y :: r').take E).length = E := by simp only [List.length_take]; omega
    rw [hn] at hh ⊢
    rw [ht] at hh ⊢
    have hPall : ∀ z ∈ (c :: r).take D, digN z.toNat = true := by rw [← hD]; exact digL_all _
    have hQall : ∀ z ∈ (y :: r').take E, digN z.toNat = true := by rw [← hE, hdr1]; exact digL_all _
    generalize hP : (c :: r).take D = P at *
    generalize hQ : (y :: r').take E = Q at *
    have e1 : (P ++ d :: Q) ++ 32 :: x = P ++ (d :: (Q ++ 32 :: x)) := by simp
    rw [e1]
    have hhh := hh (32 :: x)
    rw [e1] at hhh
    have hd1 : digL (P ++ (d :: (Q ++ 32 :: x))) = D := by
      rw [digL_len P _ hPall (by intro z hz; simp at hz; subst hz; simp [digN]; omega), hPl]
    have hdr2 : (P ++ (d :: (Q ++ 32 :: x))).drop D = d :: (Q ++ 32 :: x) := by
      rw [← hPl, List.drop_left]
    have hdr3 : (P ++ (d :: (Q ++ 32 :: x))).drop (D + 1) = Q ++ 32 :: x := by
      have := congrArg (List.drop 1) hdr2
      rw [List.drop_drop] at this
      exact this
    have hd2 : digL (Q ++ 32 :: x) = E := by
      rw [digL_len Q _ hQall (by intro z hz; simp at hz; subst hz; decide), hQl]
    obtain ⟨q, Q', hQc⟩ : ∃ q Q', Q = q :: Q' := by cases Q with | nil => simp at hQl; omega | cons q Q' => exact ⟨q, Q', rfl⟩
    have hpx : pointL (d :: (Q ++ 32 :: x)) = true := by
      rw [hQc] at hQall ⊢
      simp [pointL, hd46, hQall q (by simp)]
    have hn2 : numLen (P ++ (d :: (Q ++ 32 :: x))) = D + 1 + E := by unfold numLen; rw [hd1, hdr2, hpx, hdr3, hd2]; rfl
    have hc2 : numCnt (P ++ (d :: (Q ++ 32 :: x))) = D + E := by unfold numCnt; rw [hd1, hdr2, hpx, hdr3, hd2]; rfl
    have hdr4 : (P ++ (d :: (Q ++ 32 :: x))).drop (D + 1 + E) = 32 :: x := by
      have := congrArg (List.drop E) hdr3
      rw [List.drop_drop] at this
      rw [this, ← hQl, List.drop_left]
    refine ⟨?_, hn2, by rw [hd1, hdr2, hpx]⟩
    simp only [numBad, Bool.or_eq_false_iff, Bool.and_eq_false_iff]
    rw [hd1, hhh, hc2, hn2, hdr4]
    rw [hc] at b2
    exact ⟨⟨⟨b1, b2⟩, rfl⟩, rfl⟩

/-- what a token takes, written, with a blank behind it, is the same token -/
theorem tokS_rend {l : List UInt8} {k n : Nat} {t : List UInt8} (h : tokS l = .good k t n) (x : List UInt8) : tokS (rendS k t ++ 32 :: x) = .good k t (rendS k t).length := by
  cases l with
  | nil => simp [tokS] at h
  | cons c r =>
    have hb : ∀ (x : List UInt8) d, ((32 : UInt8) :: x).head? = some d → ldN d.toNat = false := by intro x d hd; simp at hd; subst hd; decide
    have h' := h
    simp only [tokS] at h
    by_cases h1 : letN c.toNat = true
    · simp only [h1, if_true] at h
      have hr := runL_len _ (32 :: x) (runL_all (c :: r)) (hb x)
      have hlen := take_runL_len (c :: r)
      obtain ⟨m, hm⟩ : ∃ m, runL (c :: r) = m + 1 := ⟨runL r, by simp [runL, ldN, h1]⟩
      rw [hlen] at hr
      have htk : (List.take (runL (c :: r)) (c :: r) ++ 32 :: x).take (runL (c :: r)) = List.take (runL (c :: r)) (c :: r) := by
        rw [List.take_append_of_le_length (by omega), List.take_of_length_le (by omega)]
      have hcons : List.take (runL (c :: r)) (c :: r) ++ 32 :: x = c :: (List.take m r ++ 32 :: x) := by rw [hm]; rfl
      have hz : tokS (List.take (runL (c :: r)) (c :: r) ++ 32 :: x) = (if List.take (runL (c :: r)) (c :: r) ∈ wordsS then .good 1 (List.take (runL (c :: r)) (c :: r)) (runL (c :: r))
          else if List.take (runL (c :: r)) (c :: r) = [95] ∨ 40 < runL (c :: r) ∨ List.take (runL (c :: r)) (c :: r) ∈ foreignS then .bad 101
          else .good 2 (List.take (runL (c :: r)) (c :: r)) (runL (c :: r))) := by
        conv => lhs; rw [hcons, tokS]
        simp only [h1, if_true]
        rw [← hcons, hr, htk]
      split at h
      · rename_i hw
        cases h
        have : rendS 1 (List.take (runL (c :: r)) (c :: r)) = List.take (runL (c :: r)) (c :: r) := by simp [rendS]
        rw [this, hz, if_pos hw, hlen]
      · rename_i hw
        split at h
        · cases h
        · rename_i hw2
          cases h
          have : rendS 2 (List.take (runL (c :: r)) (c :: r)) = List.take (runL (c :: r)) (c :: r) := by simp [rendS]
          rw [this, hz, if_neg hw, if_neg hw2, hlen]
    · simp only [h1, Bool.false_eq_true, if_false] at h
      by_cases h2 : digN c.toNat = true
      · simp only [h2, if_true] at h
        have h0 := digL_one (r := r) h2
        split at h
        · cases h
        · rename_i hnb
          have hnb : numBad (c :: r) = false := by simpa using hnb
          obtain ⟨e1, e2, e3⟩ := num_rend h0 hnb x
          have hnl := numLen_le (c :: r)
          have hlen : (List.take (numLen (c :: r)) (c :: r)).length = numLen (c :: r) := by simp only [List.length_take]; omega
          obtain ⟨m, hm⟩ : ∃ m, numLen (c :: r) = m + 1 := ⟨numLen (c :: r) - 1, by omega⟩
          have hcons : List.take (numLen (c :: r)) (c :: r) ++ 32 :: x = c :: (List.take m r ++ 32 :: x) := by rw [hm]; rfl
          have htk : (List.take (numLen (c :: r)) (c :: r) ++ 32 :: x).take (numLen (c :: r)) = List.take (numLen (c :: r)) (c :: r) := by
            rw [List.take_append_of_le_length (by omega), List.take_of_length_le (by omega)]
          have hz : tokS (List.take (numLen (c :: r)) (c :: r) ++ 32 :: x) = .good (if pointL ((c :: r).drop (digL (c :: r))) then 4 else 3) (List.take (numLen (c :: r)) (c :: r)) (numLen (c :: r)) := by
            conv => lhs; rw [hcons, tokS]
            simp only [h1, h2, if_true, Bool.false_eq_true, if_false]
            rw [← hcons, e1, e2, e3, htk]
            simp
          cases h
          have : rendS (if pointL ((c :: r).drop (digL (c :: r))) then 4 else 3) (List.take (numLen (c :: r)) (c :: r)) = List.take (numLen (c :: r)) (c :: r) := by
            split <;> simp [rendS]
          rw [this, hz, hlen]
      · simp only [h2, Bool.false_eq_true, if_false] at h
        by_cases h3 : c.toNat = 34
        · simp only [h3, if_true] at h
          split at h
          · cases h
          · cases h
            show tokS (quoS _ ++ 32 :: x) = _
            rw [tokS_quo]; rfl
        · simp only [h3, if_false] at h
          by_cases h4 : c.toNat = 36
          · simp only [h4, if_true] at h
            split at h
            · cases h
            · rename_i y z hs
              cases h
              have := dol_rend hs x
              show tokS (36 :: (t ++ 32 :: x)) = .good 8 t (t.length + 1)
              rw [tokS]
              rw [if_neg (by decide), if_neg (by decide), if_neg (by decide), if_pos (by decide), this]
          · simp only [h4, if_false] at h
            split at h
            · cases h
            · split at h
              · cases h
              · rename_i h5
                have := (firstL_pre signsS (c :: r) h5).1
                cases h
                have h6 : rendS 6 (firstL signsS (c :: r)) = firstL signsS (c :: r) := by simp [rendS]
                rw [h6]
                exact sign_rend _ this x
/-- what begins a token begins with no blank, and no line's end -/
theorem tokS_head {c : UInt8} {r : List UInt8} {k n : Nat} {t : List UInt8} (h : tokS (c :: r) = .good k t n) : c.toNat ≠ 10 ∧ c.toNat ≠ 32 ∧ c.toNat ≠ 9 ∧ c.toNat ≠ 13 := by
  refine ⟨?_, ?_, ?_, ?_⟩ <;> intro hc <;> (have := u8_eq hc; subst this; have h2 : One.bad 100 = One.good k t n := h; cases h2)
theorem strL_text (l : List UInt8) : ∀ k t n, strL l k = some (t, n) → t.length ≤ n := by
  induction l with
  | nil => intro k t n h; cases k <;> simp [strL] at h
  | cons c r ih =>
    intro k t n h
    cases k with
    | succ k =>
      simp only [strL] at h
      cases hs : strL r k with
      | none => simp [hs] at h
      | some x => simp [hs] at h; have := ih k x.1 x.2 hs; rw [← h.1, ← h.2]; omega
    | zero =>
      simp only [strL] at h
      split at h
      · cases h; simp
      · split at h
        · cases h
        · split at h
          · split at h
            · cases h
            · rename_i b m hp
              cases hs : strL r m with
              | none => simp [hs] at h
              | some x => simp [hs] at h; have := ih m x.1 x.2 hs; rw [← h.1, ← h.2]; simp; omega
          · cases hs : strL r 0 with
            | none => simp [hs] at h
            | some x => simp [hs] at h; have := ih 0 x.1 x.2 hs; rw [← h.1, ← h.2]; simp; omega
theorem tokS_text {l : List UInt8} {k n : Nat} {t : List UInt8} (h : tokS l = .good k t n) : t.length ≤ n := by
  cases l with
  | nil => simp [tokS] at h
  | cons c r =>
    simp only [tokS] at h
    split at h
    · split at h
      · cases h; simp only [List.length_take]; omega
      · split at h
        · cases h
        · cases h; simp only [List.length_take]; omega
    · split at h
      · split at h
        · cases h
        · cases h; simp only [List.length_take]; omega
      · split at h
        · split at h
          · cases h
          · rename_i x y hs
            cases h
            have := strL_text _ _ _ _ hs
            omega
        · split at h
          · split at h
            · cases h
            · rename_i x y hs
              cases h
              unfold dolL at hs
              split at hs
              · cases hs; simp
              · split at hs
                · cases hs
                · cases hs; simp only [List.length_take]; omega
          · split at h
            · cases h
            · split at h
              · cases h
              · cases h; exact Nat.le_refl _
/-- a token that stays one with a blank behind it -/
def fineS (t : Tok) : Prop :=
  (∀ x, tokS (rendS t.kind t.text ++ 32 :: x) = .good t.kind t.text (rendS t.kind t.text).length ∧ comL (rendS t.kind t.text ++ 32 :: x) = false)
theorem fine_of {l : List UInt8} {k n : Nat} {t : List UInt8} (h : tokS l = .good k t n) (a : Nat) : fineS ⟨k, t, a⟩ := by
  intro x
  have h1 := tokS_rend h x
  refine ⟨h1, ?_⟩
  show comL (rendS k t ++ 32 :: x) = false
  cases hc : comL (rendS k t ++ 32 :: x) with
  | false => rfl
  | true =>
    exfalso
    generalize hy : rendS k t ++ 32 :: x = y at h1 hc
    match y, hc with
    | [], hc => cases hc
    | [c], hc => cases hc
    | c :: d :: z, hc =>
      simp [comL] at hc
      have e1 := u8_eq hc.1; have e2 := u8_eq hc.2
      subst e1 e2
      have h2 : One.good 6 [47] 1 = One.good k t (rendS k t).length := h1
      injection h2 with e3 e4 e5
      subst e3 e4
      have h3 : (47 : UInt8) :: 32 :: x = 47 :: 47 :: z := hy
      injection h3 with _ h4
      injection h4 with h5
      exact absurd h5 (by decide)
/-- a row of tokens: they rise -/
def riseS (N : Nat) : Nat → List Tok → Prop
  | _, [] => True
  | b, t :: l => b ≤ t.at_ ∧ t.at_ ≤ N ∧ riseS N (t.at_ + 1) l
theorem riseS_mono {N : Nat} {l : List Tok} {b b' : Nat} (hb : b' ≤ b) (h : riseS N b l) : riseS N b' l := by
  cases l with
  | nil => trivial
  | cons t l => exact ⟨Nat.le_trans hb h.1, h.2⟩
/-- the last one, of some tokens behind one -/
def lastOr (last : Option Tok) : List Tok → Option Tok
  | [] => last
  | t :: l => lastOr (some t) l
theorem ends_move (k : Nat) (t : List UInt8) (a b : Nat) : ∀ l, endsS (lastOr (some ⟨k, t, a⟩) l) = endsS (lastOr (some ⟨k, t, b⟩) l)
  | [] => rfl
  | _ :: _ => rfl
theorem tokS_nil : tokS [] = .bad 100 := rfl
/-- the tokens of a source, as a row and its end; or a fault at a place that is there -/
theorem scan_shape (s : List UInt8) : ∀ (m : Nat) (a : Nat) (last : Option Tok), s.length - a ≤ m → a ≤ s.length →
    match scanA (s.drop a) 0 a last with
    | .bad e p => (e = 100 ∨ e = 101) ∧ a ≤ p ∧ p < s.length
    | .good l => ∃ ts, l = ts ++ [⟨7, [], s.length⟩] ∧ riseS s.length a ts ∧ (∀ t ∈ ts, fineS t ∧ t.text.length ≤ s.length + 1) ∧ endsS (lastOr last ts) = false := by
  have semi : ∀ a, fineS ⟨6, [59], a⟩ ∧ (⟨6, [59], a⟩ : Tok).text.length ≤ s.length + 1 := fun a => ⟨fine_of (l := [59]) (n := 1) rfl a, by simp⟩
  have nil : ∀ last, match scanA (s.drop s.length) 0 s.length last with
    | .bad e p => (e = 100 ∨ e = 101) ∧ s.length ≤ p ∧ p < s.length
    | .good l => ∃ ts, l = ts ++ [⟨7, [], s.length⟩] ∧ riseS s.length s.length ts ∧ (∀ t ∈ ts, fineS t ∧ t.text.length ≤ s.length + 1) ∧ endsS (lastOr last ts) = false := by
    intro last
    rw [List.drop_length]
    cases he : endsS last with
    | true =>
      have e : scanA [] 0 s.length last = .good [⟨6, [59], s.length⟩, ⟨7, [], s.length⟩] := by simp [scanA, he]
      rw [e]
      exact ⟨[⟨6, [59], s.length⟩], rfl, ⟨Nat.le_refl _, Nat.le_refl _, trivial⟩, by intro t ht; simp at ht; subst ht; exact semi _, rfl⟩
    | false =>
      have e : scanA [] 0 s.length last = .good [⟨7, [], s.length⟩] := by simp [scanA, he]
      rw [e]
      exact ⟨[], rfl, trivial, by simp, he⟩
  intro m
  induction m with
  | zero =>
    intro a last h1 h2
    have : a = s.length := by omega
    subst this
    exact nil last
  | succ m ih =>
    intro a last h1 h2
    by_cases hea : a = s.length
    · subst hea; exact nil last
    have hlt : a < s.length := by omega
    have hcons : s.drop a = s[a] :: s.drop (a + 1) := List.drop_eq_getElem_cons hlt
    generalize hc : s[a] = c at hcons
    -- a step without a token
    have step : ∀ b, a < b → b ≤ s.length → scanA (s.drop a) 0 a last = scanA (s.drop b) 0 b last → (match scanA (s.drop a) 0 a last with
      | .bad e p => (e = 100 ∨ e = 101) ∧ a ≤ p ∧ p < s.length
      | .good l => ∃ ts, l = ts ++ [⟨7, [], s.length⟩] ∧ riseS s.length a ts ∧ (∀ t ∈ ts, fineS t ∧ t.text.length ≤ s.length + 1) ∧ endsS (lastOr last ts) = false) := by
      intro b hb1 hb2 he
      rw [he]
      have := ih b last (by omega) hb2
      revert this
      cases scanA (s.drop b) 0 b last with
      | bad e p => intro h; exact ⟨h.1, by omega, h.2.2⟩
      | good l => rintro ⟨ts, h, hc, hf⟩; exact ⟨ts, h, riseS_mono (by omega) hc, hf⟩
    -- a step with a token
    have stepT : ∀ b k t, a < b → b ≤ s.length → fineS ⟨k, t, a⟩ → t.length ≤ s.length + 1 → scanA (s.drop a) 0 a last = (scanA (s.drop b) 0 b (some ⟨k, t, a⟩)).cons ⟨k, t, a⟩ → (match scanA (s.drop a) 0 a last with
      | .bad e p => (e = 100 ∨ e = 101) ∧ a ≤ p ∧ p < s.length
      | .good l => ∃ ts, l = ts ++ [⟨7, [], s.length⟩] ∧ riseS s.length a ts ∧ (∀ t ∈ ts, fineS t ∧ t.text.length ≤ s.length + 1) ∧ endsS (lastOr last ts) = false) := by
      intro b k t hb1 hb2 hf ht he
      rw [he]
      have := ih b (some ⟨k, t, a⟩) (by omega) hb2
      revert this
      cases scanA (s.drop b) 0 b (some ⟨k, t, a⟩) with
      | bad e p => intro h; exact ⟨h.1, by omega, h.2.2⟩
      | good l =>
        rintro ⟨ts, h, hc, hfs, hen⟩
        refine ⟨⟨k, t, a⟩ :: ts, by rw [h]; rfl, ⟨Nat.le_refl _, by simp; omega, riseS_mono (by simp; omega) hc⟩, ?_, hen⟩
        intro y hy
        rcases List.mem_cons.1 hy with rfl | hy
        · exact ⟨hf, ht⟩
        · exact hfs y hy
    by_cases h10 : c.toNat = 10
    · cases he : endsS last with
      | true => exact stepT (a + 1) 6 [59] (by omega) (by omega) (semi a).1 (by simp) (by rw [hcons, scanA_nl_t _ _ _ _ h10 he])
      | false => exact step (a + 1) (by omega) (by omega) (by rw [hcons, scanA_nl_f _ _ _ _ h10 he])
    by_cases hw : c.toNat = 32 ∨ c.toNat = 9 ∨ c.toNat = 13
    · exact step (a + 1) (by omega) (by omega) (by rw [hcons, scanA_ws _ _ _ _ hw])
    cases hcm : comL (s.drop a) with
    | true =>
      have hp := overL_pos _ hcm
      have hl := overL_le (s.drop a)
      simp only [List.length_drop] at hl
      refine step (a + overL (s.drop a)) (by omega) (by omega) ?_
      have h := scanA_com c (s.drop (a + 1)) a last (by rw [← hcons]; exact hcm)
      rw [← hcons, List.drop_drop] at h
      exact h
    | false =>
      have h := scanA_tok c (s.drop (a + 1)) a last h10 hw (by rw [← hcons]; exact hcm)
      rw [← hcons] at h
      cases ht : tokS (s.drop a) with
      | bad e =>
        rw [ht] at h
        rw [h]
        exact ⟨tokS_bad _ _ ht, Nat.le_refl _, hlt⟩
      | good k t n =>
        rw [ht] at h
        simp only [List.drop_drop] at h
        have hn := tokS_le _ _ _ _ ht
        have htx := tokS_text ht
        simp only [List.length_drop] at hn
        exact stepT (a + n) k t (by omega) (by omega) (fine_of ht a) (by omega) h
theorem scan_back (ts : List Tok) : ∀ b last, (∀ t ∈ ts, fineS t) → endsS (lastOr last ts) = false → ∃ m, scanA (writS ts) 0 b last = .good m ∧ bare m = bare ts ++ [(7, [])] := by
  induction ts with
  | nil => intro b last _ he; exact ⟨[⟨7, [], b⟩], by simp only [lastOr] at he; simp [writS, scanA, he], rfl⟩
  | cons t ts ih =>
    intro b last hf he
    obtain ⟨k, tx, at_⟩ := t
    have hfine := hf _ List.mem_cons_self (writS ts)
    have e : writS (⟨k, tx, at_⟩ :: ts) = rendS k tx ++ 32 :: writS ts := by simp [writS]
    rw [e]
    have htok : tokS (rendS k tx ++ 32 :: writS ts) = .good k tx (rendS k tx).length := hfine.1
    have hcm : comL (rendS k tx ++ 32 :: writS ts) = false := hfine.2
    obtain ⟨c, r, hcr⟩ : ∃ c r, rendS k tx ++ 32 :: writS ts = c :: r := by
      cases h : rendS k tx ++ 32 :: writS ts with
      | nil => rw [h] at htok; cases htok
      | cons c r => exact ⟨c, r, rfl⟩
    have hh := tokS_head (c := c) (r := r) (by rw [← hcr]; exact htok)
    have h := scanA_tok c r b last hh.1 (by omega) (by rw [← hcr]; exact hcm)
    rw [← hcr, htok] at h
    rw [h]
    simp only [List.drop_left]
    rw [scanA_ws _ _ _ _ (.inl (by decide))]
    obtain ⟨m, hm, hb⟩ := ih (b + (rendS k tx).length + 1) (some ⟨k, tx, b⟩) (fun x hx => hf x (List.mem_cons_of_mem _ hx)) (by rw [ends_move k tx b at_]; exact he)
    rw [hm]
    refine ⟨_, rfl, ?_⟩
    simp only [bare, List.map_cons, List.cons_append] at hb ⊢
    rw [hb]
/-- THE PLAIN LAW OF ScanBack -/
theorem toksS_back (s : List UInt8) (l : List Tok) (h : toksS s = .good l) :
    s.length ≤ 65536 ∧ ∃ ts, l = ts ++ [⟨7, [], s.length⟩] ∧ riseS s.length 0 ts ∧ (∀ t ∈ ts, t.text.length ≤ s.length + 1) ∧ ((writS ts).length ≤ 65536 → ∃ m, toksS (writS ts) = .good m ∧ bare m = bare l) := by
  unfold toksS at h
  split at h
  · cases h
  · have := scan_shape s s.length 0 none (by omega) (by omega)
    simp only [List.drop_zero, h] at this
    obtain ⟨ts, h1, h2, h3, h4⟩ := this
    refine ⟨by omega, ts, h1, h2, fun t ht => (h3 t ht).2, fun hlen => ?_⟩
    obtain ⟨m, hm, hb⟩ := scan_back ts 0 none (fun t ht => (h3 t ht).1) h4
    refine ⟨m, ?_, by rw [hb, h1]; simp [bare]⟩
    unfold toksS
    rw [if_neg (by omega)]; exact hm
theorem toksS_bad (s : List UInt8) (e p : Nat) (h : toksS s = .bad e p) : e ≠ 0 ∧ e < 200 ∧ (p < s.length ∨ 65536 < s.length) ∧ p ≤ s.length := by
  unfold toksS at h
  split at h
  · cases h; omega
  · have := scan_shape s s.length 0 none (by omega) (by omega)
    simp only [List.drop_zero, h] at this
    omega
theorem rise_count {N : Nat} : ∀ (l : List Tok) (b : Nat), b ≤ N + 1 → riseS N b l → b + l.length ≤ N + 1
  | [], b, hb, _ => by simpa using hb
  | t :: l, b, hb, h => by
    have := rise_count l (t.at_ + 1) (by have := h.2.1; omega) h.2.2
    have h1 := h.1
    simp only [List.length_cons]; omega
end Go.Proofs.YtopbhopblpfjpaaGreatDoor.Scany
