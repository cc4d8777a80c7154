/- Comments ahead of line ends change nothing but places. Plain lists; no program in sight. -/
import Derived.Test.YtliddljdidofaaaDoorScanPlain3
namespace Go.Proofs.YtliddljdidofaaaDoor.Scany
open Go.Proofs.YtliddljdidofaaaDoor.Lexy

/-- what is put behind all -/
def tailL : List UInt8 := [9, 47, 47, 32, 48, 48, 55]
/-- what is put in a line end's place -/
def nlL : List UInt8 := [32, 47, 47, 32, 120, 34, 32, 0, 10]
/-- what is put ahead -/
def preL : List UInt8 := [9, 13, 32, 47, 47, 32, 103, 111, 10]
def phi : List UInt8 → List UInt8
  | [] => tailL
  | c :: r => if c.toNat = 10 then nlL ++ phi r else c :: phi r
theorem phi_nl {c : UInt8} (r : List UInt8) (h : c.toNat = 10) : phi (c :: r) = nlL ++ phi r := by simp [phi, h]
theorem phi_cons {c : UInt8} (r : List UInt8) (h : c.toNat ≠ 10) : phi (c :: r) = c :: phi r := by simp [phi, h]
/-- so many bytes are there, and no line's end among them -/
def clean (n : Nat) (r : List UInt8) : Prop := n ≤ r.length ∧ ∀ c ∈ r.take n, c.toNat ≠ 10
theorem phi_drop : ∀ (n : Nat) (r : List UInt8), clean n r → (phi r).drop n = phi (r.drop n) ∧ (phi r).take n = r.take n
  | 0, r, _ => by simp
  | n + 1, [], h => by have := h.1; simp at this
  | n + 1, c :: r, h => by
    have hc : c.toNat ≠ 10 := h.2 c (by simp)
    have := phi_drop n r ⟨by have := h.1; simp at this; omega, fun d hd => h.2 d (by simp [hd])⟩
    rw [phi_cons r hc]
    exact ⟨by simpa using this.1, by simpa using this.2⟩
theorem phi_head (p : Nat → Bool) (h0 : p 0 = p 9) (h10 : p 10 = p 32) (r : List UInt8) : p ((phi r).headD 0).toNat = p (r.headD 0).toNat := by
  cases r with
  | nil => exact h0.symm
  | cons c r =>
    by_cases hc : c.toNat = 10
    · rw [phi_nl r hc]
      show p 32 = p c.toNat
      rw [hc, h10]
    · rw [phi_cons r hc]; rfl
theorem runL_phi (r : List UInt8) : runL (phi r) = runL r := by
  induction r with
  | nil => rfl
  | cons c r ih =>
    by_cases hc : c.toNat = 10
    · rw [phi_nl r hc]; have : ldN c.toNat = false := by rw [hc]; rfl
      simp only [runL, this]; rfl
    · rw [phi_cons r hc]; simp only [runL, ih]
theorem digL_phi (r : List UInt8) : digL (phi r) = digL r := by
  induction r with
  | nil => rfl
  | cons c r ih =>
    by_cases hc : c.toNat = 10
    · rw [phi_nl r hc]; have : digN c.toNat = false := by rw [hc]; rfl
      simp only [digL, this]; rfl
    · rw [phi_cons r hc]; simp only [digL, ih]
theorem ld_ne {n : Nat} (h : ldN n = true) : n ≠ 10 := by rintro rfl; exact absurd h (by decide)
theorem dig_ne {n : Nat} (h : digN n = true) : n ≠ 10 := by rintro rfl; exact absurd h (by decide)
theorem clean_run (r : List UInt8) : clean (runL r) r := ⟨runL_le r, fun c hc => ld_ne (runL_all r c hc)⟩
theorem clean_dig (r : List UInt8) : clean (digL r) r := ⟨digL_le r, fun c hc => dig_ne (digL_all r c hc)⟩
theorem clean_add {n m : Nat} {r : List UInt8} (h : clean n r) (k : clean m (r.drop n)) : clean (n + m) r := by
  refine ⟨by have := h.1; have := k.1; simp at this; omega, fun c hc => ?_⟩
  rw [List.take_add] at hc
  rcases List.mem_append.1 hc with hc | hc
  · exact h.2 c hc
  · exact k.2 c hc
theorem clean_cons {c : UInt8} {r : List UInt8} {n : Nat} (hc : c.toNat ≠ 10) (h : clean n r) : clean (n + 1) (c :: r) :=
  ⟨by have := h.1; simp; omega, fun d hd => by
    rw [List.take_succ_cons] at hd
    rcases List.mem_cons.1 hd with rfl | hd
    · exact hc
    · exact h.2 d hd⟩
theorem clean_zero (r : List UInt8) : clean 0 r := ⟨by omega, by simp⟩
theorem pointL_phi (r : List UInt8) : pointL (phi r) = pointL r := by
  cases r with
  | nil => rfl
  | cons c r =>
    by_cases hc : c.toNat = 10
    · rw [phi_nl r hc]
      simp [pointL, hc, nlL]
    · rw [phi_cons r hc]
      have := phi_head digN rfl rfl r
      show (decide (c.toNat = 46) && digN ((phi r).headD 0).toNat) = (decide (c.toNat = 46) && digN (r.headD 0).toNat)
      rw [this]
theorem num_phi (r : List UInt8) : clean (numLen r) r ∧ numLen (phi r) = numLen r ∧ numCnt (phi r) = numCnt r ∧ numBad (phi r) = numBad r ∧ pointL ((phi r).drop (digL (phi r))) = pointL (r.drop (digL r)) := by
  have hd := digL_phi r
  have h1 := phi_drop _ _ (clean_dig r)
  have hp : pointL ((phi r).drop (digL (phi r))) = pointL (r.drop (digL r)) := by rw [hd, h1.1, pointL_phi]
  have key : clean (numLen r) r ∧ numLen (phi r) = numLen r ∧ numCnt (phi r) = numCnt r := by
    cases hpt : pointL (r.drop (digL r)) with
    | false =>
      rw [hpt] at hp
      have e1 : numLen r = digL r := by unfold numLen; rw [hpt]; rfl
      have e2 : numLen (phi r) = digL r := by unfold numLen; rw [hp, hd]; rfl
      have e3 : numCnt r = digL r := by unfold numCnt; rw [hpt]; rfl
      have e4 : numCnt (phi r) = digL r := by unfold numCnt; rw [hp, hd]; rfl
      exact ⟨by rw [e1]; exact clean_dig r, by rw [e1, e2], by rw [e3, e4]⟩
    | true =>
      rw [hpt] at hp
      obtain ⟨x, y, z, hxyz, hx, hy⟩ := point_cons hpt
      have hc1 : clean (digL r + 1) r := clean_add (clean_dig r) (by rw [hxyz]; exact clean_cons (by omega) (clean_zero _))
      have h2 := phi_drop _ _ hc1
      have hdd := digL_phi (r.drop (digL r + 1))
      have e1 : numLen r = digL r + 1 + digL (r.drop (digL r + 1)) := by unfold numLen; rw [hpt]; rfl
      have e2 : numLen (phi r) = digL r + 1 + digL (r.drop (digL r + 1)) := by unfold numLen; rw [hp, hd, h2.1, hdd]; rfl
      have e3 : numCnt r = digL r + digL (r.drop (digL r + 1)) := by unfold numCnt; rw [hpt]; rfl
      have e4 : numCnt (phi r) = digL r + digL (r.drop (digL r + 1)) := by unfold numCnt; rw [hp, hd, h2.1, hdd]; rfl
      exact ⟨by rw [e1]; exact clean_add hc1 (clean_dig _), by rw [e1, e2], by rw [e3, e4]⟩
  refine ⟨key.1, key.2.1, key.2.2, ?_, hp⟩
  have h3 := phi_drop _ _ key.1
  unfold numBad
  rw [hd, key.2.2, key.2.1, h3.1]
  have a1 := phi_head (fun n => decide (n = 48)) rfl rfl r
  have a2 := phi_head (fun n => decide (n = 46)) rfl rfl (r.drop (numLen r))
  have a3 := phi_head letN rfl rfl (r.drop (numLen r))
  rw [a1, a2, a3]
theorem dolL_phi (r : List UInt8) {t : List UInt8} {n : Nat} (h : dolL r = some (t, n)) : dolL (phi r) = some (t, n) ∧ ∃ m, n = m + 1 ∧ clean m r := by
  have a1 := phi_head (fun n => decide (n = 36)) rfl rfl r
  have a2 := phi_head (fun n => decide (n = 48)) rfl rfl r
  have h1 := phi_drop _ _ (clean_dig r)
  have a3 := phi_head letN rfl rfl (r.drop (digL r))
  simp only [decide_eq_decide] at a1 a2
  have e : dolL (phi r) = dolL r := by
    unfold dolL
    rw [digL_phi, h1.1, h1.2, a3]
    simp only [a1, a2]
  refine ⟨by rw [e]; exact h, ?_⟩
  unfold dolL at h
  split at h
  · rename_i h36
    cases h
    refine ⟨1, rfl, ?_⟩
    cases r with
    | nil => simp at h36
    | cons c r => exact clean_cons (by simp at h36; omega) (clean_zero _)
  · split at h
    · cases h
    · cases h; exact ⟨_, rfl, clean_dig r⟩
theorem pairL_phi (r : List UInt8) {b : UInt8} {n : Nat} (h : pairL r = some (b, n)) : pairL (phi r) = some (b, n) ∧ clean n r := by
  cases r with
  | nil => simp [pairL] at h
  | cons c r =>
    have hc : c.toNat ≠ 10 := by
      intro hc
      simp [pairL, hc] at h
    rw [phi_cons r hc]
    have one := clean_cons (r := r) hc (clean_zero _)
    simp only [pairL] at h ⊢
    split at h
    · rename_i h1; cases h; exact ⟨by rw [if_pos h1], one⟩
    · rename_i h1
      rw [if_neg h1]
      split at h
      · rename_i h2; cases h; exact ⟨by rw [if_pos h2], one⟩
      · rename_i h2
        rw [if_neg h2]
        split at h
        · rename_i h3; cases h; exact ⟨by rw [if_pos h3], one⟩
        · rename_i h3
          rw [if_neg h3]
          split at h
          · rename_i h4; cases h; exact ⟨by rw [if_pos h4], one⟩
          · rename_i h4
            rw [if_neg h4]
            split at h
            · rename_i h5; cases h; exact ⟨by rw [if_pos h5], one⟩
            · rename_i h5
              rw [if_neg h5]
              split at h
              · rename_i h6
                obtain ⟨h7, h8, h9⟩ := h6
                match r, h, h8, h9 with
                | [], h, h8, _ => exact absurd h8 (by decide)
                | [x], h, _, h9 => exact absurd (show hexN (0 : UInt8).toNat < 16 from h9) (by decide)
                | x :: y :: z, h, h8, h9 =>
                  have hx : x.toNat ≠ 10 := by intro e; have h8 : hexN x.toNat < 16 := h8; rw [e] at h8; exact absurd h8 (by decide)
                  have hy : y.toNat ≠ 10 := by intro e; have h9 : hexN y.toNat < 16 := h9; rw [e] at h9; exact absurd h9 (by decide)
                  rw [phi_cons _ hx, phi_cons _ hy]
                  cases h
                  refine ⟨?_, clean_cons hc (clean_cons hx (clean_cons hy (clean_zero _)))⟩
                  rw [if_pos ⟨h7, h8, h9⟩]; rfl
              · cases h
theorem strL_phi : ∀ (m : Nat) (r : List UInt8), r.length ≤ m → ∀ t n, strL r 0 = some (t, n) → strL (phi r) 0 = some (t, n) ∧ clean n r
  | 0, r, hm, t, n, h => by
    obtain rfl : r = [] := List.eq_nil_of_length_eq_zero (by omega)
    simp [strL] at h
  | m + 1, [], _, t, n, h => by simp [strL] at h
  | m + 1, c :: r, hm, t, n, h => by
    simp only [List.length_cons] at hm
    simp only [strL] at h
    split at h
    · rename_i h34
      cases h
      have hc : c.toNat ≠ 10 := by omega
      rw [phi_cons r hc]
      exact ⟨by simp [strL, h34], clean_cons hc (clean_zero _)⟩
    · rename_i h34
      split at h
      · cases h
      · rename_i hodd
        have hc : c.toNat ≠ 10 := by omega
        rw [phi_cons r hc]
        simp only [strL]
        rw [if_neg h34, if_neg hodd]
        split at h
        · rename_i h92
          rw [if_pos h92]
          split at h
          · cases h
          · rename_i b k hp
            obtain ⟨hp2, hcl⟩ := pairL_phi r hp
            have hk := pairL_le _ _ _ hp
            have hk2 := pairL_le _ _ _ hp2
            rw [strL_skip r k hk.2, Option.map_map] at h
            cases hs : strL (r.drop k) 0 with
            | none => simp [hs] at h
            | some x =>
              obtain ⟨xt, xn⟩ := x
              have hi := strL_phi m (r.drop k) (by simp; omega) xt xn hs
              rw [hp2]
              simp only
              rw [strL_skip (phi r) k hk2.2, (phi_drop _ _ hcl).1, hi.1]
              simp only [hs, Option.map_some, Function.comp, Option.some.injEq, Prod.mk.injEq] at h
              obtain ⟨rfl, rfl⟩ := h
              refine ⟨rfl, ?_⟩
              have := clean_cons hc (clean_add hcl hi.2)
              rw [show k + xn + 1 = xn + k + 1 by omega] at this
              exact this
        · rename_i h92
          rw [if_neg h92]
          cases hs : strL r 0 with
          | none => simp [hs] at h
          | some x =>
            obtain ⟨xt, xn⟩ := x
            have hi := strL_phi m r (by omega) xt xn hs
            rw [hi.1]
            simp only [hs, Option.map_some, Option.some.injEq, Prod.mk.injEq] at h
            obtain ⟨rfl, rfl⟩ := h
            exact ⟨rfl, clean_cons hc hi.2⟩
theorem pre_phi : ∀ (p : List UInt8), (∀ x ∈ p, x ≠ 9 ∧ x ≠ 10 ∧ x ≠ 32) → ∀ r, p.isPrefixOf (phi r) = p.isPrefixOf r
  | [], _, r => by simp
  | x :: p, h, r => by
    obtain ⟨h9, h10, h32⟩ := h x List.mem_cons_self
    cases r with
    | nil =>
      have : (x == 9) = false := beq_eq_false_iff_ne.2 h9
      simp [phi, tailL, List.isPrefixOf, this]
    | cons c r =>
      by_cases hc : c.toNat = 10
      · rw [phi_nl r hc]
        have hc' := u8_eq hc
        subst hc'
        have e1 : (x == 32) = false := beq_eq_false_iff_ne.2 h32
        have e2 : (x == UInt8.ofNat 10) = false := beq_eq_false_iff_ne.2 h10
        simp only [nlL, List.cons_append, List.isPrefixOf, e1, e2, Bool.false_and]
      · rw [phi_cons r hc]
        simp only [List.isPrefixOf_cons_cons]
        rw [pre_phi p (fun y hy => h y (List.mem_cons_of_mem _ hy)) r]
theorem first_phi {L : List (List UInt8)} (hL : ∀ p ∈ L, ∀ x ∈ p, x ≠ 9 ∧ x ≠ 10 ∧ x ≠ 32) (r : List UInt8) : firstL L (phi r) = firstL L r := by
  unfold firstL
  congr 1
  induction L with
  | nil => rfl
  | cons p L ih =>
    simp only [List.find?_cons]
    rw [pre_phi p (hL p List.mem_cons_self) r, ih fun q hq => hL q (List.mem_cons_of_mem _ hq)]
theorem signs_plain : ∀ p ∈ signsS, ∀ x ∈ p, x ≠ 9 ∧ x ≠ 10 ∧ x ≠ 32 := by decide
theorem odd_plain : ∀ p ∈ oddS, ∀ x ∈ p, x ≠ 9 ∧ x ≠ 10 ∧ x ≠ 32 := by decide
theorem tokS_phi {r : List UInt8} {k n : Nat} {t : List UInt8} (h : tokS r = .good k t n) : tokS (phi r) = .good k t n ∧ clean n r := by
  cases r with
  | nil => cases h
  | cons c r =>
    have hh := tokS_head h
    have hc := hh.1
    have e := phi_cons r hc
    have hr := runL_phi (c :: r)
    have hrd := phi_drop _ _ (clean_run (c :: r))
    obtain ⟨n1, n2, n3, n4, n5⟩ := num_phi (c :: r)
    have hnd := phi_drop _ _ n1
    have f1 := first_phi signs_plain (c :: r)
    have f2 := first_phi odd_plain (c :: r)
    have hcr := clean_run (c :: r)
    rw [e] at hr hrd n2 n3 n4 n5 hnd f1 f2 ⊢
    simp only [tokS] at h ⊢
    rw [hr, hrd.2, n4, n5, n2, hnd.2, f1, f2]
    split at h
    · rename_i hl
      rw [if_pos hl]
      split at h
      · rename_i hw
        rw [if_pos hw]
        cases h
        exact ⟨rfl, hcr⟩
      · rename_i hw
        rw [if_neg hw]
        split at h
        · cases h
        · rename_i hw2
          rw [if_neg hw2]
          cases h
          exact ⟨rfl, hcr⟩
    · rename_i hl
      rw [if_neg hl]
      split at h
      · rename_i hd
        rw [if_pos hd]
        split at h
        · cases h
        · rename_i hb
          rw [if_neg hb]
          cases h
          exact ⟨rfl, n1⟩
      · rename_i hd
        rw [if_neg hd]
        split at h
        · rename_i h34
          rw [if_pos h34]
          split at h
          · cases h
          · rename_i x y hs
            have hi := strL_phi _ r (Nat.le_refl _) _ _ hs
            cases h
            rw [hi.1]
            exact ⟨rfl, clean_cons hc hi.2⟩
        · rename_i h34
          rw [if_neg h34]
          split at h
          · rename_i h36
            rw [if_pos h36]
            split at h
            · cases h
            · rename_i x y hs
              obtain ⟨hi, m, rfl, hcl⟩ := dolL_phi r hs
              cases h
              rw [hi]
              exact ⟨rfl, clean_cons hc hcl⟩
          · rename_i h36
            rw [if_neg h36]
            split at h
            · cases h
            · rename_i ho
              rw [if_neg ho]
              split at h
              · cases h
              · rename_i hs
                rw [if_neg hs]
                have hp := firstL_pre signsS (c :: r) hs
                cases h
                refine ⟨rfl, ?_⟩
                have hpre := List.isPrefixOf_iff_prefix.1 hp.2
                refine ⟨hpre.length_le, fun d hd => ?_⟩
                rw [← List.prefix_iff_eq_take.1 hpre] at hd
                intro h10
                have := (signs_plain _ hp.1 d hd).2.1
                exact this (u8_eq h10)
theorem comL_phi (r : List UInt8) : comL (phi r) = comL r := by
  cases r with
  | nil => rfl
  | cons c r =>
    by_cases hc : c.toNat = 10
    · rw [phi_nl r hc]
      cases r <;> simp [comL, nlL, hc]
    · rw [phi_cons r hc]
      cases r with
      | nil => simp [phi, tailL, comL]
      | cons d r =>
        by_cases hd : d.toNat = 10
        · rw [phi_nl r hd]; simp [comL, nlL, hd]
        · rw [phi_cons r hd]; simp [comL]
theorem over_phi (r : List UInt8) : (∃ c q, c.toNat = 10 ∧ r.drop (overL r) = c :: q ∧ (phi r).drop (overL (phi r)) = 10 :: phi q) ∨ (r.drop (overL r) = [] ∧ (phi r).drop (overL (phi r)) = []) := by
  induction r with
  | nil => exact .inr ⟨rfl, rfl⟩
  | cons c r ih =>
    by_cases hc : c.toNat = 10
    · refine .inl ⟨c, r, hc, ?_, ?_⟩
      · simp [overL, hc]
      · rw [phi_nl r hc]; simp [nlL, overL]
    · rw [phi_cons r hc]
      have e1 : overL (c :: r) = overL r + 1 := by simp [overL, hc]
      have e2 : overL (c :: phi r) = overL (phi r) + 1 := by simp [overL, hc]
      rw [e1, e2]
      simpa using ih
theorem cons_good {r : Res} {t : Tok} {l : List Tok} (h : r.cons t = .good l) : ∃ m, r = .good m ∧ l = t :: m := by
  cases r with
  | bad x p => cases h
  | good m => cases h; exact ⟨m, rfl, rfl⟩
theorem scan_phi : ∀ (m : Nat) (r : List UInt8) (a b : Nat) (last last' : Option Tok) (l : List Tok), r.length ≤ m → endsS last = endsS last' → scanA r 0 a last = .good l → ∃ l', scanA (phi r) 0 b last' = .good l' ∧ bare l' = bare l := by
  -- the end
  have fin : ∀ (a b : Nat) (last last' : Option Tok) (l : List Tok), endsS last = endsS last' → scanA [] 0 a last = .good l → ∃ l', scanA [] 0 b last' = .good l' ∧ bare l' = bare l := by
    intro a b last last' l he h
    cases hl : endsS last with
    | true =>
      rw [hl] at he
      have e1 : scanA [] 0 a last = .good [⟨6, [59], a⟩, ⟨7, [], a⟩] := by simp [scanA, hl]
      have e2 : scanA [] 0 b last' = .good [⟨6, [59], b⟩, ⟨7, [], b⟩] := by simp [scanA, ← he]
      rw [e1] at h; cases h
      exact ⟨_, e2, rfl⟩
    | false =>
      rw [hl] at he
      have e1 : scanA [] 0 a last = .good [⟨7, [], a⟩] := by simp [scanA, hl]
      have e2 : scanA [] 0 b last' = .good [⟨7, [], b⟩] := by simp [scanA, ← he]
      rw [e1] at h; cases h
      exact ⟨_, e2, rfl⟩
  intro m
  induction m with
  | zero =>
    intro r a b last last' l hm he h
    obtain rfl : r = [] := List.eq_nil_of_length_eq_zero (by omega)
    show ∃ l', scanA tailL 0 b last' = .good l' ∧ _
    have e1 : scanA tailL 0 b last' = scanA [47, 47, 32, 48, 48, 55] 0 (b + 1) last' := scanA_ws 9 _ b last' (.inr (.inl rfl))
    have e2 := scanA_com 47 [47, 32, 48, 48, 55] (b + 1) last' rfl
    rw [e1, e2]
    exact fin a _ last last' l he h
  | succ m ih =>
    intro r a b last last' l hm he h
    -- a line's end, on both sides
    have nl : ∀ (c : UInt8) (q : List UInt8) (a b : Nat) (l : List Tok), c.toNat = 10 → q.length ≤ m → scanA (c :: q) 0 a last = .good l → ∃ l', scanA (10 :: phi q) 0 b last' = .good l' ∧ bare l' = bare l := by
      intro c q a b l hc hq h
      cases hl : endsS last with
      | true =>
        rw [scanA_nl_t _ _ _ _ hc hl] at h
        obtain ⟨m', h1, rfl⟩ := cons_good h
        rw [scanA_nl_t 10 _ _ _ rfl (by rw [← he, hl])]
        obtain ⟨l', h2, h3⟩ := ih q (a + 1) (b + 1) (some ⟨6, [59], a⟩) (some ⟨6, [59], b⟩) m' hq rfl h1
        rw [h2]
        exact ⟨_, rfl, by simp only [bare, List.map_cons] at h3 ⊢; rw [h3]⟩
      | false =>
        rw [scanA_nl_f _ _ _ _ hc hl] at h
        rw [scanA_nl_f 10 _ _ _ rfl (by rw [← he, hl])]
        exact ih q (a + 1) (b + 1) _ _ l hq he h
    cases r with
    | nil =>
      show ∃ l', scanA tailL 0 b last' = .good l' ∧ _
      have e1 : scanA tailL 0 b last' = scanA [47, 47, 32, 48, 48, 55] 0 (b + 1) last' := scanA_ws 9 _ b last' (.inr (.inl rfl))
      have e2 := scanA_com 47 [47, 32, 48, 48, 55] (b + 1) last' rfl
      rw [e1, e2]
      exact fin a _ last last' l he h
    | cons c r =>
      simp only [List.length_cons] at hm
      by_cases hc : c.toNat = 10
      · rw [phi_nl r hc]
        have e1 : scanA (nlL ++ phi r) 0 b last' = scanA ([47, 47, 32, 120, 34, 32, 0, 10] ++ phi r) 0 (b + 1) last' := scanA_ws 32 _ b last' (.inl rfl)
        have e2 := scanA_com 47 ([47, 32, 120, 34, 32, 0, 10] ++ phi r) (b + 1) last' rfl
        have e3 : (47 :: ([47, 32, 120, 34, 32, 0, 10] ++ phi r)).drop (overL (47 :: ([47, 32, 120, 34, 32, 0, 10] ++ phi r))) = 10 :: phi r := by simp [overL]
        rw [e1]
        show ∃ l', scanA (47 :: ([47, 32, 120, 34, 32, 0, 10] ++ phi r)) 0 (b + 1) last' = .good l' ∧ _
        rw [e2, e3]
        exact nl c r a _ l hc (by omega) h
      · have e := phi_cons r hc
        by_cases hw : c.toNat = 32 ∨ c.toNat = 9 ∨ c.toNat = 13
        · rw [scanA_ws _ _ _ _ hw] at h
          rw [e, scanA_ws _ _ _ _ hw]
          exact ih r (a + 1) (b + 1) _ _ l (by omega) he h
        · cases hcm : comL (c :: r) with
          | true =>
            have hcm2 : comL (c :: phi r) = true := by rw [← e, comL_phi]; exact hcm
            rw [scanA_com _ _ _ _ hcm] at h
            rw [e, scanA_com _ _ _ _ hcm2]
            have hov := overL_pos _ hcm
            have hol := overL_le (c :: r)
            rw [← e]
            rcases over_phi (c :: r) with ⟨d, q, hd, h1, h2⟩ | ⟨h1, h2⟩
            · rw [h1] at h
              rw [h2]
              have hq := congrArg List.length h1
              simp only [List.length_drop, List.length_cons] at hq
              exact nl d q _ _ l hd (by omega) h
            · rw [h1] at h
              rw [h2]
              exact fin _ _ last last' l he h
          | false =>
            have hcm2 : comL (c :: phi r) = false := by rw [← e, comL_phi]; exact hcm
            rw [scanA_tok c r a last hc hw hcm] at h
            rw [e, scanA_tok c (phi r) b last' hc hw hcm2]
            cases ht : tokS (c :: r) with
            | bad x => rw [ht] at h; cases h
            | good k t n =>
              rw [ht] at h
              simp only at h
              obtain ⟨hp, hcl⟩ := tokS_phi ht
              have hn := tokS_le _ _ _ _ ht
              have hdr := (phi_drop _ _ hcl).1
              rw [e] at hp hdr
              rw [hp]
              simp only
              rw [hdr]
              obtain ⟨m', h1, rfl⟩ := cons_good h
              obtain ⟨l', h2, h3⟩ := ih ((c :: r).drop n) (a + n) (b + n) (some ⟨k, t, a⟩) (some ⟨k, t, b⟩) m' (by simp only [List.length_drop, List.length_cons]; omega) rfl h1
              rw [h2]
              exact ⟨_, rfl, by simp only [bare, List.map_cons] at h3 ⊢; rw [h3]⟩
/-- THE PLAIN LAW OF ScanLines -/
theorem toksS_lines (s : List UInt8) (l : List Tok) (h : toksS s = .good l) (hs : (preL ++ phi s).length ≤ 65536) : ∃ m, toksS (preL ++ phi s) = .good m ∧ bare m = bare l := by
  unfold toksS at h
  split at h
  · cases h
  · unfold toksS
    rw [if_neg (by omega)]
    have e1 : scanA (preL ++ phi s) 0 0 none = scanA ([13, 32, 47, 47, 32, 103, 111, 10] ++ phi s) 0 1 none := scanA_ws 9 _ 0 none (.inr (.inl rfl))
    have e2 : scanA ([13, 32, 47, 47, 32, 103, 111, 10] ++ phi s) 0 1 none = scanA ([32, 47, 47, 32, 103, 111, 10] ++ phi s) 0 2 none := scanA_ws 13 _ 1 none (.inr (.inr rfl))
    have e3 : scanA ([32, 47, 47, 32, 103, 111, 10] ++ phi s) 0 2 none = scanA ([47, 47, 32, 103, 111, 10] ++ phi s) 0 3 none := scanA_ws 32 _ 2 none (.inl rfl)
    have e4 := scanA_com 47 ([47, 32, 103, 111, 10] ++ phi s) 3 none rfl
    have e5 : (47 :: ([47, 32, 103, 111, 10] ++ phi s)).drop (overL (47 :: ([47, 32, 103, 111, 10] ++ phi s))) = 10 :: phi s := by simp [overL]
    rw [e5] at e4
    rw [e1, e2, e3]
    show ∃ m, scanA (47 :: ([47, 32, 103, 111, 10] ++ phi s)) 0 3 none = .good m ∧ _
    rw [e4, scanA_nl_f 10 _ _ none rfl rfl]
    exact scan_phi _ s 0 _ none none l (Nat.le_refl _) rfl h
/-- how many line ends -/
def nlCount (s : List UInt8) : Nat := (s.filter fun c => c == 10).length
theorem phi_len (s : List UInt8) : (phi s).length = s.length + 8 * nlCount s + 7 := by
  induction s with
  | nil => rfl
  | cons c r ih =>
    by_cases hc : c.toNat = 10
    · rw [phi_nl r hc]
      have := u8_eq hc; subst this
      simp [nlCount, nlL] at ih ⊢
      omega
    · rw [phi_cons r hc]
      have : (c == 10) = false := beq_eq_false_iff_ne.2 (by rintro rfl; exact hc rfl)
      simp [nlCount, this] at ih ⊢
      omega
end Go.Proofs.YtliddljdidofaaaDoor.Scany
