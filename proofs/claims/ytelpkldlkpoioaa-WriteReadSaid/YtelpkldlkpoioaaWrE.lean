/- What is written of a text, what may be, and that its bytes are its tokens. Plain. -/
import Derived.Test.YtelpkldlkpoioaaWrD
namespace Go.Proofs.Ytelpkldlkpoioaa.WrE
open Go.Proofs.Ytelpkldlkpoioaa.Lexy Go.Proofs.Ytelpkldlkpoioaa.Ready Go.Proofs.Ytelpkldlkpoioaa.WrA Go.Proofs.Ytelpkldlkpoioaa.WrB Go.Proofs.Ytelpkldlkpoioaa.WrC Go.Proofs.Ytelpkldlkpoioaa.WrD

/-! ### one token -/
/-- a source is one token, of a kind, of this text -/
def oneB (s : List UInt8) (k : Nat) (t : List UInt8) : Bool :=
  match toks s with
  | .good l => decide (l.length = 2) && (decide ((tok l 0).kind = k) && decide ((tok l 0).text = t))
  | .bad _ _ => false
def nameB (s : List UInt8) : Bool := oneB s 2 s
def actB (a : List UInt8) : Bool := oneB (123 :: (a ++ [125])) 9 a
theorem name_tok {s x : List UInt8} {n : Nat} (h : tokL (s ++ 32 :: x) = .good 2 s n) : NameL s := by
  cases hs : s ++ 32 :: x with
  | nil => simp at hs
  | cons c r =>
    rw [hs] at h
    simp only [tokL] at h
    split at h
    · rename_i hc
      split at h
      · cases h
      · rename_i hr
        simp only [One.good.injEq, true_and] at h
        have hle := runL_le (c :: r)
        have hpos : 1 ≤ runL (c :: r) := by
          unfold runL
          have : ldN c.toNat = true := by unfold ldN; rw [hc]; rfl
          simp [this]
        have hl := congrArg List.length h.1
        rw [List.length_take] at hl
        refine ⟨?_, ?_, by omega⟩
        · obtain ⟨m, hm⟩ : ∃ m, runL (c :: r) = m + 1 := ⟨runL (c :: r) - 1, by omega⟩
          rw [hm, List.take_succ_cons] at h
          exact ⟨c, r.take m, h.1.symm, hc⟩
        · rw [← h.1]; exact runL_all _
    · split at h
      · split at h
        · cases h
        · split at h <;> cases h
      · split at h
        · split at h <;> cases h
        · split at h <;> cases h
theorem fine_name {t : Tok} (h : t.fine) (hk : t.kind = 2) : NameL t.text := by
  have := h.2 []
  rw [hk] at this
  exact name_tok (s := t.text) this
theorem name_iff {s : List UInt8} : nameB s = true ↔ NameL s := by
  unfold nameB oneB
  constructor
  · intro h
    cases ht : toks s with
    | bad e p => rw [ht] at h; cases h
    | good l =>
      rw [ht] at h
      simp only [Bool.and_eq_true, decide_eq_true_eq] at h
      obtain ⟨h1, h2, h3⟩ := h
      obtain ⟨ts, rfl, hc, hf, hs⟩ := toks_shape ht
      cases ts with
      | nil => simp at h1
      | cons t r =>
        have hk : t.kind = 2 := h2
        have hx : t.text = s := h3
        rw [← hx]
        exact fine_name (hf t (List.mem_cons_self ..)) hk
  · intro h
    obtain ⟨ts, h1, h2⟩ := lx_name h [] 0 (by intro c hc; cases hc)
    rw [List.append_nil] at h2
    have : toks s = .good (ts ++ [⟨7, [], 0 + s.length⟩]) := by
      unfold toks
      rw [if_neg (by have := h.len; omega), h2]
      show Lexy.ahead ts (.good [⟨7, [], 0 + s.length⟩]) = _
      rw [ahead_good]
    rw [this]
    cases ts with
    | nil => simp [bare] at h1
    | cons t r =>
      cases r with
      | cons u r => simp [bare] at h1
      | nil =>
        simp only [bare, List.map_cons, List.map_nil, List.cons.injEq, Prod.mk.injEq, and_true] at h1
        simp [tok, h1.1, h1.2]
theorem act_inner {a : List UInt8} (h : actB a = true) : Inner a := by
  unfold actB oneB at h
  cases ht : toks (123 :: (a ++ [125])) with
  | bad e p => rw [ht] at h; cases h
  | good l =>
    rw [ht] at h
    simp only [Bool.and_eq_true, decide_eq_true_eq] at h
    obtain ⟨h1, h2, h3⟩ := h
    match l, h1 with
    | [t, e], _ => exact one_inner a t e ht ⟨h2, h3⟩
theorem inner_act {a : List UInt8} (h : Inner a) (hl : a.length ≤ 65534) : actB a = true := by
  have := inner_one a h hl
  unfold oneL at this
  unfold actB oneB
  rw [this]; simp [tok]
/-! ### what is written -/
def blanks (l : List (List UInt8)) : List UInt8 := l.flatMap fun s => 32 :: s
def wrTy (t : List UInt8) : List UInt8 := if t = [] then [] else 32 :: 60 :: (t ++ [62])
def wrD (d : De) : List UInt8 := 37 :: (d.kind ++ (wrTy d.type ++ (blanks d.names ++ [59, 10])))
def wrL (l : List Wd) : List UInt8 := l.flatMap fun x => 32 :: wrW x
def wrPrec (p : List UInt8) : List UInt8 := if p = [] then [] else 32 :: 37 :: (precT ++ 32 :: p)
def wrAct (has : Bool) (a : List UInt8) : List UInt8 := if has = true then 32 :: 123 :: (a ++ [125]) else []
def wrA (a : Al) : List UInt8 := wrL a.words ++ (wrPrec a.prec ++ (wrAct a.has a.action ++ [10]))
def wrNs : List (List UInt8) → List UInt8
  | [] => [41]
  | p :: ps => 44 :: 32 :: (p ++ wrNs ps)
def wrN : List (List UInt8) → List UInt8
  | [] => []
  | p :: ps => 40 :: (p ++ wrNs ps)
def wrAs (l : List Al) : List UInt8 := l.flatMap fun a => 9 :: 124 :: wrA a
def wrAlts : List Al → List UInt8
  | [] => []
  | a :: l => 58 :: (wrA a ++ wrAs l)
def wrR (r : Ru) : List UInt8 := r.name ++ (wrN r.params ++ (wrAlts r.alts ++ [9, 59, 10]))
def wrT (x : Tx) : List UInt8 := x.decls.flatMap wrD ++ (37 :: 37 :: 10 :: x.rules.flatMap wrR)
/-! ### what may be -/
def othersL : List (List UInt8) := [[108, 101, 102, 116], [114, 105, 103, 104, 116], [110, 111, 110, 97, 115, 115, 111, 99], [115, 116, 97, 114, 116]]
def kindB (d : De) : Bool := decide (d.kind = tokenT) || (decide (d.kind = typeT) && decide (d.type ≠ [])) || (decide (d.kind ∈ othersL) && decide (d.type = []))
def okD (d : De) : Bool := kindB d && (decide (d.names ≠ []) && ((decide (d.type = []) || nameB d.type) && d.names.all nameB))
mutual
def okW (d : Nat) : Wd → Bool
  | .mk n xs _ => decide (d ≤ 60) && (nameB n && okWs (d + 1) xs)
def okWs (d : Nat) : List Wd → Bool
  | [] => true
  | x :: xs => okW d x && okWs d xs
end
def okA (a : Al) : Bool := a.words.all (okW 0) && ((decide (a.prec = []) || nameB a.prec) && ((a.has || decide (a.action = [])) && (!a.has || actB a.action)))
def okR (r : Ru) : Bool := decide (r.alts ≠ []) && (nameB r.name && (r.params.all nameB && r.alts.all okA))
def okT (x : Tx) : Bool := x.decls.all okD && x.rules.all okR
mutual
theorem okW_nest : ∀ (x : Wd) (d : Nat), okW d x = true → nestW d x = true ∧ namedW x
  | .mk n xs z, d, h => by
    rw [okW] at h
    simp only [Bool.and_eq_true, decide_eq_true_eq] at h
    obtain ⟨h1, h2⟩ := okWs_nest xs (d + 1) h.2.2
    exact ⟨by rw [nestW]; simp [h.1, h1], by rw [namedW]; exact ⟨name_iff.1 h.2.1, h2⟩⟩
theorem okWs_nest : ∀ (xs : List Wd) (d : Nat), okWs d xs = true → nestWs d xs = true ∧ namedWs xs
  | [], d, _ => ⟨by rw [nestWs], by rw [namedWs]; trivial⟩
  | x :: xs, d, h => by
    rw [okWs, Bool.and_eq_true] at h
    obtain ⟨h1, h2⟩ := okW_nest x d h.1
    obtain ⟨h3, h4⟩ := okWs_nest xs d h.2
    exact ⟨by rw [nestWs, h1, h3]; rfl, by rw [namedWs]; exact ⟨h2, h4⟩⟩
end
theorem okA_fine {a : Al} (h : okA a = true) : FineA a := by
  unfold okA at h
  simp only [Bool.and_eq_true, Bool.or_eq_true, List.all_eq_true, decide_eq_true_eq] at h
  exact ⟨fun x hx => (okW_nest x 0 (h.1 x hx)).1, h.2.2.1⟩
theorem okR_fine {r : Ru} (h : okR r = true) : FineR r := by
  unfold okR at h
  simp only [Bool.and_eq_true, List.all_eq_true, decide_eq_true_eq] at h
  exact ⟨h.1, fun a ha => okA_fine (h.2.2.2 a ha)⟩
theorem kind_word {d : De} (h : kindB d = true) : d.kind ∈ wordsL ∧ d.kind ≠ precT ∧ (d.kind = typeT → d.type ≠ []) ∧ (d.type ≠ [] → d.kind = typeT ∨ d.kind = tokenT) := by
  unfold kindB at h
  simp only [Bool.or_eq_true, Bool.and_eq_true, decide_eq_true_eq] at h
  rcases h with (h | h) | h
  · rw [h]; exact ⟨by decide, by decide, fun e => absurd e (by decide), fun _ => .inr rfl⟩
  · rw [h.1]; exact ⟨by decide, by decide, fun _ => h.2, fun _ => .inl rfl⟩
  · have := h.1
    simp only [othersL, List.mem_cons, List.not_mem_nil, or_false] at this
    refine ⟨?_, ?_, fun e => absurd e ?_, fun e => absurd h.2 e⟩ <;> rcases this with e | e | e | e <;> rw [e] <;> decide
theorem okD_fine {d : De} (h : okD d = true) : FineD d := by
  unfold okD at h
  simp only [Bool.and_eq_true, decide_eq_true_eq] at h
  obtain ⟨h1, h2, h3, h4⟩ := kind_word h.1
  exact ⟨h2, h.2.1, h3, h4⟩
theorem okT_fine {x : Tx} (h : okT x = true) : FineT x := by
  unfold okT at h
  simp only [Bool.and_eq_true, List.all_eq_true] at h
  exact ⟨fun d hd => okD_fine (h.1 d hd), fun r hr => okR_fine (h.2 r hr)⟩
/-! ### its bytes are its tokens -/
theorem lx_blanks : ∀ (l : List (List UInt8)) {m : List UInt8} {js : List KT}, (∀ n ∈ l, NameL n) → LH m js → LH (blanks l ++ m) (tkM l ++ js)
  | [], m, js, _, h => h
  | n :: l, m, js, hn, h => by
    have h1 := lx_blanks l (fun x hx => hn x (List.mem_cons_of_mem _ hx)) h
    have h2 : LH (32 :: (n ++ (blanks l ++ m))) ([(2, n)] ++ (tkM l ++ js)) := .blank (by decide) ((lx_name (hn n (List.mem_cons_self ..))).then h1)
    have e : blanks (n :: l) ++ m = 32 :: (n ++ (blanks l ++ m)) := by simp [blanks]
    rw [e]; exact h2
theorem lx_ty {t m : List UInt8} {js : List KT} (ht : t ≠ [] → NameL t) (h : LH m js) : LH (wrTy t ++ m) (tkTy t ++ js) := by
  unfold wrTy tkTy
  by_cases e : t = []
  · rw [if_pos e, if_pos e]; exact h
  · rw [if_neg e, if_neg e]
    have h1 : LH (62 :: m) ((6, [62]) :: js) := .sign (by decide) (by decide) h.lx
    have h2 : LH (60 :: (t ++ 62 :: m)) ((6, [60]) :: ([(2, t)] ++ (6, [62]) :: js)) := .sign (by decide) (by decide) ((lx_name (ht e)).then h1)
    have h3 : LH (32 :: 60 :: (t ++ 62 :: m)) ((6, [60]) :: ([(2, t)] ++ (6, [62]) :: js)) := .blank (by decide) h2.lx
    simpa using h3
theorem lx_d {d : De} (h : okD d = true) : Lx (wrD d) (tkD d) := by
  have hk := h
  unfold okD at hk
  simp only [Bool.and_eq_true, Bool.or_eq_true, decide_eq_true_eq, List.all_eq_true] at hk
  obtain ⟨h1, h2, h3, h4⟩ := hk
  have hend : LH [59, 10] [(6, [59])] := .sign (by decide) (by decide) (LH.blank (by decide) Lx.nil).lx
  have hb := lx_blanks d.names (fun n hn => name_iff.1 (h4 n hn)) hend
  have ht := lx_ty (t := d.type) (fun e => name_iff.1 (h3.resolve_left e)) hb
  have hw := (lx_word (kind_word h1).1).then ht
  exact hw
theorem lx_l : ∀ (l : List Wd) {m : List UInt8} {js : List KT}, (∀ x ∈ l, namedW x) → LH m js → LH (wrL l ++ m) (tkL l ++ js)
  | [], m, js, _, h => h
  | x :: l, m, js, hn, h => by
    have h1 := lx_l l (fun x hx => hn x (List.mem_cons_of_mem _ hx)) h
    have h2 : LH (32 :: (wrW x ++ (wrL l ++ m))) (tkW x ++ (tkL l ++ js)) := .blank (by decide) ((lx_w x (hn x (List.mem_cons_self ..))).then h1)
    have e : wrL (x :: l) ++ m = 32 :: (wrW x ++ (wrL l ++ m)) := by simp [wrL]
    have e' : tkL (x :: l) ++ js = tkW x ++ (tkL l ++ js) := by simp [tkL]
    rw [e, e']; exact h2
theorem lx_a {a : Al} (h : okA a = true) : LH (wrA a) (tkA a) := by
  have hk := h
  unfold okA at hk
  simp only [Bool.and_eq_true, Bool.or_eq_true, decide_eq_true_eq, List.all_eq_true, Bool.not_eq_true'] at hk
  obtain ⟨h1, h2, h3, h4⟩ := hk
  have hend : LH [10] [] := .blank (by decide) Lx.nil
  have ha : LH (wrAct a.has a.action ++ [10]) (if a.has = true then [(9, a.action)] else []) := by
    unfold wrAct
    by_cases e : a.has = true
    · rw [if_pos e, if_pos e]
      have hi := act_inner (h4.resolve_left (by rw [e]; decide))
      have h5 := (lx_act hi).app hend.lx
      have h6 : LH (32 :: (123 :: (a.action ++ [125]) ++ [10])) ([(9, a.action)] ++ []) := .blank (by decide) h5
      exact h6
    · rw [if_neg e, if_neg e]; exact hend
  have hp : LH (wrPrec a.prec ++ (wrAct a.has a.action ++ [10])) ((if a.prec = [] then [] else [(1, precT), (2, a.prec)]) ++ (if a.has = true then [(9, a.action)] else [])) := by
    unfold wrPrec
    by_cases e : a.prec = []
    · rw [if_pos e, if_pos e]; exact ha
    · rw [if_neg e, if_neg e]
      have h5 := (lx_name (name_iff.1 (h2.resolve_left e))).then ha
      have h6 : LH (32 :: (a.prec ++ (wrAct a.has a.action ++ [10]))) ([(2, a.prec)] ++ (if a.has = true then [(9, a.action)] else [])) := .blank (by decide) h5
      have h7 := (lx_word (w := precT) (by decide)).then h6
      have h8 := LH.blank (c := 32) (by decide) h7
      simpa using h8
  exact lx_l a.words (fun x hx => (okW_nest x 0 (h1 x hx)).2) hp
theorem lx_ns : ∀ (l : List (List UInt8)), (∀ n ∈ l, NameL n) → LH (wrNs l) (tkNs l)
  | [], _ => .sign (by decide) (by decide) Lx.nil
  | p :: l, hn => by
    have h1 := lx_ns l fun x hx => hn x (List.mem_cons_of_mem _ hx)
    have h2 := (lx_name (hn p (List.mem_cons_self ..))).then h1
    exact .sign (by decide) (by decide) (LH.blank (by decide) h2).lx
theorem lx_n {l : List (List UInt8)} {m : List UInt8} {js : List KT} (hn : ∀ n ∈ l, NameL n) (h : LH m js) : LH (wrN l ++ m) (tkN l ++ js) := by
  cases l with
  | nil => exact h
  | cons p l =>
    have h1 := (lx_name (hn p (List.mem_cons_self ..))).then (lx_ns l fun x hx => hn x (List.mem_cons_of_mem _ hx))
    have h2 : LH (40 :: (p ++ wrNs l)) ((6, [40]) :: ([(2, p)] ++ tkNs l)) := .sign (by decide) (by decide) h1
    exact ⟨h2.lx.app h.lx, ⟨40, _, rfl, by decide⟩⟩
theorem lx_as : ∀ (l : List Al) {m : List UInt8} {js : List KT}, (∀ a ∈ l, okA a = true) → Lx m js → Lx (wrAs l ++ m) (tkAs l ++ js)
  | [], m, js, _, h => h
  | a :: l, m, js, ha, h => by
    have h1 := lx_as l (fun x hx => ha x (List.mem_cons_of_mem _ hx)) h
    have h2 := (lx_a (ha a (List.mem_cons_self ..))).lx.app h1
    have h3 := (LH.blank (c := 9) (by decide) (LH.sign (c := 124) (by decide) (by decide) h2).lx).lx
    have e : wrAs (a :: l) ++ m = 9 :: 124 :: (wrA a ++ (wrAs l ++ m)) := by simp [wrAs]
    have e' : tkAs (a :: l) ++ js = (6, [124]) :: (tkA a ++ (tkAs l ++ js)) := by simp [tkAs]
    rw [e, e']; exact h3
theorem lx_r {r : Ru} (h : okR r = true) : Lx (wrR r) (tkR r) := by
  have hk := h
  unfold okR at hk
  simp only [Bool.and_eq_true, decide_eq_true_eq, List.all_eq_true] at hk
  obtain ⟨h1, h2, h3, h4⟩ := hk
  obtain ⟨nm, ps, alts, at_⟩ := r
  cases alts with
  | nil => exact absurd rfl h1
  | cons a l =>
    have hend : Lx [9, 59, 10] [(6, [59])] := (LH.blank (by decide) (LH.sign (c := 59) (by decide) (by decide) (LH.blank (by decide) Lx.nil).lx).lx).lx
    have hal := (lx_a (h4 a (List.mem_cons_self ..))).lx.app (lx_as l (fun x hx => h4 x (List.mem_cons_of_mem _ hx)) hend)
    have hc := LH.sign (c := 58) (by decide) (by decide) hal
    have hp := lx_n (fun n hn => name_iff.1 (h3 n hn)) hc
    have hw := (lx_name (name_iff.1 h2)).then hp
    unfold wrR tkR
    simp only [wrAlts, tkAlts, List.cons_append, List.append_assoc]
    exact hw
theorem lx_ds : ∀ (l : List De) {m : List UInt8} {js : List KT}, (∀ d ∈ l, okD d = true) → Lx m js → Lx (l.flatMap wrD ++ m) (tkDs l ++ js)
  | [], m, js, _, h => h
  | d :: l, m, js, hd, h => by
    have h1 := (lx_d (hd d (List.mem_cons_self ..))).app (lx_ds l (fun x hx => hd x (List.mem_cons_of_mem _ hx)) h)
    have e : (d :: l).flatMap wrD ++ m = wrD d ++ (l.flatMap wrD ++ m) := by simp
    have e' : tkDs (d :: l) ++ js = tkD d ++ (tkDs l ++ js) := by simp [tkDs]
    rw [e, e']; exact h1
theorem lx_rs : ∀ (l : List Ru), (∀ r ∈ l, okR r = true) → Lx (l.flatMap wrR) (tkRs l)
  | [], _ => Lx.nil
  | r :: l, hr => (lx_r (hr r (List.mem_cons_self ..))).app (lx_rs l fun x hx => hr x (List.mem_cons_of_mem _ hx))
/-- WHAT IS WRITTEN ARE ITS TOKENS -/
theorem toks_wr {x : Tx} (h : okT x = true) (hl : (wrT x).length ≤ 65536) : ∃ T, toks (wrT x) = .good T ∧ bare T = tkT x := by
  have hk := h
  unfold okT at hk
  simp only [Bool.and_eq_true, List.all_eq_true] at hk
  have hr := lx_rs x.rules hk.2
  have h2 : Lx (37 :: 37 :: 10 :: x.rules.flatMap wrR) ((6, [37, 37]) :: tkRs x.rules) := Lx.app (l := [37, 37]) (ks := [(6, [37, 37])]) lx_two (LH.blank (c := 10) (by decide) hr).lx
  obtain ⟨ts, h3, h4⟩ := lx_ds x.decls hk.1 h2 [] 0
  rw [List.append_nil] at h4
  refine ⟨ts ++ [⟨7, [], 0 + (wrT x).length⟩], ?_, ?_⟩
  · unfold toks
    rw [if_neg (by omega)]
    refine h4.trans ?_
    show Lexy.ahead ts (.good [⟨7, [], 0 + (wrT x).length⟩]) = _
    rw [ahead_good]
  · rw [bare_app, h3]
    simp [tkT, bare]
theorem at_bare {T : List Tok} : ∀ {ks : List KT} {k : Nat}, (bare T).drop k = ks → At T k ks
  | [], _, _ => trivial
  | t :: ks, k, h => by
    have h0 : (bare T)[k]? = some t := by
      have := congrArg List.head? h
      rw [List.head?_drop] at this
      exact this
    have h1 : (bare T).drop (k + 1) = ks := by
      rw [← List.drop_drop, h]; rfl
    rw [At]
    refine ⟨?_, at_bare h1⟩
    unfold bare at h0
    rw [List.getElem?_map] at h0
    cases hT : T[k]? with
    | none => rw [hT] at h0; cases h0
    | some u =>
      rw [hT] at h0
      cases h0
      unfold tok
      rw [List.getD_eq_getElem?_getD, hT]
      exact ⟨rfl, rfl⟩
/-- WHAT IS WRITTEN IS READ AS THE SAME -/
theorem read_wr {x : Tx} (h : okT x = true) (hl : (wrT x).length ≤ 65536) : ∃ T y k, toks (wrT x) = .good T ∧ TextR T (.ok y k) ∧ plainT y = plainT x := by
  obtain ⟨T, h1, h2⟩ := toks_wr h hl
  obtain ⟨y, k, h3, h4⟩ := say_text (T := T) (x := x) (at_bare (by rw [List.drop_zero]; exact h2)) (okT_fine h)
  exact ⟨T, y, k, h1, h3, h4⟩
end Go.Proofs.Ytelpkldlkpoioaa.WrE
