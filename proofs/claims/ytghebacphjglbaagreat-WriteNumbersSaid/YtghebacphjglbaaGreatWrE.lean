/- What a text is as tokens, and that these say it. Plain. -/
import Derived.Test.YtghebacphjglbaaGreatReadPlain
namespace Go.Proofs.YtghebacphjglbaaGreat.WrA
open Go.Proofs.YtghebacphjglbaaGreat.Lexy Go.Proofs.YtghebacphjglbaaGreat.Ready

/-- a token without its place -/
abbrev KT := Nat × List UInt8
/-- these tokens stand from there on -/
def At (T : List Tok) : Nat → List KT → Prop
  | _, [] => True
  | k, t :: l => ((tok T k).kind = t.1 ∧ (tok T k).text = t.2) ∧ At T (k + 1) l
mutual
def tkW : Wd → List KT
  | .mk n xs _ => (2, n) :: tkP xs
def tkP : List Wd → List KT
  | [] => []
  | x :: xs => (6, [40]) :: (tkW x ++ tkWs xs)
def tkWs : List Wd → List KT
  | [] => [(6, [41])]
  | x :: xs => (6, [44]) :: (tkW x ++ tkWs xs)
end
mutual
/-- no deeper than may be -/
def nestW (d : Nat) : Wd → Bool
  | .mk _ xs _ => decide (d ≤ 60) && nestWs (d + 1) xs
def nestWs (d : Nat) : List Wd → Bool
  | [] => true
  | x :: xs => nestW d x && nestWs d xs
end
theorem ws_pos : ∀ xs : List Wd, 1 ≤ (tkWs xs).length
  | [] => by simp [tkWs]
  | x :: xs => by simp [tkWs]
/-- words, one behind the other -/
def tkL (l : List Wd) : List KT := l.flatMap tkW
end Go.Proofs.YtghebacphjglbaaGreat.WrA
/- What a text is as tokens, and that these say it: alternatives, rules, declarations. Plain. -/
namespace Go.Proofs.YtghebacphjglbaaGreat.WrB
open Go.Proofs.YtghebacphjglbaaGreat.Lexy Go.Proofs.YtghebacphjglbaaGreat.Ready Go.Proofs.YtghebacphjglbaaGreat.WrA

def precT : List UInt8 := [112, 114, 101, 99]
def tkA (a : Al) : List KT := tkL a.words ++ ((if a.prec = [] then [] else [(1, precT), (2, a.prec)]) ++ (if a.has = true then [(9, a.action)] else []))
structure FineA (a : Al) : Prop where
  nest : ∀ x ∈ a.words, nestW 0 x = true
  act : a.has = true ∨ a.action = []
/-- a sign that ends an alternative -/
def Sign (T : List Tok) (k : Nat) : Prop := (tok T k).kind = 6 ∧ (tok T k).text ≠ [40]
theorem Sign.k {T : List Tok} {k q : Nat} (h : Sign T k) (hq : q ≠ 6) : isK T k q = false := by unfold isK; rw [h.1]; simpa using Ne.symm hq
theorem Sign.t {T : List Tok} {k : Nat} (h : Sign T k) : isT T k 6 [40] = false := by unfold isT; simp [h.2]
theorem Sign.p {T : List Tok} {k : Nat} (h : Sign T k) : isT T k 1 precT = false := by unfold isT; rw [h.1]; rfl
def tkAs (l : List Al) : List KT := l.flatMap fun a => (6, [124]) :: tkA a
def tkNs : List (List UInt8) → List KT
  | [] => [(6, [41])]
  | p :: ps => (6, [44]) :: (2, p) :: tkNs ps
def tkN : List (List UInt8) → List KT
  | [] => []
  | p :: ps => (6, [40]) :: (2, p) :: tkNs ps
structure FineR (r : Ru) : Prop where
  some : r.alts ≠ []
  alts : ∀ a ∈ r.alts, FineA a
def tkAlts : List Al → List KT
  | [] => []
  | a :: l => tkA a ++ tkAs l
def tkR (r : Ru) : List KT := (2, r.name) :: (tkN r.params ++ ((6, [58]) :: (tkAlts r.alts ++ [(6, [59])])))
def typeT : List UInt8 := [116, 121, 112, 101]
def tokenT : List UInt8 := [116, 111, 107, 101, 110]
def tkTy (t : List UInt8) : List KT := if t = [] then [] else [(6, [60]), (2, t), (6, [62])]
def tkM (l : List (List UInt8)) : List KT := l.map fun n => (2, n)
def tkD (d : De) : List KT := (1, d.kind) :: (tkTy d.type ++ (tkM d.names ++ [(6, [59])]))
structure FineD (d : De) : Prop where
  prec : d.kind ≠ precT
  some : d.names ≠ []
  ty : d.kind = typeT → d.type ≠ []
  no : d.type ≠ [] → d.kind = typeT ∨ d.kind = tokenT
end Go.Proofs.YtghebacphjglbaaGreat.WrB
/- What a text is as tokens, and that these say it: the whole. Plain. -/
namespace Go.Proofs.YtghebacphjglbaaGreat.WrC
open Go.Proofs.YtghebacphjglbaaGreat.Lexy Go.Proofs.YtghebacphjglbaaGreat.Ready Go.Proofs.YtghebacphjglbaaGreat.WrA Go.Proofs.YtghebacphjglbaaGreat.WrB

def tkDs (l : List De) : List KT := l.flatMap tkD
def tkRs (l : List Ru) : List KT := l.flatMap tkR
def tkT (x : Tx) : List KT := tkDs x.decls ++ ((6, [37, 37]) :: (tkRs x.rules ++ [(7, [])]))
structure FineT (x : Tx) : Prop where
  decls : ∀ d ∈ x.decls, FineD d
  rules : ∀ r ∈ x.rules, FineR r
end Go.Proofs.YtghebacphjglbaaGreat.WrC
/- A text's bytes, as they are written, and that these are its tokens. Plain. -/
namespace Go.Proofs.YtghebacphjglbaaGreat.WrD
open Go.Proofs.YtghebacphjglbaaGreat.Lexy Go.Proofs.YtghebacphjglbaaGreat.Ready Go.Proofs.YtghebacphjglbaaGreat.WrA Go.Proofs.YtghebacphjglbaaGreat.WrB Go.Proofs.YtghebacphjglbaaGreat.WrC

/-- a name -/
structure NameL (s : List UInt8) : Prop where
  head : ∃ c r, s = c :: r ∧ letN c.toNat = true
  all : ∀ c ∈ s, ldN c.toNat = true
  len : s.length ≤ 40
/-- no letter, no digit begins it -/
def NL (x : List UInt8) : Prop := ∀ c, x.head? = some c → ldN c.toNat = false
/-- these bytes are these tokens, whatever stands behind -/
def Lx (l : List UInt8) (ks : List KT) : Prop := ∀ x a, ∃ ts, bare ts = ks ∧ lexA (l ++ x) 0 a = Lexy.ahead ts (lexA x 0 (a + l.length))
/-- .. if no letter, no digit stands behind -/
def LxN (l : List UInt8) (ks : List KT) : Prop := ∀ x a, NL x → ∃ ts, bare ts = ks ∧ lexA (l ++ x) 0 a = Lexy.ahead ts (lexA x 0 (a + l.length))
def Hd (m : List UInt8) : Prop := ∃ c r, m = c :: r ∧ ldN c.toNat = false
theorem Hd.nl {m : List UInt8} (h : Hd m) (x : List UInt8) : NL (m ++ x) := by
  obtain ⟨c, r, rfl, hc⟩ := h
  intro d hd
  have : c = d := by simpa using hd
  rw [← this]; exact hc
theorem ahead_app (ts us : List Tok) (r : Res) : Lexy.ahead (ts ++ us) r = Lexy.ahead ts (Lexy.ahead us r) := by unfold Lexy.ahead; rw [List.foldr_append]
theorem bare_app (ts us : List Tok) : bare (ts ++ us) = bare ts ++ bare us := by unfold bare; rw [List.map_append]
theorem Lx.n {l : List UInt8} {ks : List KT} (h : Lx l ks) : LxN l ks := fun x a _ => h x a
theorem Lx.nil : Lx [] [] := fun _ _ => ⟨[], rfl, rfl⟩
theorem Lx.app {l m : List UInt8} {ks js : List KT} (h : Lx l ks) (k : Lx m js) : Lx (l ++ m) (ks ++ js) := fun x a => by
  obtain ⟨ts, h1, h2⟩ := h (m ++ x) a
  obtain ⟨us, k1, k2⟩ := k x (a + l.length)
  exact ⟨ts ++ us, by rw [bare_app, h1, k1], by rw [List.append_assoc, h2, k2, ahead_app, List.length_append, Nat.add_assoc]⟩
theorem LxN.app {l m : List UInt8} {ks js : List KT} (h : LxN l ks) (k : Lx m js) (hm : Hd m) : Lx (l ++ m) (ks ++ js) := fun x a => by
  obtain ⟨ts, h1, h2⟩ := h (m ++ x) a (hm.nl x)
  obtain ⟨us, k1, k2⟩ := k x (a + l.length)
  exact ⟨ts ++ us, by rw [bare_app, h1, k1], by rw [List.append_assoc, h2, k2, ahead_app, List.length_append, Nat.add_assoc]⟩
theorem let_ld {n : Nat} (h : letN n = true) : wsN n = false ∧ n ≠ 47 := by
  simp only [letN, Bool.or_eq_true, Bool.and_eq_true, decide_eq_true_eq] at h
  refine ⟨?_, by omega⟩
  unfold wsN
  simp only [Bool.or_eq_false_iff, decide_eq_false_iff_not]
  omega
theorem com_not {c : UInt8} {r : List UInt8} (h : c.toNat ≠ 47) : comL (c :: r) = false := by
  cases r <;> simp [comL, h]
theorem lx_name {s : List UInt8} (h : NameL s) : LxN s [(2, s)] := fun x a hx => by
  obtain ⟨c, r, rfl, hc⟩ := h.head
  have h2 := let_ld hc
  have hrun := runL_len (c :: r) x h.all hx
  refine ⟨[⟨2, c :: r, a⟩], rfl, ?_⟩
  have ht : tokL (c :: r ++ x) = .good 2 (c :: r) (c :: r).length := by
    rw [List.cons_append] at hrun ⊢
    unfold tokL
    simp only [hc, if_true, hrun]
    rw [if_neg (by have := h.len; omega)]
    congr 1
    show ((c :: r) ++ x).take (c :: r).length = c :: r
    exact List.take_left' rfl
  have hd : (r ++ x).drop r.length = x := List.drop_left' rfl
  rw [List.cons_append] at ht ⊢
  rw [lexA_tok _ _ (by simp) (by simpa using h2.1) (com_not h2.2), ht]
  simp only [List.length_cons, List.drop_succ_cons, hd]
  rfl
theorem sign_facts {c : UInt8} (h : signN c.toNat = true) : letN c.toNat = false ∧ c.toNat ≠ 37 ∧ c.toNat ≠ 123 ∧ wsN c.toNat = false ∧ c.toNat ≠ 47 := by
  simp only [signN, Bool.or_eq_true, decide_eq_true_eq] at h
  refine ⟨?_, by omega, by omega, ?_, by omega⟩
  · unfold letN
    simp only [Bool.or_eq_false_iff, Bool.and_eq_false_iff, decide_eq_false_iff_not]
    omega
  · unfold wsN
    simp only [Bool.or_eq_false_iff, decide_eq_false_iff_not]
    omega
theorem lx_sign {c : UInt8} (h : signN c.toNat = true) : Lx [c] [(6, [c])] := fun x a => by
  obtain ⟨h1, h2, h3, h4, h5⟩ := sign_facts h
  refine ⟨[⟨6, [c], a⟩], rfl, ?_⟩
  have ht : tokL (c :: x) = .good 6 [c] 1 := by
    unfold tokL
    simp only [h1, h2, h3, h, Bool.false_eq_true, if_false, if_true]
  show lexA (c :: x) 0 a = _
  rw [lexA_tok _ _ (by simp) (by simpa using h4) (com_not h5), ht]
  rfl
theorem lx_ws {c : UInt8} (h : wsN c.toNat = true) : Lx [c] [] := fun x a => by
  refine ⟨[], rfl, ?_⟩
  show lexA (c :: x) 0 a = _
  rw [lexA_ws _ _ (by simp) (by simpa using h)]
  rfl
theorem words_ld {w : List UInt8} (h : w ∈ wordsL) : (∀ c ∈ w, ldN c.toNat = true) ∧ w.head?.map (·.toNat) ≠ some 37 ∧ w ≠ [] := by
  simp only [wordsL, List.mem_cons, List.not_mem_nil, or_false] at h
  rcases h with rfl | rfl | rfl | rfl | rfl | rfl | rfl <;> exact ⟨by decide, by decide, by decide⟩
/-! ### What is written -/
mutual
def wrW : Wd → List UInt8
  | .mk n xs _ => n ++ wrP xs
def wrP : List Wd → List UInt8
  | [] => []
  | x :: xs => 40 :: (wrW x ++ wrWs xs)
def wrWs : List Wd → List UInt8
  | [] => [41]
  | x :: xs => 44 :: 32 :: (wrW x ++ wrWs xs)
end
mutual
def namedW : Wd → Prop
  | .mk n xs _ => NameL n ∧ namedWs xs
def namedWs : List Wd → Prop
  | [] => True
  | x :: xs => namedW x ∧ namedWs xs
end
structure LH (l : List UInt8) (ks : List KT) : Prop where
  lx : Lx l ks
  hd : Hd l
theorem LH.blank {c : UInt8} (hc : wsN c.toNat = true) {m : List UInt8} {js : List KT} (h : Lx m js) : LH (c :: m) js :=
  ⟨Lx.app (l := [c]) (ks := []) (lx_ws hc) h, ⟨c, m, rfl, (ws_ld hc).1⟩⟩
theorem LH.sign {c : UInt8} (hc : signN c.toNat = true) (hl : ldN c.toNat = false) {m : List UInt8} {js : List KT} (h : Lx m js) : LH (c :: m) ((6, [c]) :: js) :=
  ⟨Lx.app (l := [c]) (ks := [(6, [c])]) (lx_sign hc) h, ⟨c, m, rfl, hl⟩⟩
theorem LxN.then {l m : List UInt8} {ks js : List KT} (h : LxN l ks) (k : LH m js) : Lx (l ++ m) (ks ++ js) := h.app k.lx k.hd
end Go.Proofs.YtghebacphjglbaaGreat.WrD
/- What is written of a text, what may be, and that its bytes are its tokens. Plain. -/
namespace Go.Proofs.YtghebacphjglbaaGreat.WrE
open Go.Proofs.YtghebacphjglbaaGreat.Lexy Go.Proofs.YtghebacphjglbaaGreat.Ready Go.Proofs.YtghebacphjglbaaGreat.WrA Go.Proofs.YtghebacphjglbaaGreat.WrB Go.Proofs.YtghebacphjglbaaGreat.WrC Go.Proofs.YtghebacphjglbaaGreat.WrD

/-! ### one token -/
/-- a source is one token, of a kind, of this text -/
def oneB (s : List UInt8) (k : Nat) (t : List UInt8) : Bool :=
  match toks s with
  | .good l => decide (l.length = 2) && (decide ((tok l 0).kind = k) && decide ((tok l 0).text = t))
  | .bad _ _ => false
def nameB (s : List UInt8) : Bool := oneB s 2 s
def actB (a : List UInt8) : Bool := oneB (123 :: (a ++ [125])) 9 a
theorem name_tok {s x : List UInt8} {n : Nat} (h : tokL (s ++ 32 :: x) = .good 2 s n) : NameL s := by
  cases hs : s ++ 32 :: x with
  | nil => simp at hs
  | cons c r =>
    rw [hs] at h
    simp only [tokL] at h
    split at h
    · rename_i hc
      split at h
      · cases h
      · rename_i hr
        simp only [One.good.injEq, true_and] at h
        have hle := runL_le (c :: r)
        have hpos : 1 ≤ runL (c :: r) := by
          unfold runL
          have : ldN c.toNat = true := by unfold ldN; rw [hc]; rfl
          simp [this]
        have hl := congrArg List.length h.1
        rw [List.length_take] at hl
        refine ⟨?_, ?_, by omega⟩
        · obtain ⟨m, hm⟩ : ∃ m, runL (c :: r) = m + 1 := ⟨runL (c :: r) - 1, by omega⟩
          rw [hm, List.take_succ_cons] at h
          exact ⟨c, r.take m, h.1.symm, hc⟩
        · rw [← h.1]; exact runL_all _
    · split at h
      · split at h
        · cases h
        · split at h <;> cases h
      · split at h
        · split at h <;> cases h
        · split at h <;> cases h
theorem fine_name {t : Tok} (h : t.fine) (hk : t.kind = 2) : NameL t.text := by
  have := h.2 []
  rw [hk] at this
  exact name_tok (s := t.text) this
theorem name_iff {s : List UInt8} : nameB s = true ↔ NameL s := by
  unfold nameB oneB
  constructor
  · intro h
    cases ht : toks s with
    | bad e p => rw [ht] at h; cases h
    | good l =>
      rw [ht] at h
      simp only [Bool.and_eq_true, decide_eq_true_eq] at h
      obtain ⟨h1, h2, h3⟩ := h
      obtain ⟨ts, rfl, hc, hf, hs⟩ := toks_shape ht
      cases ts with
      | nil => simp at h1
      | cons t r =>
        have hk : t.kind = 2 := h2
        have hx : t.text = s := h3
        rw [← hx]
        exact fine_name (hf t (List.mem_cons_self ..)) hk
  · intro h
    obtain ⟨ts, h1, h2⟩ := lx_name h [] 0 (by intro c hc; cases hc)
    rw [List.append_nil] at h2
    have : toks s = .good (ts ++ [⟨7, [], 0 + s.length⟩]) := by
      unfold toks
      rw [if_neg (by have := h.len; omega), h2]
      show Lexy.ahead ts (.good [⟨7, [], 0 + s.length⟩]) = _
      rw [ahead_good]
    rw [this]
    cases ts with
    | nil => simp [bare] at h1
    | cons t r =>
      cases r with
      | cons u r => simp [bare] at h1
      | nil =>
        simp only [bare, List.map_cons, List.map_nil, List.cons.injEq, Prod.mk.injEq, and_true] at h1
        simp [tok, h1.1, h1.2]
/-! ### what is written -/
def blanks (l : List (List UInt8)) : List UInt8 := l.flatMap fun s => 32 :: s
def wrTy (t : List UInt8) : List UInt8 := if t = [] then [] else 32 :: 60 :: (t ++ [62])
def wrD (d : De) : List UInt8 := 37 :: (d.kind ++ (wrTy d.type ++ (blanks d.names ++ [59, 10])))
def wrL (l : List Wd) : List UInt8 := l.flatMap fun x => 32 :: wrW x
def wrPrec (p : List UInt8) : List UInt8 := if p = [] then [] else 32 :: 37 :: (precT ++ 32 :: p)
def wrAct (has : Bool) (a : List UInt8) : List UInt8 := if has = true then 32 :: 123 :: (a ++ [125]) else []
def wrA (a : Al) : List UInt8 := wrL a.words ++ (wrPrec a.prec ++ (wrAct a.has a.action ++ [10]))
def wrNs : List (List UInt8) → List UInt8
  | [] => [41]
  | p :: ps => 44 :: 32 :: (p ++ wrNs ps)
def wrN : List (List UInt8) → List UInt8
  | [] => []
  | p :: ps => 40 :: (p ++ wrNs ps)
def wrAs (l : List Al) : List UInt8 := l.flatMap fun a => 9 :: 124 :: wrA a
def wrAlts : List Al → List UInt8
  | [] => []
  | a :: l => 58 :: (wrA a ++ wrAs l)
def wrR (r : Ru) : List UInt8 := r.name ++ (wrN r.params ++ (wrAlts r.alts ++ [9, 59, 10]))
def wrT (x : Tx) : List UInt8 := x.decls.flatMap wrD ++ (37 :: 37 :: 10 :: x.rules.flatMap wrR)
/-! ### what may be -/
def othersL : List (List UInt8) := [[108, 101, 102, 116], [114, 105, 103, 104, 116], [110, 111, 110, 97, 115, 115, 111, 99], [115, 116, 97, 114, 116]]
def kindB (d : De) : Bool := decide (d.kind = tokenT) || (decide (d.kind = typeT) && decide (d.type ≠ [])) || (decide (d.kind ∈ othersL) && decide (d.type = []))
def okD (d : De) : Bool := kindB d && (decide (d.names ≠ []) && ((decide (d.type = []) || nameB d.type) && d.names.all nameB))
mutual
def okW (d : Nat) : Wd → Bool
  | .mk n xs _ => decide (d ≤ 60) && (nameB n && okWs (d + 1) xs)
def okWs (d : Nat) : List Wd → Bool
  | [] => true
  | x :: xs => okW d x && okWs d xs
end
def okA (a : Al) : Bool := a.words.all (okW 0) && ((decide (a.prec = []) || nameB a.prec) && ((a.has || decide (a.action = [])) && (!a.has || actB a.action)))
def okR (r : Ru) : Bool := decide (r.alts ≠ []) && (nameB r.name && (r.params.all nameB && r.alts.all okA))
def okT (x : Tx) : Bool := x.decls.all okD && x.rules.all okR
theorem kind_word {d : De} (h : kindB d = true) : d.kind ∈ wordsL ∧ d.kind ≠ precT ∧ (d.kind = typeT → d.type ≠ []) ∧ (d.type ≠ [] → d.kind = typeT ∨ d.kind = tokenT) := by
  unfold kindB at h
  simp only [Bool.or_eq_true, Bool.and_eq_true, decide_eq_true_eq] at h
  rcases h with (h | h) | h
  · rw [h]; exact ⟨by decide, by decide, fun e => absurd e (by decide), fun _ => .inr rfl⟩
  · rw [h.1]; exact ⟨by decide, by decide, fun _ => h.2, fun _ => .inl rfl⟩
  · have := h.1
    simp only [othersL, List.mem_cons, List.not_mem_nil, or_false] at this
    refine ⟨?_, ?_, fun e => absurd e ?_, fun e => absurd h.2 e⟩ <;> rcases this with e | e | e | e <;> rw [e] <;> decide
/-! ### its bytes are its tokens -/
end Go.Proofs.YtghebacphjglbaaGreat.WrE
/- What was read may be written; what is written hangs on no places. Plain. -/
namespace Go.Proofs.YtghebacphjglbaaGreat.WrP
open Go.Proofs.YtghebacphjglbaaGreat.Lexy Go.Proofs.YtghebacphjglbaaGreat.Ready Go.Proofs.YtghebacphjglbaaGreat.WrA Go.Proofs.YtghebacphjglbaaGreat.WrB Go.Proofs.YtghebacphjglbaaGreat.WrC Go.Proofs.YtghebacphjglbaaGreat.WrD Go.Proofs.YtghebacphjglbaaGreat.WrE

mutual
theorem wrW_bare : ∀ x : Wd, wrW (bareW x) = wrW x
  | .mk n xs z => by rw [bareW, wrW, wrW, wrP_bare xs]
theorem wrP_bare : ∀ xs : List Wd, wrP (bareWs xs) = wrP xs
  | [] => by rw [bareWs]
  | x :: xs => by rw [bareWs, wrP, wrP, wrW_bare x, wrWs_bare xs]
theorem wrWs_bare : ∀ xs : List Wd, wrWs (bareWs xs) = wrWs xs
  | [] => by rw [bareWs]
  | x :: xs => by rw [bareWs, wrWs, wrWs, wrW_bare x, wrWs_bare xs]
end
theorem wrA_plain (a : Al) : wrA (plainA a) = wrA a := by
  have h : wrL (bareWs a.words) = wrL a.words := by rw [bareWs_map]; simp [wrL, List.flatMap_map, wrW_bare]
  show wrL (bareWs a.words) ++ _ = _
  rw [h]; rfl
theorem wrAlts_plain : ∀ l : List Al, wrAlts (l.map plainA) = wrAlts l
  | [] => rfl
  | a :: l => by
    have h : wrAs (l.map plainA) = wrAs l := by simp [wrAs, List.flatMap_map, wrA_plain]
    rw [List.map_cons, wrAlts, wrAlts, wrA_plain, h]
/-! what was read may be written -/
/-- names, actions, words are such -/
structure Fit (T : List Tok) : Prop where
  name : ∀ i, isK T i 2 = true → nameB (tok T i).text = true
  act : ∀ i, isK T i 9 = true → actB (tok T i).text = true
  word : ∀ i, isK T i 1 = true → (tok T i).text ∈ wordsL
def OkA : Job → Ans → Prop
  | .word _ d, .one x _ => okW d x = true
  | .args _ d acc, .many xs _ => okWs d acc = true → okWs d xs = true
  | _, _ => True
end Go.Proofs.YtghebacphjglbaaGreat.WrP
/- How much is written of what was read. Plain. -/
namespace Go.Proofs.YtghebacphjglbaaGreat.WrS
open Go.Proofs.YtghebacphjglbaaGreat.Lexy Go.Proofs.YtghebacphjglbaaGreat.Ready Go.Proofs.YtghebacphjglbaaGreat.WrA Go.Proofs.YtghebacphjglbaaGreat.WrB Go.Proofs.YtghebacphjglbaaGreat.WrC Go.Proofs.YtghebacphjglbaaGreat.WrD Go.Proofs.YtghebacphjglbaaGreat.WrE Go.Proofs.YtghebacphjglbaaGreat.WrP

def sumW : List Wd → Nat
  | [] => 0
  | x :: xs => (wrW x).length + 2 + sumW xs
theorem wrWs_len : ∀ l : List Wd, (wrWs l).length = sumW l + 1
  | [] => by rw [wrWs, sumW]; rfl
  | x :: l => by rw [wrWs, sumW]; simp only [List.length_cons, List.length_append, wrWs_len l]; omega
theorem wrP_len (l : List Wd) : (wrP l).length ≤ sumW l := by
  cases l with
  | nil => rw [wrP]; simp
  | cons x l => rw [wrP, sumW]; simp only [List.length_cons, List.length_append, wrWs_len l]; omega
def SzA : Job → Ans → Prop
  | .word k _, .one x k1 => k < k1 ∧ (wrW x).length ≤ 100 * (k1 - k)
  | .args k _ acc, .many xs k1 => k ≤ k1 ∧ sumW xs ≤ sumW acc + 100 * (k1 - k)
  | _, _ => True
theorem wrAlts_len (l : List Al) : (wrAlts l).length ≤ (wrAs l).length := by
  cases l with
  | nil => simp [wrAlts]
  | cons a l =>
    have : (wrAs (a :: l)).length = (wrAs l).length + ((wrA a).length + 2) := by simp [wrAs]; omega
    rw [this, wrAlts]; simp only [List.length_cons, List.length_append]; omega
def sumN : List (List UInt8) → Nat
  | [] => 0
  | x :: xs => x.length + 2 + sumN xs
theorem wrNs_len : ∀ l : List (List UInt8), (wrNs l).length = sumN l + 1
  | [] => by rw [wrNs, sumN]; rfl
  | x :: l => by rw [wrNs, sumN]; simp only [List.length_cons, List.length_append, wrNs_len l]; omega
theorem wrN_len (l : List (List UInt8)) : (wrN l).length ≤ sumN l := by
  cases l with
  | nil => rw [wrN]; simp
  | cons x l => rw [wrN, sumN]; simp only [List.length_cons, List.length_append, wrNs_len l]; omega
theorem blanks_len : ∀ l : List (List UInt8), (blanks l).length ≤ sumN l
  | [] => by simp [blanks]
  | x :: l => by
    have : (blanks (x :: l)).length = x.length + 1 + (blanks l).length := by simp [blanks]; omega
    have := blanks_len l
    rw [sumN]; omega
theorem word_len {w : List UInt8} (h : w ∈ wordsL) : w.length ≤ 8 := by
  simp only [wordsL, List.mem_cons, List.not_mem_nil, or_false] at h
  rcases h with rfl | rfl | rfl | rfl | rfl | rfl | rfl <;> decide
end Go.Proofs.YtghebacphjglbaaGreat.WrS
/- How much a text is; what is little is written in little. Plain. -/
namespace Go.Proofs.YtghebacphjglbaaGreat.WrT
open Go.Proofs.YtghebacphjglbaaGreat.Lexy Go.Proofs.YtghebacphjglbaaGreat.Ready Go.Proofs.YtghebacphjglbaaGreat.WrA Go.Proofs.YtghebacphjglbaaGreat.WrB Go.Proofs.YtghebacphjglbaaGreat.WrC Go.Proofs.YtghebacphjglbaaGreat.WrD Go.Proofs.YtghebacphjglbaaGreat.WrE Go.Proofs.YtghebacphjglbaaGreat.WrP Go.Proofs.YtghebacphjglbaaGreat.WrS

mutual
/-- a word's names, a twentieth of each -/
def nmW : Wd → Nat
  | .mk n xs _ => n.length / 20 + nmWs xs
def nmWs : List Wd → Nat
  | [] => 0
  | x :: xs => nmW x + nmWs xs
end
def sumF {α : Type} (f : α → Nat) : List α → Nat
  | [] => 0
  | x :: xs => f x + sumF f xs
theorem sumF_snoc {α : Type} (f : α → Nat) : ∀ (l : List α) (x : α), sumF f (l ++ [x]) = sumF f l + f x
  | [], x => by simp [sumF]
  | y :: l, x => by rw [List.cons_append, sumF, sumF, sumF_snoc f l x]; omega
theorem sumF_next {α : Type} (f : α → Nat) {l : List α} {k : Nat} (h : k < l.length) : sumF f (l.take (k + 1)) = sumF f (l.take k) + f l[k] := by
  have e : l.take (k + 1) = l.take k ++ [l[k]] := by simp
  rw [e, sumF_snoc]
theorem sumF_mem {α : Type} (f : α → Nat) : ∀ {l : List α} {x : α}, x ∈ l → f x ≤ sumF f l
  | y :: l, x, h => by
    rw [sumF]
    rcases List.mem_cons.1 h with rfl | h
    · omega
    · have := sumF_mem f h; omega
def gNs (l : List (List UInt8)) : Nat := sumF (fun n => n.length / 20) l
def gA (a : Al) : Nat := a.words.length + a.action.length / 50 + a.prec.length / 20 + sumF (fun w => szW w + nmW w) a.words
def gR (r : Ru) : Nat := r.params.length + r.alts.length + r.name.length / 20 + gNs r.params + sumF gA r.alts
def gD (d : De) : Nat := d.names.length + d.type.length / 20 + gNs d.names
def gT (x : Tx) : Nat := x.decls.length + x.rules.length + sumF gD x.decls + sumF gR x.rules
mutual
theorem wrW_le : ∀ x : Wd, (wrW x).length + 2 ≤ 20 * nmW x + 21 * szW x
  | .mk n xs z => by
    have h1 := wrP_len xs
    have h2 := sumW_le xs
    rw [wrW, nmW, szW, List.length_append]; omega
theorem sumW_le : ∀ xs : List Wd, sumW xs ≤ 20 * nmWs xs + 21 * szWs xs
  | [] => by rw [sumW]; omega
  | x :: xs => by
    have h1 := wrW_le x
    have h2 := sumW_le xs
    rw [sumW, nmWs, szWs]; omega
end
theorem wrL_le : ∀ l : List Wd, (wrL l).length ≤ sumW l
  | [] => by simp [wrL]
  | x :: l => by
    have : (wrL (x :: l)).length = (wrW x).length + 1 + (wrL l).length := by simp [wrL]; omega
    have := wrL_le l
    rw [sumW]; omega
theorem sums : ∀ l : List Wd, sumF (fun w => szW w + nmW w) l = szWs l + nmWs l
  | [] => by simp [sumF, szWs, nmWs]
  | x :: l => by rw [sumF, sums l, szWs, nmWs]; omega
theorem wrA_le (a : Al) : (wrA a).length ≤ 50 * gA a + 80 := by
  have h1 := wrL_le a.words
  have h2 := sumW_le a.words
  have h3 : (wrPrec a.prec).length ≤ a.prec.length + 7 := by
    unfold wrPrec; split
    · simp
    · simp only [List.length_cons, List.length_append, precT, List.length_nil]; omega
  have h4 : (wrAct a.has a.action).length ≤ a.action.length + 3 := by
    unfold wrAct; split
    · simp
    · simp
  have h5 := sums a.words
  simp only [wrA, gA, List.length_append, List.length_singleton]
  omega
theorem wrAs_le : ∀ l : List Al, (wrAs l).length ≤ 50 * sumF gA l + 82 * l.length
  | [] => by simp [wrAs]
  | a :: l => by
    have h1 : (wrAs (a :: l)).length = (wrAs l).length + ((wrA a).length + 2) := by simp [wrAs]; omega
    have h2 := wrA_le a
    have h3 := wrAs_le l
    rw [h1, sumF, List.length_cons]; omega
theorem sumN_le : ∀ l : List (List UInt8), sumN l ≤ 20 * gNs l + 21 * l.length
  | [] => by simp [sumN]
  | x :: l => by
    have h := sumN_le l
    have e : gNs (x :: l) = x.length / 20 + gNs l := rfl
    rw [sumN, e, List.length_cons]; omega
theorem wrR_le (r : Ru) : (wrR r).length ≤ 100 * gR r + 23 := by
  have h1 := wrAs_le r.alts
  have h2 := wrAlts_len r.alts
  have h3 := wrN_len r.params
  have h4 := sumN_le r.params
  simp only [wrR, gR, List.length_append, List.length_cons, List.length_nil]
  omega
/-- what is written of a declaration, if it is of a kind -/
def wrD' (d : De) : List UInt8 := if kindB d = true then wrD d else []
theorem wrD_le (d : De) : (wrD' d).length ≤ 100 * gD d + 33 := by
  unfold wrD'
  split
  · rename_i hk
    have h1 := word_len (kind_word hk).1
    have h2 : (wrTy d.type).length ≤ d.type.length + 3 := by
      unfold wrTy; split
      · simp
      · simp
    have h3 := blanks_len d.names
    have h4 := sumN_le d.names
    simp only [wrD, gD, List.length_append, List.length_cons, List.length_nil]
    omega
  · simp
theorem ds_le : ∀ l : List De, (l.flatMap wrD').length ≤ 100 * sumF gD l + 33 * l.length
  | [] => by simp
  | d :: l => by
    have h1 : ((d :: l).flatMap wrD').length = (wrD' d).length + (l.flatMap wrD').length := by simp
    have h2 := wrD_le d
    have h3 := ds_le l
    rw [h1, sumF, List.length_cons]; omega
theorem rs_le : ∀ l : List Ru, (l.flatMap wrR).length ≤ 100 * sumF gR l + 23 * l.length
  | [] => by simp
  | d :: l => by
    have h1 : ((d :: l).flatMap wrR).length = (wrR d).length + (l.flatMap wrR).length := by simp
    have h2 := wrR_le d
    have h3 := rs_le l
    rw [h1, sumF, List.length_cons]; omega
/-- how much is written at most -/
def lenT (x : Tx) : Nat := (x.decls.flatMap wrD').length + ((x.rules.flatMap wrR).length + 3)
theorem small_len {x : Tx} (h : gT x ≤ 2000) : lenT x ≤ 200003 := by
  have h1 := ds_le x.decls
  have h2 := rs_le x.rules
  unfold gT at h
  unfold lenT
  omega
theorem small_ok {x : Tx} (h : gT x ≤ 2000) : TxOk x := by
  unfold gT at h
  refine ⟨by omega, by omega, fun d hd => ?_, fun r hr => ?_⟩
  · have := sumF_mem gD hd
    have e : gD d = d.names.length + d.type.length / 20 + gNs d.names := rfl
    show d.names.length ≤ 1000000
    omega
  · have := sumF_mem gR hr
    have e : gR r = r.params.length + r.alts.length + r.name.length / 20 + gNs r.params + sumF gA r.alts := rfl
    refine ⟨by omega, by omega, fun a ha => ?_⟩
    have h2 := sumF_mem gA ha
    have e2 : gA a = a.words.length + a.action.length / 50 + a.prec.length / 20 + sumF (fun w => szW w + nmW w) a.words := rfl
    have h3 := sums a.words
    exact ⟨by omega, wdsOk_sz _ (by omega)⟩
/-! what is written of declarations, all of a kind -/
theorem ds_kind : ∀ {l : List De}, l.all okD = true → l.flatMap wrD = l.flatMap wrD'
  | [], _ => rfl
  | d :: l, h => by
    simp only [List.all_cons, Bool.and_eq_true] at h
    have hk : kindB d = true := by have := h.1; unfold okD at this; simp only [Bool.and_eq_true] at this; exact this.1
    have e : wrD' d = wrD d := by unfold wrD'; rw [if_pos hk]
    rw [List.flatMap_cons, List.flatMap_cons, ds_kind h.2, e]
theorem fmD {ds : List De} {k : Nat} (h : k < ds.length) (ha : (ds.take k).all okD = true) (hk : kindB ds[k] = true) : ((ds.take k).flatMap wrD).length + (wrD ds[k]).length ≤ (ds.flatMap wrD').length := by
  have h2 : ds.flatMap wrD' = (ds.take (k + 1)).flatMap wrD' ++ (ds.drop (k + 1)).flatMap wrD' := by rw [← List.flatMap_append, List.take_append_drop]
  have e : ds.take (k + 1) = ds.take k ++ [ds[k]] := by simp
  have e2 : wrD' ds[k] = wrD ds[k] := by unfold wrD'; rw [if_pos hk]
  rw [ds_kind ha, h2, e, List.flatMap_append, List.length_append, List.length_append]
  simp [e2]
theorem len_ok {x : Tx} (h : okT x = true) : (wrT x).length = lenT x := by
  unfold okT at h
  simp only [Bool.and_eq_true] at h
  rw [lenT, ← ds_kind h.1, wrT]
  simp only [List.length_append, List.length_cons]
end Go.Proofs.YtghebacphjglbaaGreat.WrT
