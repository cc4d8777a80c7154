/- What a reader of grammars' texts answers: a relation on lists of tokens; no program in sight. -/
import Derived.Test.YtelpkldlkpoioaaLexPlain
namespace Go.Proofs.Ytelpkldlkpoioaa.Ready
open Go.Proofs.Ytelpkldlkpoioaa.Lexy

/-- a word: a name, what it is given, a place -/
inductive Wd
  | mk (name : List UInt8) (args : List Wd) (at_ : Nat)
structure Al where
  words : List Wd
  prec : List UInt8
  has : Bool
  action : List UInt8
  whr : Nat
  at_ : Nat
structure Ru where
  name : List UInt8
  params : List (List UInt8)
  alts : List Al
  at_ : Nat
structure De where
  kind : List UInt8
  type : List UInt8
  names : List (List UInt8)
  at_ : Nat
structure Tx where
  decls : List De
  rules : List Ru

/-- an answer: what was read, and where the next token is; or an error, and where -/
inductive Out (α : Type)
  | ok (x : α) (k : Nat)
  | bad (e p : Nat)

/-- the token at a place of a list -/
def tok (T : List Tok) (i : Nat) : Tok := T.getD i ⟨0, [], 0⟩
def isK (T : List Tok) (k kind : Nat) : Bool := decide ((tok T k).kind = kind)
def isT (T : List Tok) (k kind : Nat) (t : List UInt8) : Bool := decide ((tok T k).kind = kind) && decide ((tok T k).text = t)

/-- what is read: a word in so many others; what goes on behind an argument -/
inductive Job
  | word (k d : Nat)
  | args (k d : Nat) (acc : List Wd)
inductive Ans
  | one (x : Wd) (k : Nat)
  | many (xs : List Wd) (k : Nat)
  | bad (e p : Nat)
inductive PR (T : List Tok) : Job → Ans → Prop
  | deep {k d : Nat} : isK T k 2 = true → 60 < d → PR T (.word k d) (.bad 103 (tok T k).at_)
  | none {k d : Nat} : isK T k 2 = false → PR T (.word k d) (.bad 102 (tok T k).at_)
  | name {k d : Nat} : isK T k 2 = true → d ≤ 60 → isT T (k + 1) 6 [40] = false → PR T (.word k d) (.one (.mk (tok T k).text [] (tok T k).at_) (k + 1))
  | first {k d e p : Nat} : isK T k 2 = true → d ≤ 60 → isT T (k + 1) 6 [40] = true → PR T (.word (k + 2) (d + 1)) (.bad e p) → PR T (.word k d) (.bad e p)
  | rest {k d k1 e p : Nat} {x : Wd} : isK T k 2 = true → d ≤ 60 → isT T (k + 1) 6 [40] = true → PR T (.word (k + 2) (d + 1)) (.one x k1) → PR T (.args k1 (d + 1) [x]) (.bad e p) → PR T (.word k d) (.bad e p)
  | close {k d k1 k2 : Nat} {x : Wd} {xs : List Wd} : isK T k 2 = true → d ≤ 60 → isT T (k + 1) 6 [40] = true → PR T (.word (k + 2) (d + 1)) (.one x k1) → PR T (.args k1 (d + 1) [x]) (.many xs k2) → isT T k2 6 [41] = false → PR T (.word k d) (.bad 102 (tok T k2).at_)
  | whole {k d k1 k2 : Nat} {x : Wd} {xs : List Wd} : isK T k 2 = true → d ≤ 60 → isT T (k + 1) 6 [40] = true → PR T (.word (k + 2) (d + 1)) (.one x k1) → PR T (.args k1 (d + 1) [x]) (.many xs k2) → isT T k2 6 [41] = true → PR T (.word k d) (.one (.mk (tok T k).text xs (tok T k).at_) (k2 + 1))
  | stop {k d : Nat} {acc : List Wd} : isT T k 6 [44] = false → PR T (.args k d acc) (.many acc k)
  | fail {k d e p : Nat} {acc : List Wd} : isT T k 6 [44] = true → PR T (.word (k + 1) d) (.bad e p) → PR T (.args k d acc) (.bad e p)
  | next {k d k1 : Nat} {acc : List Wd} {x : Wd} {a : Ans} : isT T k 6 [44] = true → PR T (.word (k + 1) d) (.one x k1) → PR T (.args k1 d (acc ++ [x])) a → PR T (.args k d acc) a

/-- words, one behind the other -/
inductive WordsR (T : List Tok) : Nat → List Wd → Out (List Wd) → Prop
  | stop {k : Nat} {acc : List Wd} : isK T k 2 = false → WordsR T k acc (.ok acc k)
  | fail {k e p : Nat} {acc : List Wd} : isK T k 2 = true → PR T (.word k 0) (.bad e p) → WordsR T k acc (.bad e p)
  | next {k k1 : Nat} {acc : List Wd} {x : Wd} {o : Out (List Wd)} : isK T k 2 = true → PR T (.word k 0) (.one x k1) → WordsR T k1 (acc ++ [x]) o → WordsR T k acc o
/-- behind an alternative's words: its precedence -/
def precL (T : List Tok) (k : Nat) : Out (List UInt8) :=
  if isT T k 1 [112, 114, 101, 99] then (if isK T (k + 1) 2 then .ok (tok T (k + 1)).text (k + 2) else .bad 102 (tok T (k + 1)).at_) else .ok [] k
/-- .. and its action -/
def actL (T : List Tok) (k0 : Nat) (ws : List Wd) (p : List UInt8) (k : Nat) : Al × Nat :=
  if isK T k 9 then (⟨ws, p, true, (tok T k).text, (tok T k).at_ + 1, (tok T k0).at_⟩, k + 1) else (⟨ws, p, false, [], 0, (tok T k0).at_⟩, k)
inductive AltR (T : List Tok) (k : Nat) : Out Al → Prop
  | words {e p : Nat} : WordsR T k [] (.bad e p) → AltR T k (.bad e p)
  | prec {ws : List Wd} {k1 e p : Nat} : WordsR T k [] (.ok ws k1) → precL T k1 = .bad e p → AltR T k (.bad e p)
  | ok {ws : List Wd} {k1 k2 : Nat} {q : List UInt8} : WordsR T k [] (.ok ws k1) → precL T k1 = .ok q k2 → AltR T k (.ok (actL T k ws q k2).1 (actL T k ws q k2).2)
/-- alternatives, behind one -/
inductive AltsR (T : List Tok) : Nat → List Al → Out (List Al) → Prop
  | stop {k : Nat} {acc : List Al} : isT T k 6 [124] = false → AltsR T k acc (.ok acc k)
  | fail {k e p : Nat} {acc : List Al} : isT T k 6 [124] = true → AltR T (k + 1) (.bad e p) → AltsR T k acc (.bad e p)
  | next {k k1 : Nat} {acc : List Al} {x : Al} {o : Out (List Al)} : isT T k 6 [124] = true → AltR T (k + 1) (.ok x k1) → AltsR T k1 (acc ++ [x]) o → AltsR T k acc o
/-- names with a comma between, behind one -/
inductive NamesR (T : List Tok) : Nat → List (List UInt8) → Out (List (List UInt8)) → Prop
  | stop {k : Nat} {acc : List (List UInt8)} : isT T k 6 [44] = false → NamesR T k acc (.ok acc k)
  | fail {k : Nat} {acc : List (List UInt8)} : isT T k 6 [44] = true → isK T (k + 1) 2 = false → NamesR T k acc (.bad 102 (tok T (k + 1)).at_)
  | next {k : Nat} {acc : List (List UInt8)} {o : Out (List (List UInt8))} : isT T k 6 [44] = true → isK T (k + 1) 2 = true → NamesR T (k + 2) (acc ++ [(tok T (k + 1)).text]) o → NamesR T k acc o
/-- a rule's parameters -/
inductive ParamsR (T : List Tok) (k : Nat) : Out (List (List UInt8)) → Prop
  | none : isT T k 6 [40] = false → ParamsR T k (.ok [] k)
  | first : isT T k 6 [40] = true → isK T (k + 1) 2 = false → ParamsR T k (.bad 102 (tok T (k + 1)).at_)
  | rest {e p : Nat} : isT T k 6 [40] = true → isK T (k + 1) 2 = true → NamesR T (k + 2) [(tok T (k + 1)).text] (.bad e p) → ParamsR T k (.bad e p)
  | close {xs : List (List UInt8)} {k1 : Nat} : isT T k 6 [40] = true → isK T (k + 1) 2 = true → NamesR T (k + 2) [(tok T (k + 1)).text] (.ok xs k1) → isT T k1 6 [41] = false → ParamsR T k (.bad 102 (tok T k1).at_)
  | whole {xs : List (List UInt8)} {k1 : Nat} : isT T k 6 [40] = true → isK T (k + 1) 2 = true → NamesR T (k + 2) [(tok T (k + 1)).text] (.ok xs k1) → isT T k1 6 [41] = true → ParamsR T k (.ok xs (k1 + 1))
inductive RuleR (T : List Tok) (k : Nat) : Out Ru → Prop
  | name : isK T k 2 = false → RuleR T k (.bad 102 (tok T k).at_)
  | params {e p : Nat} : isK T k 2 = true → ParamsR T (k + 1) (.bad e p) → RuleR T k (.bad e p)
  | colon {ps : List (List UInt8)} {k1 : Nat} : isK T k 2 = true → ParamsR T (k + 1) (.ok ps k1) → isT T k1 6 [58] = false → RuleR T k (.bad 102 (tok T k1).at_)
  | first {ps : List (List UInt8)} {k1 e p : Nat} : isK T k 2 = true → ParamsR T (k + 1) (.ok ps k1) → isT T k1 6 [58] = true → AltR T (k1 + 1) (.bad e p) → RuleR T k (.bad e p)
  | rest {ps : List (List UInt8)} {k1 k2 e p : Nat} {a : Al} : isK T k 2 = true → ParamsR T (k + 1) (.ok ps k1) → isT T k1 6 [58] = true → AltR T (k1 + 1) (.ok a k2) → AltsR T k2 [a] (.bad e p) → RuleR T k (.bad e p)
  | semi {ps : List (List UInt8)} {k1 k2 k3 : Nat} {a : Al} {as : List Al} : isK T k 2 = true → ParamsR T (k + 1) (.ok ps k1) → isT T k1 6 [58] = true → AltR T (k1 + 1) (.ok a k2) → AltsR T k2 [a] (.ok as k3) → isT T k3 6 [59] = false → RuleR T k (.bad 102 (tok T k3).at_)
  | whole {ps : List (List UInt8)} {k1 k2 k3 : Nat} {a : Al} {as : List Al} : isK T k 2 = true → ParamsR T (k + 1) (.ok ps k1) → isT T k1 6 [58] = true → AltR T (k1 + 1) (.ok a k2) → AltsR T k2 [a] (.ok as k3) → isT T k3 6 [59] = true → RuleR T k (.ok ⟨(tok T k).text, ps, as, (tok T k).at_⟩ (k3 + 1))
/-- a declaration's type, behind its word -/
def typeL (T : List Tok) (w : List UInt8) (k : Nat) : Out (List UInt8) :=
  if w = [116, 121, 112, 101] ∨ w = [116, 111, 107, 101, 110] ∧ isT T k 6 [60] = true then
    (if isT T k 6 [60] = false then .bad 102 (tok T k).at_
     else if isK T (k + 1) 2 = false then .bad 102 (tok T (k + 1)).at_
     else if isT T (k + 2) 6 [62] = false then .bad 102 (tok T (k + 2)).at_
     else .ok (tok T (k + 1)).text (k + 3))
  else .ok [] k
/-- names, one behind the other -/
def namesL (T : List Tok) : Nat → Nat → List (List UInt8) → List (List UInt8) × Nat
  | 0, k, acc => (acc, k)
  | m + 1, k, acc => if isK T k 2 then namesL T m (k + 1) (acc ++ [(tok T k).text]) else (acc, k)
/-- a declaration: its word is there -/
def declL (T : List Tok) (k : Nat) : Out De :=
  if (tok T k).text = [112, 114, 101, 99] then .bad 102 (tok T k).at_
  else match typeL T (tok T k).text (k + 1) with
    | .bad e p => .bad e p
    | .ok t k1 =>
      if isK T k1 2 = false then .bad 102 (tok T k1).at_
      else
        let r := namesL T T.length (k1 + 1) [(tok T k1).text]
        if isT T r.2 6 [59] = false then .bad 102 (tok T r.2).at_ else .ok ⟨(tok T k).text, t, r.1, (tok T k).at_⟩ (r.2 + 1)
inductive DeclsR (T : List Tok) : Nat → List De → Out (List De) → Prop
  | stop {k : Nat} {acc : List De} : isK T k 1 = false → DeclsR T k acc (.ok acc k)
  | fail {k e p : Nat} {acc : List De} : isK T k 1 = true → declL T k = .bad e p → DeclsR T k acc (.bad e p)
  | next {k k1 : Nat} {acc : List De} {x : De} {o : Out (List De)} : isK T k 1 = true → declL T k = .ok x k1 → DeclsR T k1 (acc ++ [x]) o → DeclsR T k acc o
inductive RulesR (T : List Tok) : Nat → List Ru → Out (List Ru) → Prop
  | stop {k : Nat} {acc : List Ru} : isK T k 7 = true → RulesR T k acc (.ok acc k)
  | fail {k e p : Nat} {acc : List Ru} : isK T k 7 = false → RuleR T k (.bad e p) → RulesR T k acc (.bad e p)
  | next {k k1 : Nat} {acc : List Ru} {x : Ru} {o : Out (List Ru)} : isK T k 7 = false → RuleR T k (.ok x k1) → RulesR T k1 (acc ++ [x]) o → RulesR T k acc o
/-- the text that tokens say -/
inductive TextR (T : List Tok) : Out Tx → Prop
  | decls {e p : Nat} : DeclsR T 0 [] (.bad e p) → TextR T (.bad e p)
  | mid {ds : List De} {k : Nat} : DeclsR T 0 [] (.ok ds k) → isT T k 6 [37, 37] = false → TextR T (.bad 102 (tok T k).at_)
  | rules {ds : List De} {k e p : Nat} : DeclsR T 0 [] (.ok ds k) → isT T k 6 [37, 37] = true → RulesR T (k + 1) [] (.bad e p) → TextR T (.bad e p)
  | whole {ds : List De} {k k1 : Nat} {rs : List Ru} : DeclsR T 0 [] (.ok ds k) → isT T k 6 [37, 37] = true → RulesR T (k + 1) [] (.ok rs k1) → TextR T (.ok ⟨ds, rs⟩ k1)

/-! each has an answer: the last token is the end, and none is read over it -/
/-- a row of tokens as lexers tell: the last one, alone, is the end -/
structure Ends (T : List Tok) : Prop where
  pos : 0 < T.length
  last : (tok T (T.length - 1)).kind = 7
  only : ∀ k, k < T.length - 1 → (tok T k).kind ≠ 7
theorem Ends.lt {T : List Tok} (h : Ends T) {k kind : Nat} (hk : k < T.length) (h1 : (tok T k).kind = kind) (h7 : kind ≠ 7) : k + 1 < T.length := by
  have := h.pos
  rcases Nat.lt_or_ge (k + 1) T.length with h2 | h2
  · exact h2
  · obtain rfl : k = T.length - 1 := by omega
    exact absurd (h1.symm.trans h.last) h7
theorem isK_eq {T : List Tok} {k kind : Nat} (h : isK T k kind = true) : (tok T k).kind = kind := by simpa [isK] using h
theorem isT_eq {T : List Tok} {k kind : Nat} {t : List UInt8} (h : isT T k kind t = true) : (tok T k).kind = kind ∧ (tok T k).text = t := by simpa [isT] using h
theorem Ends.ltK {T : List Tok} (h : Ends T) {k kind : Nat} (hk : k < T.length) (h1 : isK T k kind = true) (h7 : kind ≠ 7 := by decide) : k + 1 < T.length := h.lt hk (isK_eq h1) h7
theorem Ends.ltT {T : List Tok} (h : Ends T) {k kind : Nat} {t : List UInt8} (hk : k < T.length) (h1 : isT T k kind t = true) (h7 : kind ≠ 7 := by decide) : k + 1 < T.length := h.lt hk (isT_eq h1).1 h7

/-- an answer to a word goes on -/
def Ans.past (k n : Nat) : Ans → Prop
  | .one _ k1 => k < k1 ∧ k1 < n
  | .many _ k1 => k ≤ k1 ∧ k1 < n
  | .bad _ _ => True
def Out.past {α : Type} (k n : Nat) : Out α → Prop
  | .ok _ k1 => k ≤ k1 ∧ k1 < n
  | .bad _ _ => True
theorem PR.one_of {T : List Tok} {k d : Nat} {a : Ans} (h : PR T (.word k d) a) : (∃ x k1, a = .one x k1) ∨ ∃ e p, a = .bad e p := by
  cases h <;> first | exact .inl ⟨_, _, rfl⟩ | exact .inr ⟨_, _, rfl⟩
theorem PR.many_of {T : List Tok} {j : Job} {a : Ans} (h : PR T j a) : ∀ k d acc, j = .args k d acc → (∃ xs k1, a = .many xs k1) ∨ ∃ e p, a = .bad e p := by
  induction h with
  | next _ _ _ _ ih => intro k d acc e; cases e; exact ih _ _ _ rfl
  | _ => intro k d acc e; cases e <;> first | exact .inl ⟨_, _, rfl⟩ | exact .inr ⟨_, _, rfl⟩
theorem total_args {T : List Tok} (hT : Ends T) (m : Nat) (hw : ∀ k d, T.length - k ≤ m → k < T.length → ∃ a, PR T (.word k d) a ∧ a.past k T.length) :
    ∀ (q k d : Nat) (acc : List Wd), T.length - k ≤ q → q ≤ m + 1 → k < T.length → ∃ a, PR T (.args k d acc) a ∧ a.past k T.length := by
  intro q
  induction q with
  | zero => intro k d acc h _ hk; omega
  | succ q ih =>
    intro k d acc h hq hk
    cases hc : isT T k 6 [44] with
    | false => exact ⟨_, .stop hc, by simp [Ans.past]; omega⟩
    | true =>
      have h1 := hT.ltT hk hc
      obtain ⟨a, ha, hp⟩ := hw (k + 1) d (by omega) h1
      rcases ha.one_of with ⟨x, k1, rfl⟩ | ⟨e, p, rfl⟩
      · obtain ⟨p1, p2⟩ := hp
        obtain ⟨b, hb, hbp⟩ := ih k1 d (acc ++ [x]) (by omega) (by omega) p2
        refine ⟨b, .next hc ha hb, ?_⟩
        cases b <;> simp [Ans.past] at hbp ⊢ <;> omega
      · exact ⟨_, .fail hc ha, trivial⟩
theorem total_word {T : List Tok} (hT : Ends T) : ∀ (m k d : Nat), T.length - k ≤ m → k < T.length → ∃ a, PR T (.word k d) a ∧ a.past k T.length := by
  intro m
  induction m with
  | zero => intro k d h hk; omega
  | succ m ih =>
    intro k d h hk
    cases h2 : isK T k 2 with
    | false => exact ⟨_, .none h2, trivial⟩
    | true =>
      by_cases hd : 60 < d
      · exact ⟨_, .deep h2 hd, trivial⟩
      have hd' : d ≤ 60 := by omega
      have hk1 := hT.ltK hk h2
      cases h3 : isT T (k + 1) 6 [40] with
      | false => exact ⟨_, .name h2 hd' h3, by simp [Ans.past]; omega⟩
      | true =>
        have hk2 := hT.ltT hk1 h3
        obtain ⟨a, ha, hp⟩ := ih (k + 2) (d + 1) (by omega) hk2
        rcases ha.one_of with ⟨x, k1, rfl⟩ | ⟨e, p, rfl⟩
        · obtain ⟨p1, p2⟩ := hp
          obtain ⟨b, hb, hbp⟩ := total_args hT m (fun k d => ih k d) (T.length - k1) k1 (d + 1) [x] (Nat.le_refl _) (by omega) p2
          rcases hb.many_of _ _ _ rfl with ⟨xs, k2, rfl⟩ | ⟨e, p, rfl⟩
          · obtain ⟨q1, q2⟩ := hbp
            cases h4 : isT T k2 6 [41] with
            | false => exact ⟨_, .close h2 hd' h3 ha hb h4, trivial⟩
            | true =>
              have := hT.ltT q2 h4
              exact ⟨_, .whole h2 hd' h3 ha hb h4, by simp [Ans.past]; omega⟩
          · exact ⟨_, .rest h2 hd' h3 ha hb, trivial⟩
        · exact ⟨_, .first h2 hd' h3 ha, trivial⟩
theorem total_words {T : List Tok} (hT : Ends T) : ∀ (m k : Nat) (acc : List Wd), T.length - k ≤ m → k < T.length → ∃ o, WordsR T k acc o ∧ o.past k T.length := by
  intro m
  induction m with
  | zero => intro k acc h hk; omega
  | succ m ih =>
    intro k acc h hk
    cases h2 : isK T k 2 with
    | false => exact ⟨_, .stop h2, by simp [Out.past]; omega⟩
    | true =>
      obtain ⟨a, ha, hp⟩ := total_word hT _ k 0 (Nat.le_refl _) hk
      rcases ha.one_of with ⟨x, k1, rfl⟩ | ⟨e, p, rfl⟩
      · obtain ⟨p1, p2⟩ := hp
        obtain ⟨o, ho, hop⟩ := ih k1 (acc ++ [x]) (by omega) p2
        refine ⟨o, .next h2 ha ho, ?_⟩
        cases o <;> simp [Out.past] at hop ⊢; omega
      · exact ⟨_, .fail h2 ha, trivial⟩
theorem precL_past {T : List Tok} (hT : Ends T) {k : Nat} (hk : k < T.length) : (precL T k).past k T.length := by
  unfold precL
  split
  · rename_i h
    have h1 := hT.ltT hk h
    split
    · rename_i h2
      have := hT.ltK h1 h2
      simp [Out.past]; omega
    · trivial
  · simp [Out.past]; omega
theorem actL_past {T : List Tok} (hT : Ends T) {k0 k : Nat} {ws : List Wd} {q : List UInt8} (hk : k < T.length) : k ≤ (actL T k0 ws q k).2 ∧ (actL T k0 ws q k).2 < T.length := by
  unfold actL
  split
  · rename_i h
    have := hT.ltK hk h
    simp only; omega
  · simp only; omega
theorem total_alt {T : List Tok} (hT : Ends T) {k : Nat} (hk : k < T.length) : ∃ o, AltR T k o ∧ o.past k T.length := by
  obtain ⟨o, ho, hp⟩ := total_words hT _ k [] (Nat.le_refl _) hk
  cases o with
  | bad e p => exact ⟨_, .words ho, trivial⟩
  | ok ws k1 =>
    obtain ⟨p1, p2⟩ := hp
    have hq := precL_past hT p2
    cases hc : precL T k1 with
    | bad e p => exact ⟨_, .prec ho hc, trivial⟩
    | ok q k2 =>
      rw [hc] at hq
      obtain ⟨q1, q2⟩ := hq
      have := actL_past (k0 := k) (ws := ws) (q := q) hT q2
      exact ⟨_, .ok ho hc, by simp [Out.past]; omega⟩
theorem total_alts {T : List Tok} (hT : Ends T) : ∀ (m k : Nat) (acc : List Al), T.length - k ≤ m → k < T.length → ∃ o, AltsR T k acc o ∧ o.past k T.length := by
  intro m
  induction m with
  | zero => intro k acc h hk; omega
  | succ m ih =>
    intro k acc h hk
    cases h2 : isT T k 6 [124] with
    | false => exact ⟨_, .stop h2, by simp [Out.past]; omega⟩
    | true =>
      have hk1 := hT.ltT hk h2
      obtain ⟨a, ha, hp⟩ := total_alt hT hk1
      cases a with
      | bad e p => exact ⟨_, .fail h2 ha, trivial⟩
      | ok x k1 =>
        obtain ⟨p1, p2⟩ := hp
        obtain ⟨o, ho, hop⟩ := ih k1 (acc ++ [x]) (by omega) p2
        refine ⟨o, .next h2 ha ho, ?_⟩
        cases o <;> simp [Out.past] at hop ⊢; omega
theorem total_names {T : List Tok} (hT : Ends T) : ∀ (m k : Nat) (acc : List (List UInt8)), T.length - k ≤ m → k < T.length → ∃ o, NamesR T k acc o ∧ o.past k T.length := by
  intro m
  induction m with
  | zero => intro k acc h hk; omega
  | succ m ih =>
    intro k acc h hk
    cases h2 : isT T k 6 [44] with
    | false => exact ⟨_, .stop h2, by simp [Out.past]; omega⟩
    | true =>
      have hk1 := hT.ltT hk h2
      cases h3 : isK T (k + 1) 2 with
      | false => exact ⟨_, .fail h2 h3, trivial⟩
      | true =>
        have hk2 := hT.ltK hk1 h3
        obtain ⟨o, ho, hop⟩ := ih (k + 2) (acc ++ [(tok T (k + 1)).text]) (by omega) hk2
        refine ⟨o, .next h2 h3 ho, ?_⟩
        cases o <;> simp [Out.past] at hop ⊢; omega
theorem total_params {T : List Tok} (hT : Ends T) {k : Nat} (hk : k < T.length) : ∃ o, ParamsR T k o ∧ o.past k T.length := by
  cases h2 : isT T k 6 [40] with
  | false => exact ⟨_, .none h2, by simp [Out.past]; omega⟩
  | true =>
    have hk1 := hT.ltT hk h2
    cases h3 : isK T (k + 1) 2 with
    | false => exact ⟨_, .first h2 h3, trivial⟩
    | true =>
      have hk2 := hT.ltK hk1 h3
      obtain ⟨o, ho, hop⟩ := total_names hT _ (k + 2) [(tok T (k + 1)).text] (Nat.le_refl _) hk2
      cases o with
      | bad e p => exact ⟨_, .rest h2 h3 ho, trivial⟩
      | ok xs k1 =>
        obtain ⟨p1, p2⟩ := hop
        cases h4 : isT T k1 6 [41] with
        | false => exact ⟨_, .close h2 h3 ho h4, trivial⟩
        | true =>
          have := hT.ltT p2 h4
          exact ⟨_, .whole h2 h3 ho h4, by simp [Out.past]; omega⟩
theorem total_rule {T : List Tok} (hT : Ends T) {k : Nat} (hk : k < T.length) : ∃ o, RuleR T k o ∧ (∀ x k1, o = .ok x k1 → k < k1 ∧ k1 < T.length) := by
  cases h2 : isK T k 2 with
  | false => exact ⟨_, .name h2, by intro _ _ e; cases e⟩
  | true =>
    have hk1 := hT.ltK hk h2
    obtain ⟨o, ho, hop⟩ := total_params hT hk1
    cases o with
    | bad e p => exact ⟨_, .params h2 ho, by intro _ _ e; cases e⟩
    | ok ps k1 =>
      obtain ⟨p1, p2⟩ := hop
      cases h3 : isT T k1 6 [58] with
      | false => exact ⟨_, .colon h2 ho h3, by intro _ _ e; cases e⟩
      | true =>
        have hk2 := hT.ltT p2 h3
        obtain ⟨a, ha, hap⟩ := total_alt hT hk2
        cases a with
        | bad e p => exact ⟨_, .first h2 ho h3 ha, by intro _ _ e; cases e⟩
        | ok a k2 =>
          obtain ⟨q1, q2⟩ := hap
          obtain ⟨r, hr, hrp⟩ := total_alts hT _ k2 [a] (Nat.le_refl _) q2
          cases r with
          | bad e p => exact ⟨_, .rest h2 ho h3 ha hr, by intro _ _ e; cases e⟩
          | ok as k3 =>
            obtain ⟨r1, r2⟩ := hrp
            cases h4 : isT T k3 6 [59] with
            | false => exact ⟨_, .semi h2 ho h3 ha hr h4, by intro _ _ e; cases e⟩
            | true =>
              have := hT.ltT r2 h4
              exact ⟨_, .whole h2 ho h3 ha hr h4, by intro _ _ e; cases e; omega⟩
theorem namesL_past {T : List Tok} (hT : Ends T) : ∀ (m k : Nat) (acc : List (List UInt8)), k < T.length → k ≤ (namesL T m k acc).2 ∧ (namesL T m k acc).2 < T.length
  | 0, k, acc, hk => ⟨Nat.le_refl _, hk⟩
  | m + 1, k, acc, hk => by
    simp only [namesL]
    split
    · rename_i h
      have := namesL_past hT m (k + 1) (acc ++ [(tok T k).text]) (hT.ltK hk h)
      omega
    · exact ⟨Nat.le_refl _, hk⟩
theorem typeL_past {T : List Tok} (hT : Ends T) {w : List UInt8} {k : Nat} (hk : k < T.length) : (typeL T w k).past k T.length := by
  unfold typeL
  split
  · split
    · trivial
    · rename_i h1
      have k1 := hT.ltT hk (by simpa using h1)
      split
      · trivial
      · rename_i h2
        have k2 := hT.ltK k1 (by simpa using h2)
        split
        · trivial
        · rename_i h3
          have k3 := hT.ltT k2 (by simpa using h3)
          simp [Out.past]; omega
  · simp [Out.past]; omega
theorem declL_past {T : List Tok} (hT : Ends T) {k : Nat} (hk : k < T.length) (h1 : isK T k 1 = true) : ∀ x k1, declL T k = .ok x k1 → k < k1 ∧ k1 < T.length := by
  intro x k1 h
  unfold declL at h
  split at h
  · cases h
  · have hp := typeL_past hT (w := (tok T k).text) (hT.ltK hk h1)
    split at h
    · cases h
    · rename_i t k2 hc
      rw [hc] at hp
      obtain ⟨p1, p2⟩ := hp
      split at h
      · cases h
      · rename_i h2
        have hq := namesL_past hT T.length (k2 + 1) [(tok T k2).text] (hT.ltK p2 (by simpa using h2))
        simp only at h
        split at h
        · cases h
        · rename_i h3
          have := hT.ltT hq.2 (by simpa using h3)
          cases h; omega
theorem total_decls {T : List Tok} (hT : Ends T) : ∀ (m k : Nat) (acc : List De), T.length - k ≤ m → k < T.length → ∃ o, DeclsR T k acc o ∧ o.past k T.length := by
  intro m
  induction m with
  | zero => intro k acc h hk; omega
  | succ m ih =>
    intro k acc h hk
    cases h2 : isK T k 1 with
    | false => exact ⟨_, .stop h2, by simp [Out.past]; omega⟩
    | true =>
      cases hd : declL T k with
      | bad e p => exact ⟨_, .fail h2 hd, trivial⟩
      | ok x k1 =>
        obtain ⟨p1, p2⟩ := declL_past hT hk h2 x k1 hd
        obtain ⟨o, ho, hop⟩ := ih k1 (acc ++ [x]) (by omega) p2
        refine ⟨o, .next h2 hd ho, ?_⟩
        cases o <;> simp [Out.past] at hop ⊢; omega
theorem total_rules {T : List Tok} (hT : Ends T) : ∀ (m k : Nat) (acc : List Ru), T.length - k ≤ m → k < T.length → ∃ o, RulesR T k acc o ∧ o.past k T.length := by
  intro m
  induction m with
  | zero => intro k acc h hk; omega
  | succ m ih =>
    intro k acc h hk
    cases h2 : isK T k 7 with
    | true => exact ⟨_, .stop h2, by simp [Out.past]; omega⟩
    | false =>
      obtain ⟨a, ha, hap⟩ := total_rule hT hk
      cases a with
      | bad e p => exact ⟨_, .fail h2 ha, trivial⟩
      | ok x k1 =>
        obtain ⟨p1, p2⟩ := hap x k1 rfl
        obtain ⟨o, ho, hop⟩ := ih k1 (acc ++ [x]) (by omega) p2
        refine ⟨o, .next h2 ha ho, ?_⟩
        cases o <;> simp [Out.past] at hop ⊢; omega
/-- each row of tokens has an answer -/
theorem total_text {T : List Tok} (hT : Ends T) : ∃ o, TextR T o := by
  obtain ⟨o, ho, hp⟩ := total_decls hT _ 0 [] (Nat.le_refl _) hT.pos
  cases o with
  | bad e p => exact ⟨_, .decls ho⟩
  | ok ds k =>
    obtain ⟨p1, p2⟩ := hp
    cases h : isT T k 6 [37, 37] with
    | false => exact ⟨_, .mid ho h⟩
    | true =>
      obtain ⟨r, hr, _⟩ := total_rules hT _ (k + 1) [] (Nat.le_refl _) (hT.ltT p2 h)
      cases r with
      | bad e p => exact ⟨_, .rules ho h hr⟩
      | ok rs k1 => exact ⟨_, .whole ho h hr⟩
end Go.Proofs.Ytelpkldlkpoioaa.Ready
