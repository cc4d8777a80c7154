/- What a reader of grammars' texts answers: a relation on lists of tokens; no program in sight. -/
import Derived.Test.YtelpkldlkpoioaaLexPlain
namespace Go.Proofs.Ytelpkldlkpoioaa.Ready
open Go.Proofs.Ytelpkldlkpoioaa.Lexy

/-- a word: a name, what it is given, a place -/
inductive Wd
  | mk (name : List UInt8) (args : List Wd) (at_ : Int)
structure Al where
  words : List Wd
  prec : List UInt8
  has : Bool
  action : List UInt8
  whr : Int
  at_ : Int
structure Ru where
  name : List UInt8
  params : List (List UInt8)
  alts : List Al
  at_ : Int
structure De where
  kind : List UInt8
  type : List UInt8
  names : List (List UInt8)
  at_ : Int
structure Tx where
  decls : List De
  rules : List Ru

/-- an answer: what was read, and where the next token is; or an error, and where -/
inductive Out (α : Type)
  | ok (x : α) (k : Nat)
  | bad (e p : Nat)

/-- the token at a place of a list -/
def tok (T : List Tok) (i : Nat) : Tok := T.getD i ⟨0, [], 0⟩
def isK (T : List Tok) (k kind : Nat) : Bool := decide ((tok T k).kind = kind)
def isT (T : List Tok) (k kind : Nat) (t : List UInt8) : Bool := decide ((tok T k).kind = kind) && decide ((tok T k).text = t)

/-- what is read: a word in so many others; what goes on behind an argument -/
inductive Job
  | word (k d : Nat)
  | args (k d : Nat) (acc : List Wd)
inductive Ans
  | one (x : Wd) (k : Nat)
  | many (xs : List Wd) (k : Nat)
  | bad (e p : Nat)
inductive PR (T : List Tok) : Job → Ans → Prop
  | deep {k d : Nat} : isK T k 2 = true → 60 < d → PR T (.word k d) (.bad 103 (tok T k).at_)
  | none {k d : Nat} : isK T k 2 = false → PR T (.word k d) (.bad 102 (tok T k).at_)
  | name {k d : Nat} : isK T k 2 = true → d ≤ 60 → isT T (k + 1) 6 [40] = false → PR T (.word k d) (.one (.mk (tok T k).text [] (tok T k).at_) (k + 1))
  | first {k d e p : Nat} : isK T k 2 = true → d ≤ 60 → isT T (k + 1) 6 [40] = true → PR T (.word (k + 2) (d + 1)) (.bad e p) → PR T (.word k d) (.bad e p)
  | rest {k d k1 e p : Nat} {x : Wd} : isK T k 2 = true → d ≤ 60 → isT T (k + 1) 6 [40] = true → PR T (.word (k + 2) (d + 1)) (.one x k1) → PR T (.args k1 (d + 1) [x]) (.bad e p) → PR T (.word k d) (.bad e p)
  | close {k d k1 k2 : Nat} {x : Wd} {xs : List Wd} : isK T k 2 = true → d ≤ 60 → isT T (k + 1) 6 [40] = true → PR T (.word (k + 2) (d + 1)) (.one x k1) → PR T (.args k1 (d + 1) [x]) (.many xs k2) → isT T k2 6 [41] = false → PR T (.word k d) (.bad 102 (tok T k2).at_)
  | whole {k d k1 k2 : Nat} {x : Wd} {xs : List Wd} : isK T k 2 = true → d ≤ 60 → isT T (k + 1) 6 [40] = true → PR T (.word (k + 2) (d + 1)) (.one x k1) → PR T (.args k1 (d + 1) [x]) (.many xs k2) → isT T k2 6 [41] = true → PR T (.word k d) (.one (.mk (tok T k).text xs (tok T k).at_) (k2 + 1))
  | stop {k d : Nat} {acc : List Wd} : isT T k 6 [44] = false → PR T (.args k d acc) (.many acc k)
  | fail {k d e p : Nat} {acc : List Wd} : isT T k 6 [44] = true → PR T (.word (k + 1) d) (.bad e p) → PR T (.args k d acc) (.bad e p)
  | next {k d k1 : Nat} {acc : List Wd} {x : Wd} {a : Ans} : isT T k 6 [44] = true → PR T (.word (k + 1) d) (.one x k1) → PR T (.args k1 d (acc ++ [x])) a → PR T (.args k d acc) a

/-- words, one behind the other -/
inductive WordsR (T : List Tok) : Nat → List Wd → Out (List Wd) → Prop
  | stop {k : Nat} {acc : List Wd} : isK T k 2 = false → WordsR T k acc (.ok acc k)
  | fail {k e p : Nat} {acc : List Wd} : isK T k 2 = true → PR T (.word k 0) (.bad e p) → WordsR T k acc (.bad e p)
  | next {k k1 : Nat} {acc : List Wd} {x : Wd} {o : Out (List Wd)} : isK T k 2 = true → PR T (.word k 0) (.one x k1) → WordsR T k1 (acc ++ [x]) o → WordsR T k acc o
/-- behind an alternative's words: its precedence -/
def precL (T : List Tok) (k : Nat) : Out (List UInt8) :=
  if isT T k 1 [112, 114, 101, 99] then (if isK T (k + 1) 2 then .ok (tok T (k + 1)).text (k + 2) else .bad 102 (tok T (k + 1)).at_) else .ok [] k
/-- .. and its action -/
def actL (T : List Tok) (k0 : Nat) (ws : List Wd) (p : List UInt8) (k : Nat) : Al × Nat :=
  if isK T k 9 then (⟨ws, p, true, (tok T k).text, ((tok T k).at_ + 1 : Nat), (tok T k0).at_⟩, k + 1) else (⟨ws, p, false, [], 0, (tok T k0).at_⟩, k)
inductive AltR (T : List Tok) (k : Nat) : Out Al → Prop
  | words {e p : Nat} : WordsR T k [] (.bad e p) → AltR T k (.bad e p)
  | prec {ws : List Wd} {k1 e p : Nat} : WordsR T k [] (.ok ws k1) → precL T k1 = .bad e p → AltR T k (.bad e p)
  | ok {ws : List Wd} {k1 k2 : Nat} {q : List UInt8} : WordsR T k [] (.ok ws k1) → precL T k1 = .ok q k2 → AltR T k (.ok (actL T k ws q k2).1 (actL T k ws q k2).2)
/-- alternatives, behind one -/
inductive AltsR (T : List Tok) : Nat → List Al → Out (List Al) → Prop
  | stop {k : Nat} {acc : List Al} : isT T k 6 [124] = false → AltsR T k acc (.ok acc k)
  | fail {k e p : Nat} {acc : List Al} : isT T k 6 [124] = true → AltR T (k + 1) (.bad e p) → AltsR T k acc (.bad e p)
  | next {k k1 : Nat} {acc : List Al} {x : Al} {o : Out (List Al)} : isT T k 6 [124] = true → AltR T (k + 1) (.ok x k1) → AltsR T k1 (acc ++ [x]) o → AltsR T k acc o
/-- names with a comma between, behind one -/
inductive NamesR (T : List Tok) : Nat → List (List UInt8) → Out (List (List UInt8)) → Prop
  | stop {k : Nat} {acc : List (List UInt8)} : isT T k 6 [44] = false → NamesR T k acc (.ok acc k)
  | fail {k : Nat} {acc : List (List UInt8)} : isT T k 6 [44] = true → isK T (k + 1) 2 = false → NamesR T k acc (.bad 102 (tok T (k + 1)).at_)
  | next {k : Nat} {acc : List (List UInt8)} {o : Out (List (List UInt8))} : isT T k 6 [44] = true → isK T (k + 1) 2 = true → NamesR T (k + 2) (acc ++ [(tok T (k + 1)).text]) o → NamesR T k acc o
/-- a rule's parameters -/
inductive ParamsR (T : List Tok) (k : Nat) : Out (List (List UInt8)) → Prop
  | none : isT T k 6 [40] = false → ParamsR T k (.ok [] k)
  | first : isT T k 6 [40] = true → isK T (k + 1) 2 = false → ParamsR T k (.bad 102 (tok T (k + 1)).at_)
  | rest {e p : Nat} : isT T k 6 [40] = true → isK T (k + 1) 2 = true → NamesR T (k + 2) [(tok T (k + 1)).text] (.bad e p) → ParamsR T k (.bad e p)
  | close {xs : List (List UInt8)} {k1 : Nat} : isT T k 6 [40] = true → isK T (k + 1) 2 = true → NamesR T (k + 2) [(tok T (k + 1)).text] (.ok xs k1) → isT T k1 6 [41] = false → ParamsR T k (.bad 102 (tok T k1).at_)
  | whole {xs : List (List UInt8)} {k1 : Nat} : isT T k 6 [40] = true → isK T (k + 1) 2 = true → NamesR T (k + 2) [(tok T (k + 1)).text] (.ok xs k1) → isT T k1 6 [41] = true → ParamsR T k (.ok xs (k1 + 1))
inductive RuleR (T : List Tok) (k : Nat) : Out Ru → Prop
  | name : isK T k 2 = false → RuleR T k (.bad 102 (tok T k).at_)
  | params {e p : Nat} : isK T k 2 = true → ParamsR T (k + 1) (.bad e p) → RuleR T k (.bad e p)
  | colon {ps : List (List UInt8)} {k1 : Nat} : isK T k 2 = true → ParamsR T (k + 1) (.ok ps k1) → isT T k1 6 [58] = false → RuleR T k (.bad 102 (tok T k1).at_)
  | first {ps : List (List UInt8)} {k1 e p : Nat} : isK T k 2 = true → ParamsR T (k + 1) (.ok ps k1) → isT T k1 6 [58] = true → AltR T (k1 + 1) (.bad e p) → RuleR T k (.bad e p)
  | rest {ps : List (List UInt8)} {k1 k2 e p : Nat} {a : Al} : isK T k 2 = true → ParamsR T (k + 1) (.ok ps k1) → isT T k1 6 [58] = true → AltR T (k1 + 1) (.ok a k2) → AltsR T k2 [a] (.bad e p) → RuleR T k (.bad e p)
  | semi {ps : List (List UInt8)} {k1 k2 k3 : Nat} {a : Al} {as : List Al} : isK T k 2 = true → ParamsR T (k + 1) (.ok ps k1) → isT T k1 6 [58] = true → AltR T (k1 + 1) (.ok a k2) → AltsR T k2 [a] (.ok as k3) → isT T k3 6 [59] = false → RuleR T k (.bad 102 (tok T k3).at_)
  | whole {ps : List (List UInt8)} {k1 k2 k3 : Nat} {a : Al} {as : List Al} : isK T k 2 = true → ParamsR T (k + 1) (.ok ps k1) → isT T k1 6 [58] = true → AltR T (k1 + 1) (.ok a k2) → AltsR T k2 [a] (.ok as k3) → isT T k3 6 [59] = true → RuleR T k (.ok ⟨(tok T k).text, ps, as, (tok T k).at_⟩ (k3 + 1))
/-- a declaration's type, behind its word -/
def typeL (T : List Tok) (w : List UInt8) (k : Nat) : Out (List UInt8) :=
  if w = [116, 121, 112, 101] ∨ w = [116, 111, 107, 101, 110] ∧ isT T k 6 [60] = true then
    (if isT T k 6 [60] = false then .bad 102 (tok T k).at_
     else if isK T (k + 1) 2 = false then .bad 102 (tok T (k + 1)).at_
     else if isT T (k + 2) 6 [62] = false then .bad 102 (tok T (k + 2)).at_
     else .ok (tok T (k + 1)).text (k + 3))
  else .ok [] k
/-- names, one behind the other -/
def namesL (T : List Tok) : Nat → Nat → List (List UInt8) → List (List UInt8) × Nat
  | 0, k, acc => (acc, k)
  | m + 1, k, acc => if isK T k 2 then namesL T m (k + 1) (acc ++ [(tok T k).text]) else (acc, k)
/-- a declaration: its word is there -/
def declL (T : List Tok) (k : Nat) : Out De :=
  if (tok T k).text = [112, 114, 101, 99] then .bad 102 (tok T k).at_
  else match typeL T (tok T k).text (k + 1) with
    | .bad e p => .bad e p
    | .ok t k1 =>
      if isK T k1 2 = false then .bad 102 (tok T k1).at_
      else
        let r := namesL T T.length (k1 + 1) [(tok T k1).text]
        if isT T r.2 6 [59] = false then .bad 102 (tok T r.2).at_ else .ok ⟨(tok T k).text, t, r.1, (tok T k).at_⟩ (r.2 + 1)
inductive DeclsR (T : List Tok) : Nat → List De → Out (List De) → Prop
  | stop {k : Nat} {acc : List De} : isK T k 1 = false → DeclsR T k acc (.ok acc k)
  | fail {k e p : Nat} {acc : List De} : isK T k 1 = true → declL T k = .bad e p → DeclsR T k acc (.bad e p)
  | next {k k1 : Nat} {acc : List De} {x : De} {o : Out (List De)} : isK T k 1 = true → declL T k = .ok x k1 → DeclsR T k1 (acc ++ [x]) o → DeclsR T k acc o
inductive RulesR (T : List Tok) : Nat → List Ru → Out (List Ru) → Prop
  | stop {k : Nat} {acc : List Ru} : isK T k 7 = true → RulesR T k acc (.ok acc k)
  | fail {k e p : Nat} {acc : List Ru} : isK T k 7 = false → RuleR T k (.bad e p) → RulesR T k acc (.bad e p)
  | next {k k1 : Nat} {acc : List Ru} {x : Ru} {o : Out (List Ru)} : isK T k 7 = false → RuleR T k (.ok x k1) → RulesR T k1 (acc ++ [x]) o → RulesR T k acc o
/-- the text that tokens say -/
inductive TextR (T : List Tok) : Out Tx → Prop
  | decls {e p : Nat} : DeclsR T 0 [] (.bad e p) → TextR T (.bad e p)
  | mid {ds : List De} {k : Nat} : DeclsR T 0 [] (.ok ds k) → isT T k 6 [37, 37] = false → TextR T (.bad 102 (tok T k).at_)
  | rules {ds : List De} {k e p : Nat} : DeclsR T 0 [] (.ok ds k) → isT T k 6 [37, 37] = true → RulesR T (k + 1) [] (.bad e p) → TextR T (.bad e p)
  | whole {ds : List De} {k k1 : Nat} {rs : List Ru} : DeclsR T 0 [] (.ok ds k) → isT T k 6 [37, 37] = true → RulesR T (k + 1) [] (.ok rs k1) → TextR T (.ok ⟨ds, rs⟩ k1)

/-! each has an answer: the last token is the end, and none is read over it -/
/-- a row of tokens as lexers tell: the last one, alone, is the end -/
structure Ends (T : List Tok) : Prop where
  pos : 0 < T.length
  last : (tok T (T.length - 1)).kind = 7
  only : ∀ k, k < T.length - 1 → (tok T k).kind ≠ 7
theorem Ends.lt {T : List Tok} (h : Ends T) {k kind : Nat} (hk : k < T.length) (h1 : (tok T k).kind = kind) (h7 : kind ≠ 7) : k + 1 < T.length := by
  have := h.pos
  rcases Nat.lt_or_ge (k + 1) T.length with h2 | h2
  · exact h2
  · obtain rfl : k = T.length - 1 := by omega
    exact absurd (h1.symm.trans h.last) h7
theorem isK_eq {T : List Tok} {k kind : Nat} (h : isK T k kind = true) : (tok T k).kind = kind := by simpa [isK] using h
theorem isT_eq {T : List Tok} {k kind : Nat} {t : List UInt8} (h : isT T k kind t = true) : (tok T k).kind = kind ∧ (tok T k).text = t := by simpa [isT] using h
theorem Ends.ltK {T : List Tok} (h : Ends T) {k kind : Nat} (hk : k < T.length) (h1 : isK T k kind = true) (h7 : kind ≠ 7 := by decide) : k + 1 < T.length := h.lt hk (isK_eq h1) h7
theorem Ends.ltT {T : List Tok} (h : Ends T) {k kind : Nat} {t : List UInt8} (hk : k < T.length) (h1 : isT T k kind t = true) (h7 : kind ≠ 7 := by decide) : k + 1 < T.length := h.lt hk (isT_eq h1).1 h7

/-- an answer to a word goes on -/
def Ans.past (k n : Nat) : Ans → Prop
  | .one _ k1 => k < k1 ∧ k1 < n
  | .many _ k1 => k ≤ k1 ∧ k1 < n
  | .bad _ _ => True
def Out.past {α : Type} (k n : Nat) : Out α → Prop
  | .ok _ k1 => k ≤ k1 ∧ k1 < n
  | .bad _ _ => True
theorem PR.one_of {T : List Tok} {k d : Nat} {a : Ans} (h : PR T (.word k d) a) : (∃ x k1, a = .one x k1) ∨ ∃ e p, a = .bad e p := by
  cases h <;> first | exact .inl ⟨_, _, rfl⟩ | exact .inr ⟨_, _, rfl⟩
theorem PR.many_of {T : List Tok} {j : Job} {a : Ans} (h : PR T j a) : ∀ k d acc, j = .args k d acc → (∃ xs k1, a = .many xs k1) ∨ ∃ e p, a = .bad e p := by
  induction h with
  | next _ _ _ _ ih => intro k d acc e; cases e; exact ih _ _ _ rfl
  | _ => intro k d acc e; cases e <;> first | exact .inl ⟨_, _, rfl⟩ | exact .inr ⟨_, _, rfl⟩
theorem total_args {T : List Tok} (hT : Ends T) (m : Nat) (hw : ∀ k d, T.length - k ≤ m → k < T.length → ∃ a, PR T (.word k d) a ∧ a.past k T.length) :
    ∀ (q k d : Nat) (acc : List Wd), T.length - k ≤ q → q ≤ m + 1 → k < T.length → ∃ a, PR T (.args k d acc) a ∧ a.past k T.length := by
  intro q
  induction q with
  | zero => intro k d acc h _ hk; omega
  | succ q ih =>
    intro k d acc h hq hk
    cases hc : isT T k 6 [44] with
    | false => exact ⟨_, .stop hc, by simp [Ans.past]; omega⟩
    | true =>
      have h1 := hT.ltT hk hc
      obtain ⟨a, ha, hp⟩ := hw (k + 1) d (by omega) h1
      rcases ha.one_of with ⟨x, k1, rfl⟩ | ⟨e, p, rfl⟩
      · obtain ⟨p1, p2⟩ := hp
        obtain ⟨b, hb, hbp⟩ := ih k1 d (acc ++ [x]) (by omega) (by omega) p2
        refine ⟨b, .next hc ha hb, ?_⟩
        cases b <;> simp [Ans.past] at hbp ⊢ <;> omega
      · exact ⟨_, .fail hc ha, trivial⟩
theorem total_word {T : List Tok} (hT : Ends T) : ∀ (m k d : Nat), T.length - k ≤ m → k < T.length → ∃ a, PR T (.word k d) a ∧ a.past k T.length := by
  intro m
  induction m with
  | zero => intro k d h hk; omega
  | succ m ih =>
    intro k d h hk
    cases h2 : isK T k 2 with
    | false => exact ⟨_, .none h2, trivial⟩
    | true =>
      by_cases hd : 60 < d
      · exact ⟨_, .deep h2 hd, trivial⟩
      have hd' : d ≤ 60 := by omega
      have hk1 := hT.ltK hk h2
      cases h3 : isT T (k + 1) 6 [40] with
      | false => exact ⟨_, .name h2 hd' h3, by simp [Ans.past]; omega⟩
      | true =>
        have hk2 := hT.ltT hk1 h3
        obtain ⟨a, ha, hp⟩ := ih (k + 2) (d + 1) (by omega) hk2
        rcases ha.one_of with ⟨x, k1, rfl⟩ | ⟨e, p, rfl⟩
        · obtain ⟨p1, p2⟩ := hp
          obtain ⟨b, hb, hbp⟩ := total_args hT m (fun k d => ih k d) (T.length - k1) k1 (d + 1) [x] (Nat.le_refl _) (by omega) p2
          rcases hb.many_of _ _ _ rfl with ⟨xs, k2, rfl⟩ | ⟨e, p, rfl⟩
          · obtain ⟨q1, q2⟩ := hbp
            cases h4 : isT T k2 6 [41] with
            | false => exact ⟨_, .close h2 hd' h3 ha hb h4, trivial⟩
            | true =>
              have := hT.ltT q2 h4
              exact ⟨_, .whole h2 hd' h3 ha hb h4, by simp [Ans.past]; omega⟩
          · exact ⟨_, .rest h2 hd' h3 ha hb, trivial⟩
        · exact ⟨_, .first h2 hd' h3 ha, trivial⟩
theorem total_words {T : List Tok} (hT : Ends T) : ∀ (m k : Nat) (acc : List Wd), T.length - k ≤ m → k < T.length → ∃ o, WordsR T k acc o ∧ o.past k T.length := by
  intro m
  induction m with
  | zero => intro k acc h hk; omega
  | succ m ih =>
    intro k acc h hk
    cases h2 : isK T k 2 with
    | false => exact ⟨_, .stop h2, by simp [Out.past]; omega⟩
    | true =>
      obtain ⟨a, ha, hp⟩ := total_word hT _ k 0 (Nat.le_refl _) hk
      rcases ha.one_of with ⟨x, k1, rfl⟩ | ⟨e, p, rfl⟩
      · obtain ⟨p1, p2⟩ := hp
        obtain ⟨o, ho, hop⟩ := ih k1 (acc ++ [x]) (by omega) p2
        refine ⟨o, .next h2 ha ho, ?_⟩
        cases o <;> simp [Out.past] at hop ⊢; omega
      · exact ⟨_, .fail h2 ha, trivial⟩
theorem precL_past {T : List Tok} (hT : Ends T) {k : Nat} (hk : k < T.length) : (precL T k).past k T.length := by
  unfold precL
  split
  · rename_i h
    have h1 := hT.ltT hk h
    split
    · rename_i h2
      have := hT.ltK h1 h2
      simp [Out.past]; omega
    · trivial
  · simp [Out.past]; omega
theorem actL_past {T : List Tok} (hT : Ends T) {k0 k : Nat} {ws : List Wd} {q : List UInt8} (hk : k < T.length) : k ≤ (actL T k0 ws q k).2 ∧ (actL T k0 ws q k).2 < T.length := by
  unfold actL
  split
  · rename_i h
    have := hT.ltK hk h
    simp only; omega
  · simp only; omega
theorem total_alt {T : List Tok} (hT : Ends T) {k : Nat} (hk : k < T.length) : ∃ o, AltR T k o ∧ o.past k T.length := by
  obtain ⟨o, ho, hp⟩ := total_words hT _ k [] (Nat.le_refl _) hk
  cases o with
  | bad e p => exact ⟨_, .words ho, trivial⟩
  | ok ws k1 =>
    obtain ⟨p1, p2⟩ := hp
    have hq := precL_past hT p2
    cases hc : precL T k1 with
    | bad e p => exact ⟨_, .prec ho hc, trivial⟩
    | ok q k2 =>
      rw [hc] at hq
      obtain ⟨q1, q2⟩ := hq
      have := actL_past (k0 := k) (ws := ws) (q := q) hT q2
      exact ⟨_, .ok ho hc, by simp [Out.past]; omega⟩
theorem total_alts {T : List Tok} (hT : Ends T) : ∀ (m k : Nat) (acc : List Al), T.length - k ≤ m → k < T.length → ∃ o, AltsR T k acc o ∧ o.past k T.length := by
  intro m
  induction m with
  | zero => intro k acc h hk; omega
  | succ m ih =>
    intro k acc h hk
    cases h2 : isT T k 6 [124] with
    | false => exact ⟨_, .stop h2, by simp [Out.past]; omega⟩
    | true =>
      have hk1 := hT.ltT hk h2
      obtain ⟨a, ha, hp⟩ := total_alt hT hk1
      cases a with
      | bad e p => exact ⟨_, .fail h2 ha, trivial⟩
      | ok x k1 =>
        obtain ⟨p1, p2⟩ := hp
        obtain ⟨o, ho, hop⟩ := ih k1 (acc ++ [x]) (by omega) p2
        refine ⟨o, .next h2 ha ho, ?_⟩
        cases o <;> simp [Out.past] at hop ⊢; omega
theorem total_names {T : List Tok} (hT : Ends T) : ∀ (m k : Nat) (acc : List (List UInt8)), T.length - k ≤ m → k < T.length → ∃ o, NamesR T k acc o ∧ o.past k T.length := by
  intro m
  induction m with
  | zero => intro k acc h hk; omega
  | succ m ih =>
    intro k acc h hk
    cases h2 : isT T k 6 [44] with
    | false => exact ⟨_, .stop h2, by simp [Out.past]; omega⟩
    | true =>
      have hk1 := hT.ltT hk h2
      cases h3 : isK T (k + 1) 2 with
      | false => exact ⟨_, .fail h2 h3, trivial⟩
      | true =>
        have hk2 := hT.ltK hk1 h3
        obtain ⟨o, ho, hop⟩ := ih (k + 2) (acc ++ [(tok T (k + 1)).text]) (by omega) hk2
        refine ⟨o, .next h2 h3 ho, ?_⟩
        cases o <;> simp [Out.past] at hop ⊢; omega
theorem total_params {T : List Tok} (hT : Ends T) {k : Nat} (hk : k < T.length) : ∃ o, ParamsR T k o ∧ o.past k T.length := by
  cases h2 : isT T k 6 [40] with
  | false => exact ⟨_, .none h2, by simp [Out.past]; omega⟩
  | true =>
    have hk1 := hT.ltT hk h2
    cases h3 : isK T (k + 1) 2 with
    | false => exact ⟨_, .first h2 h3, trivial⟩
    | true =>
      have hk2 := hT.ltK hk1 h3
      obtain ⟨o, ho, hop⟩ := total_names hT _ (k + 2) [(tok T (k + 1)).text] (Nat.le_refl _) hk2
      cases o with
      | bad e p => exact ⟨_, .rest h2 h3 ho, trivial⟩
      | ok xs k1 =>
        obtain ⟨p1, p2⟩ := hop
        cases h4 : isT T k1 6 [41] with
        | false => exact ⟨_, .close h2 h3 ho h4, trivial⟩
        | true =>
          have := hT.ltT p2 h4
          exact ⟨_, .whole h2 h3 ho h4, by simp [Out.past]; omega⟩
theorem total_rule {T : List Tok} (hT : Ends T) {k : Nat} (hk : k < T.length) : ∃ o, RuleR T k o ∧ (∀ x k1, o = .ok x k1 → k < k1 ∧ k1 < T.length) := by
  cases h2 : isK T k 2 with
  | false => exact ⟨_, .name h2, by intro _ _ e; cases e⟩
  | true =>
    have hk1 := hT.ltK hk h2
    obtain ⟨o, ho, hop⟩ := total_params hT hk1
    cases o with
    | bad e p => exact ⟨_, .params h2 ho, by intro _ _ e; cases e⟩
    | ok ps k1 =>
      obtain ⟨p1, p2⟩ := hop
      cases h3 : isT T k1 6 [58] with
      | false => exact ⟨_, .colon h2 ho h3, by intro _ _ e; cases e⟩
      | true =>
        have hk2 := hT.ltT p2 h3
        obtain ⟨a, ha, hap⟩ := total_alt hT hk2
        cases a with
        | bad e p => exact ⟨_, .first h2 ho h3 ha, by intro _ _ e; cases e⟩
        | ok a k2 =>
          obtain ⟨q1, q2⟩ := hap
          obtain ⟨r, hr, hrp⟩ := total_alts hT _ k2 [a] (Nat.le_refl _) q2
          cases r with
          | bad e p => exact ⟨_, .rest h2 ho h3 ha hr, by intro _ _ e; cases e⟩
          | ok as k3 =>
            obtain ⟨r1, r2⟩ := hrp
            cases h4 : isT T k3 6 [59] with
            | false => exact ⟨_, .semi h2 ho h3 ha hr h4, by intro _ _ e; cases e⟩
            | true =>
              have := hT.ltT r2 h4
              exact ⟨_, .whole h2 ho h3 ha hr h4, by intro _ _ e; cases e; omega⟩
theorem namesL_past {T : List Tok} (hT : Ends T) : ∀ (m k : Nat) (acc : List (List UInt8)), k < T.length → k ≤ (namesL T m k acc).2 ∧ (namesL T m k acc).2 < T.length
  | 0, k, acc, hk => ⟨Nat.le_refl _, hk⟩
  | m + 1, k, acc, hk => by
    simp only [namesL]
    split
    · rename_i h
      have := namesL_past hT m (k + 1) (acc ++ [(tok T k).text]) (hT.ltK hk h)
      omega
    · exact ⟨Nat.le_refl _, hk⟩
theorem typeL_past {T : List Tok} (hT : Ends T) {w : List UInt8} {k : Nat} (hk : k < T.length) : (typeL T w k).past k T.length := by
  unfold typeL
  split
  · split
    · trivial
    · rename_i h1
      have k1 := hT.ltT hk (by simpa using h1)
      split
      · trivial
      · rename_i h2
        have k2 := hT.ltK k1 (by simpa using h2)
        split
        · trivial
        · rename_i h3
          have k3 := hT.ltT k2 (by simpa using h3)
          simp [Out.past]; omega
  · simp [Out.past]; omega
theorem declL_past {T : List Tok} (hT : Ends T) {k : Nat} (hk : k < T.length) (h1 : isK T k 1 = true) : ∀ x k1, declL T k = .ok x k1 → k < k1 ∧ k1 < T.length := by
  intro x k1 h
  unfold declL at h
  split at h
  · cases h
  · have hp := typeL_past hT (w := (tok T k).text) (hT.ltK hk h1)
    split at h
    · cases h
    · rename_i t k2 hc
      rw [hc] at hp
      obtain ⟨p1, p2⟩ := hp
      split at h
      · cases h
      · rename_i h2
        have hq := namesL_past hT T.length (k2 + 1) [(tok T k2).text] (hT.ltK p2 (by simpa using h2))
        simp only at h
        split at h
        · cases h
        · rename_i h3
          have := hT.ltT hq.2 (by simpa using h3)
          cases h; omega
theorem total_decls {T : List Tok} (hT : Ends T) : ∀ (m k : Nat) (acc : List De), T.length - k ≤ m → k < T.length → ∃ o, DeclsR T k acc o ∧ o.past k T.length := by
  intro m
  induction m with
  | zero => intro k acc h hk; omega
  | succ m ih =>
    intro k acc h hk
    cases h2 : isK T k 1 with
    | false => exact ⟨_, .stop h2, by simp [Out.past]; omega⟩
    | true =>
      cases hd : declL T k with
      | bad e p => exact ⟨_, .fail h2 hd, trivial⟩
      | ok x k1 =>
        obtain ⟨p1, p2⟩ := declL_past hT hk h2 x k1 hd
        obtain ⟨o, ho, hop⟩ := ih k1 (acc ++ [x]) (by omega) p2
        refine ⟨o, .next h2 hd ho, ?_⟩
        cases o <;> simp [Out.past] at hop ⊢; omega
theorem total_rules {T : List Tok} (hT : Ends T) : ∀ (m k : Nat) (acc : List Ru), T.length - k ≤ m → k < T.length → ∃ o, RulesR T k acc o ∧ o.past k T.length := by
  intro m
  induction m with
  | zero => intro k acc h hk; omega
  | succ m ih =>
    intro k acc h hk
    cases h2 : isK T k 7 with
    | true => exact ⟨_, .stop h2, by simp [Out.past]; omega⟩
    | false =>
      obtain ⟨a, ha, hap⟩ := total_rule hT hk
      cases a with
      | bad e p => exact ⟨_, .fail h2 ha, trivial⟩
      | ok x k1 =>
        obtain ⟨p1, p2⟩ := hap x k1 rfl
        obtain ⟨o, ho, hop⟩ := ih k1 (acc ++ [x]) (by omega) p2
        refine ⟨o, .next h2 ha ho, ?_⟩
        cases o <;> simp [Out.past] at hop ⊢; omega
/-- each row of tokens has an answer -/
theorem total_text {T : List Tok} (hT : Ends T) : ∃ o, TextR T o := by
  obtain ⟨o, ho, hp⟩ := total_decls hT _ 0 [] (Nat.le_refl _) hT.pos
  cases o with
  | bad e p => exact ⟨_, .decls ho⟩
  | ok ds k =>
    obtain ⟨p1, p2⟩ := hp
    cases h : isT T k 6 [37, 37] with
    | false => exact ⟨_, .mid ho h⟩
    | true =>
      obtain ⟨r, hr, _⟩ := total_rules hT _ (k + 1) [] (Nat.le_refl _) (hT.ltT p2 h)
      cases r with
      | bad e p => exact ⟨_, .rules ho h hr⟩
      | ok rs k1 => exact ⟨_, .whole ho h hr⟩
end Go.Proofs.Ytelpkldlkpoioaa.Ready
/- What a row of tokens is, as lexers tell it: where it ends, how long it is, which words are in it. No program in sight. -/
namespace Go.Proofs.Ytelpkldlkpoioaa.Ready
open Go.Proofs.Ytelpkldlkpoioaa.Lexy

theorem fine_pos {t : Tok} (h : t.fine) : 1 ≤ (render t.kind t.text).length := by
  have := tokL_le _ _ _ _ (h.2 [])
  omega
theorem chain_len {s : List UInt8} : ∀ {ts : List Tok} {b : Nat}, chain s b ts → (∀ t ∈ ts, t.fine) → b ≤ s.length → b + ts.length ≤ s.length
  | [], b, _, _, hb => by simpa using hb
  | t :: ts, b, h, hf, _ => by
    obtain ⟨h1, h2, _, h4⟩ := h
    have := fine_pos (hf t (List.mem_cons_self ..))
    have := chain_len h4 (fun x hx => hf x (List.mem_cons_of_mem _ hx)) h2
    simp only [List.length_cons]; omega
theorem chain_at {s : List UInt8} : ∀ {ts : List Tok} {b : Nat}, chain s b ts → ∀ t ∈ ts, t.at_ ≤ s.length
  | [], _, _, t, ht => by cases ht
  | x :: ts, b, h, t, ht => by
    obtain ⟨h1, h2, _, h4⟩ := h
    rcases List.mem_cons.1 ht with rfl | ht
    · omega
    · exact chain_at h4 t ht
theorem fine_word {t : Tok} (h : t.fine) (hk : t.kind = 1) : t.text ∈ wordsL := by
  have h1 := h.2 []
  rw [hk] at h1
  simp only [render, if_true] at h1
  rw [List.cons_append] at h1
  unfold tokL at h1
  dsimp only at h1
  rw [if_neg (by decide), if_pos (by decide)] at h1
  split at h1
  · simp at h1
  · split at h1
    · rename_i hm
      simp only [One.good.injEq] at h1
      rw [← h1.2.1]; exact hm
    · cases h1
/-- a row of tokens that a lexer tells -/
structure Told (s : List UInt8) (T : List Tok) : Prop where
  ends : Ends T
  len : T.length ≤ s.length + 1
  at_ : ∀ i, (tok T i).at_ ≤ s.length
  words : ∀ i, isK T i 1 = true → (tok T i).text ∈ wordsL
theorem tok_lt {T : List Tok} {i : Nat} (h : i < T.length) : tok T i ∈ T := by
  unfold tok
  rw [List.getD_eq_getElem?_getD, List.getElem?_eq_getElem h]
  exact List.getElem_mem h
theorem tok_ge {T : List Tok} {i : Nat} (h : T.length ≤ i) : tok T i = ⟨0, [], 0⟩ := by
  unfold tok
  rw [List.getD_eq_getElem?_getD, List.getElem?_eq_none h]; rfl
theorem toks_shape {s : List UInt8} {T : List Tok} (h : toks s = .good T) : ∃ ts, T = ts ++ [⟨7, [], s.length⟩] ∧ chain s 0 ts ∧ (∀ t ∈ ts, t.fine) ∧ s.length ≤ 65536 := by
  unfold toks at h
  split at h
  · cases h
  · have := lexA_shape s s.length 0 (by omega) (by omega)
    simp only [List.drop_zero, h] at this
    obtain ⟨ts, h1, h2, h3⟩ := this
    exact ⟨ts, h1, h2, h3, by omega⟩
theorem toks_told {s : List UInt8} {T : List Tok} (h : toks s = .good T) : Told s T ∧ s.length ≤ 65536 := by
  obtain ⟨ts, rfl, hc, hf, hs⟩ := toks_shape h
  have hl : (ts ++ [(⟨7, [], s.length⟩ : Tok)]).length = ts.length + 1 := by simp
  have hlast : tok (ts ++ [(⟨7, [], s.length⟩ : Tok)]) ts.length = ⟨7, [], s.length⟩ := by unfold tok; simp
  have hin : ∀ i, i < ts.length → tok (ts ++ [(⟨7, [], s.length⟩ : Tok)]) i ∈ ts := fun i hi => by
    unfold tok
    rw [List.getD_eq_getElem?_getD, List.getElem?_append_left hi, List.getElem?_eq_getElem hi]
    exact List.getElem_mem hi
  refine ⟨⟨⟨by omega, ?_, ?_⟩, ?_, ?_, ?_⟩, hs⟩
  · rw [hl, Nat.add_sub_cancel, hlast]
  · intro k hk
    rw [hl, Nat.add_sub_cancel] at hk
    rcases (hf _ (hin k hk)).1 with h | h | h | h <;> rw [h] <;> decide
  · have := chain_len hc hf (Nat.zero_le _); omega
  · intro i
    rcases Nat.lt_or_ge i ts.length with h1 | h1
    · exact chain_at hc _ (hin i h1)
    · rcases Nat.lt_or_ge ts.length i with h2 | h2
      · rw [tok_ge (by omega)]; exact Nat.zero_le _
      · obtain rfl : i = ts.length := by omega
        rw [hlast]; exact Nat.le_refl _
  · intro i hi
    have hk := isK_eq hi
    rcases Nat.lt_or_ge i ts.length with h1 | h1
    · exact fine_word (hf _ (hin i h1)) hk
    · rcases Nat.lt_or_ge ts.length i with h2 | h2
      · rw [tok_ge (by omega)] at hk; cases hk
      · obtain rfl : i = ts.length := by omega
        rw [hlast] at hk; cases hk
end Go.Proofs.Ytelpkldlkpoioaa.Ready
/- What a text's parts are, that a row of tokens says: where they stand, how many they are; that they are said by other tokens alike. No program in sight. -/
namespace Go.Proofs.Ytelpkldlkpoioaa.Ready
open Go.Proofs.Ytelpkldlkpoioaa.Lexy

/-- a text stands at a place -/
def standsL (s : List UInt8) (at_ : Nat) (t : List UInt8) : Prop := at_ + t.length ≤ s.length ∧ (s.drop at_).take t.length = t
mutual
def thereW (s : List UInt8) : Wd → Prop
  | .mk n ws a => standsL s a.toNat n ∧ thereWs s ws
def thereWs (s : List UInt8) : List Wd → Prop
  | [] => True
  | x :: xs => thereW s x ∧ thereWs s xs
end
mutual
/-- how many words a word is -/
def szW : Wd → Nat
  | .mk _ ws _ => 1 + szWs ws
def szWs : List Wd → Nat
  | [] => 0
  | x :: xs => szW x + szWs xs
end
mutual
/-- a word without places -/
def bareW : Wd → Wd
  | .mk n ws _ => .mk n (bareWs ws) 0
def bareWs : List Wd → List Wd
  | [] => []
  | x :: xs => bareW x :: bareWs xs
end
def plainA (x : Al) : Al := { x with words := bareWs x.words, whr := 0, at_ := 0 }
def plainR (x : Ru) : Ru := { x with alts := x.alts.map plainA, at_ := 0 }
def plainD (x : De) : De := { x with at_ := 0 }
def plainT (x : Tx) : Tx := ⟨x.decls.map plainD, x.rules.map plainR⟩
theorem bareWs_map : ∀ l : List Wd, bareWs l = l.map bareW
  | [] => by simp [bareWs]
  | x :: xs => by simp [bareWs, bareWs_map xs]
theorem bareWs_snoc (l : List Wd) (x : Wd) : bareWs (l ++ [x]) = bareWs l ++ [bareW x] := by simp [bareWs_map]
theorem thereWs_snoc {s : List UInt8} : ∀ {l : List Wd} {x : Wd}, thereWs s l → thereW s x → thereWs s (l ++ [x])
  | [], x, _, h => by simp [thereWs]; exact h
  | y :: ys, x, h, hx => by
    simp only [thereWs, List.cons_append] at h ⊢
    exact ⟨h.1, thereWs_snoc h.2 hx⟩
theorem thereWs_mem {s : List UInt8} : ∀ {l : List Wd}, thereWs s l → ∀ x ∈ l, thereW s x
  | [], _, x, h => by cases h
  | y :: ys, ho, x, h => by
    simp only [thereWs] at ho
    rcases List.mem_cons.1 h with e | h
    · rw [e]; exact ho.1
    · exact thereWs_mem ho.2 x h
theorem szWs_snoc : ∀ (l : List Wd) (x : Wd), szWs (l ++ [x]) = szWs l + szW x
  | [], x => by simp [szWs]
  | y :: ys, x => by simp only [szWs, List.cons_append, szWs_snoc ys x]; omega
theorem szW_pos (x : Wd) : 1 ≤ szW x := by cases x; simp [szW]
theorem len_szWs : ∀ l : List Wd, l.length ≤ szWs l
  | [] => by simp
  | x :: xs => by have := len_szWs xs; have := szW_pos x; simp only [szWs, List.length_cons]; omega

/-- tokens of one list are those of another, so far on, but for places -/
def Alike (T T2 : List Tok) (d lo hi : Nat) : Prop := ∀ i, lo ≤ i → i ≤ hi → (tok T2 (i + d)).kind = (tok T i).kind ∧ (tok T2 (i + d)).text = (tok T i).text
theorem Alike.less {T T2 : List Tok} {d lo hi lo' hi' : Nat} (h : Alike T T2 d lo hi) (h1 : lo ≤ lo') (h2 : hi' ≤ hi) : Alike T T2 d lo' hi' := fun i a b => h i (by omega) (by omega)
theorem Alike.k {T T2 : List Tok} {d lo hi i j kind : Nat} (h : Alike T T2 d lo hi) (h1 : lo ≤ i) (h2 : i ≤ hi) (hj : j = i + d) : isK T2 j kind = isK T i kind := by
  subst hj; unfold isK; rw [(h i h1 h2).1]
theorem Alike.t {T T2 : List Tok} {d lo hi i j kind : Nat} {t : List UInt8} (h : Alike T T2 d lo hi) (h1 : lo ≤ i) (h2 : i ≤ hi) (hj : j = i + d) : isT T2 j kind t = isT T i kind t := by
  subst hj; unfold isT; rw [(h i h1 h2).1, (h i h1 h2).2]
theorem Alike.text {T T2 : List Tok} {d lo hi i j : Nat} (h : Alike T T2 d lo hi) (h1 : lo ≤ i) (h2 : i ≤ hi) (hj : j = i + d) : (tok T2 j).text = (tok T i).text := by
  subst hj; exact (h i h1 h2).2
theorem noSemi_k {T : List Tok} {i kind : Nat} (h : isK T i kind = true) (hk : kind ≠ 6) : isT T i 6 [59] = false := by
  have := isK_eq h
  simp only [isT, Bool.and_eq_false_iff, decide_eq_false_iff_not]
  left; omega
theorem noSemi_t {T : List Tok} {i kind : Nat} {t : List UInt8} (h : isT T i kind t = true) (ht : t ≠ [59]) : isT T i 6 [59] = false := by
  have := (isT_eq h).2
  simp only [isT, Bool.and_eq_false_iff, decide_eq_false_iff_not]
  right; rw [this]; exact ht

structure GoodW (T : List Tok) (s : List UInt8) (dd k k1 : Nat) (x : Wd) : Prop where
  lt : k < k1
  semi : ∀ i, k ≤ i → i < k1 → isT T i 6 [59] = false
  size : szW x ≤ k1 - k
  there : thereW s x
  move : ∀ (T2 : List Tok) (d k' k1' : Nat), Alike T T2 d k k1 → k' = k + d → k1' = k1 + d → ∃ x2, PR T2 (.word k' dd) (.one x2 k1') ∧ bareW x2 = bareW x
structure GoodA (T : List Tok) (s : List UInt8) (dd k k1 : Nat) (acc xs : List Wd) : Prop where
  le : k ≤ k1
  semi : ∀ i, k ≤ i → i < k1 → isT T i 6 [59] = false
  size : szWs xs ≤ szWs acc + (k1 - k)
  there : thereWs s acc → thereWs s xs
  move : ∀ (T2 : List Tok) (d k' k1' : Nat) (acc2 : List Wd), Alike T T2 d k k1 → k' = k + d → k1' = k1 + d → bareWs acc2 = bareWs acc → ∃ xs2, PR T2 (.args k' dd acc2) (.many xs2 k1') ∧ bareWs xs2 = bareWs xs
def Good (T : List Tok) (s : List UInt8) : Job → Ans → Prop
  | .word k dd, .one x k1 => GoodW T s dd k k1 x
  | .args k dd acc, .many xs k1 => GoodA T s dd k k1 acc xs
  | _, _ => True
/-- names stand at their places -/
def Names (T : List Tok) (s : List UInt8) : Prop := ∀ i, isK T i 2 = true → standsL s (tok T i).at_ (tok T i).text
theorem PR_good {T : List Tok} {s : List UInt8} (hN : Names T s) {j : Job} {a : Ans} (h : PR T j a) : Good T s j a := by
  induction h with
  | deep _ _ => trivial
  | none _ => trivial
  | first _ _ _ _ _ => trivial
  | rest _ _ _ _ _ _ _ => trivial
  | close _ _ _ _ _ _ _ _ => trivial
  | fail _ _ _ => trivial
  | name h1 h2 h3 =>
    rename_i k d
    refine ⟨by omega, fun i a b => ?_, by simp only [szW, szWs]; omega, ?_, fun T2 d2 k' k1' hA e1 e2 => ?_⟩
    · obtain rfl : i = k := by omega
      exact noSemi_k h1 (by omega)
    · simp only [thereW, thereWs]; exact ⟨hN _ h1, trivial⟩
    · have q1 := (hA.k (kind := 2) (Nat.le_refl _) (Nat.le_succ _) e1).trans h1
      have q3 := (hA.t (kind := 6) (t := [40]) (i := k + 1) (j := k' + 1) (by omega) (Nat.le_refl _) (by omega)).trans h3
      obtain rfl : k1' = k' + 1 := by omega
      exact ⟨_, .name q1 h2 q3, by simp only [bareW, bareWs]; rw [hA.text (Nat.le_refl _) (Nat.le_succ _) e1]⟩
  | whole h1 h2 h3 _ _ h4 ih1 ih2 =>
    rename_i k d k1 k2 x xs _ _
    obtain ⟨l1, s1, z1, t1, m1⟩ : GoodW T s (d + 1) (k + 2) k1 x := ih1
    obtain ⟨l2, s2, z2, t2, m2⟩ : GoodA T s (d + 1) k1 k2 [x] xs := ih2
    simp only [szWs] at z2
    refine ⟨by omega, fun i a b => ?_, by simp only [szW]; omega, ?_, fun T2 d2 k' k1' hA e1 e2 => ?_⟩
    · by_cases c1 : i = k
      · rw [c1]; exact noSemi_k h1 (by omega)
      by_cases c2 : i = k + 1
      · rw [c2]; exact noSemi_t h3 (by decide)
      by_cases c3 : i < k1
      · exact s1 i (by omega) c3
      by_cases c4 : i < k2
      · exact s2 i (by omega) c4
      · obtain rfl : i = k2 := by omega
        exact noSemi_t h4 (by decide)
    · simp only [thereW]; exact ⟨hN _ h1, t2 (by simp only [thereWs]; exact ⟨t1, trivial⟩)⟩
    · have q1 := (hA.k (kind := 2) (i := k) (j := k') (Nat.le_refl _) (by omega) e1).trans h1
      have q3 := (hA.t (kind := 6) (t := [40]) (i := k + 1) (j := k' + 1) (by omega) (by omega) (by omega)).trans h3
      have q4 := (hA.t (kind := 6) (t := [41]) (i := k2) (j := k2 + d2) (by omega) (by omega) rfl).trans h4
      obtain ⟨x2, p1, b1⟩ := m1 T2 d2 (k' + 2) (k1 + d2) (hA.less (by omega) (by omega)) (by omega) rfl
      obtain ⟨xs2, p2, b2⟩ := m2 T2 d2 (k1 + d2) (k2 + d2) [x2] (hA.less (by omega) (by omega)) rfl rfl (by simp [bareWs, b1])
      obtain rfl : k1' = k2 + d2 + 1 := by omega
      exact ⟨_, .whole q1 h2 q3 p1 p2 q4, by simp only [bareW]; rw [hA.text (Nat.le_refl _) (by omega) e1, b2]⟩
  | stop h1 =>
    rename_i k d acc
    refine ⟨Nat.le_refl _, fun i a b => by omega, by omega, id, fun T2 d2 k' k1' acc2 hA e1 e2 eb => ?_⟩
    obtain rfl : k1' = k' := by omega
    exact ⟨_, .stop ((hA.t (kind := 6) (t := [44]) (Nat.le_refl _) (Nat.le_refl _) e1).trans h1), eb⟩
  | next h1 _ _ ih1 ih2 =>
    rename_i k d k1 acc x a _ _
    cases a with
    | one _ _ => trivial
    | bad _ _ => trivial
    | many xs k2 =>
      obtain ⟨l1, s1, z1, t1, m1⟩ : GoodW T s d (k + 1) k1 x := ih1
      obtain ⟨l2, s2, z2, t2, m2⟩ : GoodA T s d k1 k2 (acc ++ [x]) xs := ih2
      rw [szWs_snoc] at z2
      refine ⟨by omega, fun i a b => ?_, by omega, fun h => t2 (thereWs_snoc h t1), fun T2 d2 k' k1' acc2 hA e1 e2 eb => ?_⟩
      · by_cases c1 : i = k
        · rw [c1]; exact noSemi_t h1 (by decide)
        by_cases c3 : i < k1
        · exact s1 i (by omega) c3
        · exact s2 i (by omega) b
      · have q1 := (hA.t (kind := 6) (t := [44]) (i := k) (j := k') (Nat.le_refl _) (by omega) e1).trans h1
        obtain ⟨x2, p1, b1⟩ := m1 T2 d2 (k' + 1) (k1 + d2) (hA.less (by omega) (by omega)) (by omega) rfl
        obtain ⟨xs2, p2, b2⟩ := m2 T2 d2 (k1 + d2) (k2 + d2) (acc2 ++ [x2]) (hA.less (by omega) (by omega)) rfl rfl (by rw [bareWs_snoc, bareWs_snoc, b1, eb])
        obtain rfl : k1' = k2 + d2 := by omega
        exact ⟨_, .next q1 p1 p2, b2⟩
theorem WordsR_good {T : List Tok} {s : List UInt8} (hN : Names T s) {k k1 : Nat} {acc ws : List Wd} {o : Out (List Wd)} (h : WordsR T k acc o) (ho : o = .ok ws k1) :
    k ≤ k1 ∧ (∀ i, k ≤ i → i < k1 → isT T i 6 [59] = false) ∧ szWs ws ≤ szWs acc + (k1 - k) ∧ (thereWs s acc → thereWs s ws) ∧
    ∀ (T2 : List Tok) (d k' k1' : Nat) (acc2 : List Wd), Alike T T2 d k k1 → k' = k + d → k1' = k1 + d → bareWs acc2 = bareWs acc → ∃ ws2, WordsR T2 k' acc2 (.ok ws2 k1') ∧ bareWs ws2 = bareWs ws := by
  induction h with
  | stop h1 =>
    cases ho
    refine ⟨Nat.le_refl _, fun i a b => by omega, by omega, id, fun T2 d2 k' k1' acc2 hA e1 e2 eb => ?_⟩
    obtain rfl : k1' = k' := by omega
    exact ⟨_, .stop ((hA.k (kind := 2) (Nat.le_refl _) (Nat.le_refl _) e1).trans h1), eb⟩
  | fail _ _ => cases ho
  | next h1 hw _ ih =>
    rename_i k km acc x o _
    obtain ⟨l1, s1, z1, t1, m1⟩ : GoodW T s 0 k km x := PR_good hN hw
    obtain ⟨l2, s2, z2, t2, m2⟩ := ih ho
    rw [szWs_snoc] at z2
    refine ⟨by omega, fun i a b => ?_, by omega, fun h => t2 (thereWs_snoc h t1), fun T2 d2 k' k1' acc2 hA e1 e2 eb => ?_⟩
    · by_cases c3 : i < km
      · exact s1 i (by omega) c3
      · exact s2 i (by omega) b
    · have q1 := (hA.k (kind := 2) (i := k) (j := k') (Nat.le_refl _) (by omega) e1).trans h1
      obtain ⟨x2, p1, b1⟩ := m1 T2 d2 k' (km + d2) (hA.less (by omega) (by omega)) e1 rfl
      obtain ⟨ws2, p2, b2⟩ := m2 T2 d2 (km + d2) k1' (acc2 ++ [x2]) (hA.less (by omega) (by omega)) rfl e2 (by rw [bareWs_snoc, bareWs_snoc, b1, eb])
      exact ⟨_, .next q1 p1 p2, b2⟩
end Go.Proofs.Ytelpkldlkpoioaa.Ready
/- What a text's parts are, that a row of tokens says: alternatives, rules, declarations, texts. No program in sight. -/
namespace Go.Proofs.Ytelpkldlkpoioaa.Ready
open Go.Proofs.Ytelpkldlkpoioaa.Lexy

mutual
/-- rows that are no longer than may be -/
def wdOk : Wd → Prop
  | .mk _ ws _ => ws.length ≤ 1000000 ∧ wdsOk ws
def wdsOk : List Wd → Prop
  | [] => True
  | x :: xs => wdOk x ∧ wdsOk xs
end
theorem wdsOk_mem : ∀ {l : List Wd}, wdsOk l → ∀ x ∈ l, wdOk x
  | [], _, x, h => by cases h
  | y :: ys, ho, x, h => by
    simp only [wdsOk] at ho
    rcases List.mem_cons.1 h with e | h
    · rw [e]; exact ho.1
    · exact wdsOk_mem ho.2 x h
theorem wdsOk_of : ∀ {l : List Wd}, (∀ x ∈ l, wdOk x) → wdsOk l
  | [], _ => by simp [wdsOk]
  | y :: ys, h => by
    simp only [wdsOk]
    exact ⟨h y (List.mem_cons_self ..), wdsOk_of fun x hx => h x (List.mem_cons_of_mem _ hx)⟩
mutual
theorem wdOk_sz : ∀ x : Wd, szW x ≤ 1000000 → wdOk x
  | .mk n ws a, h => by
    simp only [szW] at h
    have := len_szWs ws
    simp only [wdOk]
    exact ⟨by omega, wdsOk_sz ws (by omega)⟩
theorem wdsOk_sz : ∀ l : List Wd, szWs l ≤ 1000000 → wdsOk l
  | [], _ => by simp [wdsOk]
  | x :: xs, h => by
    simp only [szWs] at h
    simp only [wdsOk]
    exact ⟨wdOk_sz x (by omega), wdsOk_sz xs (by omega)⟩
end
structure AlOk (x : Al) : Prop where
  n : x.words.length ≤ 1000000
  words : wdsOk x.words
structure RuOk (x : Ru) : Prop where
  n : x.params.length ≤ 1000000
  m : x.alts.length ≤ 1000000
  alts : ∀ a ∈ x.alts, AlOk a
def DeOk (x : De) : Prop := x.names.length ≤ 1000000
structure TxOk (x : Tx) : Prop where
  n : x.decls.length ≤ 1000000
  m : x.rules.length ≤ 1000000
  decls : ∀ a ∈ x.decls, DeOk a
  rules : ∀ a ∈ x.rules, RuOk a

/-- tokens stand at their places -/
structure Places (T : List Tok) (s : List UInt8) : Prop where
  names : Names T s
  words : ∀ i, isK T i 1 = true → standsL s (tok T i).at_ (37 :: (tok T i).text)
  acts : ∀ i, isK T i 9 = true → standsL s (tok T i).at_ (123 :: ((tok T i).text ++ [125]))
def thereA (s : List UInt8) (x : Al) : Prop := thereWs s x.words ∧ (x.has = true → 1 ≤ x.whr.toNat ∧ standsL s (x.whr.toNat - 1) (123 :: (x.action ++ [125])))
def thereR (s : List UInt8) (x : Ru) : Prop := standsL s x.at_.toNat x.name ∧ ∀ a ∈ x.alts, thereA s a
def thereD (s : List UInt8) (x : De) : Prop := standsL s x.at_.toNat (37 :: x.kind)
def thereT (s : List UInt8) (x : Tx) : Prop := (∀ d ∈ x.decls, thereD s d) ∧ ∀ r ∈ x.rules, thereR s r

structure GoodAl (T : List Tok) (s : List UInt8) (k k1 : Nat) (x : Al) : Prop where
  le : k ≤ k1
  semi : ∀ i, k ≤ i → i < k1 → isT T i 6 [59] = false
  ok : k1 ≤ 1000000 → AlOk x
  there : thereA s x
  move : ∀ (T2 : List Tok) (d k' k1' : Nat), Alike T T2 d k k1 → k' = k + d → k1' = k1 + d → ∃ x2, AltR T2 k' (.ok x2 k1') ∧ plainA x2 = plainA x
theorem precL_ok {T : List Tok} {k k1 : Nat} {q : List UInt8} (h : precL T k = .ok q k1) : (isT T k 1 [112, 114, 101, 99] = false ∧ q = [] ∧ k1 = k) ∨ (isT T k 1 [112, 114, 101, 99] = true ∧ isK T (k + 1) 2 = true ∧ q = (tok T (k + 1)).text ∧ k1 = k + 2) := by
  unfold precL at h
  split at h
  · rename_i h1
    split at h
    · rename_i h2
      cases h; exact .inr ⟨h1, h2, rfl, rfl⟩
    · cases h
  · rename_i h1
    cases h; exact .inl ⟨by simpa using h1, rfl, rfl⟩
theorem AltR_good {T : List Tok} {s : List UInt8} (hP : Places T s) {k k1 : Nat} {x : Al} (h : AltR T k (.ok x k1)) : GoodAl T s k k1 x := by
  generalize ho : Out.ok x k1 = o at h
  cases h with
  | words _ => cases ho
  | prec _ _ => cases ho
  | ok h1 h2 =>
    rename_i ws ka kb q
    cases ho
    obtain ⟨l1, s1, z1, t1, m1⟩ := WordsR_good hP.names h1 rfl
    have hq : ka ≤ kb ∧ (∀ i, ka ≤ i → i < kb → isT T i 6 [59] = false) ∧ ∀ T2 d, Alike T T2 d ka kb → precL T2 (ka + d) = .ok q (kb + d) := by
      rcases precL_ok h2 with ⟨p1, rfl, rfl⟩ | ⟨p1, p2, rfl, rfl⟩
      · refine ⟨Nat.le_refl _, fun i a b => by omega, fun T2 d hA => ?_⟩
        unfold precL
        rw [hA.t (Nat.le_refl _) (Nat.le_refl _) rfl, p1]; rfl
      · refine ⟨by omega, fun i a b => ?_, fun T2 d hA => ?_⟩
        · by_cases c : i = ka
          · rw [c]; exact noSemi_t p1 (by decide)
          · obtain rfl : i = ka + 1 := by omega
            exact noSemi_k p2 (by decide)
        · unfold precL
          rw [hA.t (i := ka) (Nat.le_refl _) (by omega) rfl, p1, hA.k (i := ka + 1) (by omega) (by omega) (by omega), p2]
          simp only [if_true]
          rw [hA.text (i := ka + 1) (by omega) (by omega) (by omega), show ka + d + 2 = ka + 2 + d by omega]
    obtain ⟨l2, s2, m2⟩ := hq
    have hwk : szWs ws ≤ ka := by simp only [szWs] at z1; omega
    have hthere : thereWs s ws := t1 (by simp [thereWs])
    cases h9 : isK T kb 9 with
    | true =>
      have e1 : actL T k ws q kb = (⟨ws, q, true, (tok T kb).text, ((tok T kb).at_ + 1 : Nat), (tok T k).at_⟩, kb + 1) := by unfold actL; rw [if_pos h9]
      rw [e1]
      refine ⟨by simp only; omega, fun i a b => ?_, fun hm => ⟨by have := len_szWs ws; simp only at hm ⊢; omega, wdsOk_sz _ (by simp only at hm ⊢; omega)⟩, ⟨hthere, fun _ => ⟨by simp, by simpa using hP.acts _ h9⟩⟩, fun T2 d k' k1' hA e2 e3 => ?_⟩
      · simp only at b
        by_cases c1 : i < ka
        · exact s1 i a c1
        by_cases c2 : i < kb
        · exact s2 i (by omega) c2
        · obtain rfl : i = kb := by omega
          exact noSemi_k h9 (by decide)
      · simp only at hA e3
        obtain ⟨ws2, p1, b1⟩ := m1 T2 d k' (ka + d) [] (hA.less (by omega) (by omega)) e2 rfl rfl
        have p2 := m2 T2 d (hA.less (by omega) (by omega))
        have q9 := (hA.k (kind := 9) (i := kb) (j := kb + d) (by omega) (by omega) rfl).trans h9
        have hx := AltR.ok p1 p2
        have e4 : actL T2 k' ws2 q (kb + d) = (⟨ws2, q, true, (tok T2 (kb + d)).text, ((tok T2 (kb + d)).at_ + 1 : Nat), (tok T2 k').at_⟩, kb + d + 1) := by unfold actL; rw [if_pos q9]
        rw [e4] at hx
        obtain rfl : k1' = kb + d + 1 := by omega
        exact ⟨_, hx, by simp only [plainA]; rw [b1, hA.text (i := kb) (by omega) (by omega) rfl]⟩
    | false =>
      have e1 : actL T k ws q kb = (⟨ws, q, false, [], 0, (tok T k).at_⟩, kb) := by unfold actL; rw [if_neg (by rw [h9]; decide)]
      rw [e1]
      refine ⟨by simp only; omega, fun i a b => ?_, fun hm => ⟨by have := len_szWs ws; simp only at hm ⊢; omega, wdsOk_sz _ (by simp only at hm ⊢; omega)⟩, ⟨hthere, fun hh => by cases hh⟩, fun T2 d k' k1' hA e2 e3 => ?_⟩
      · simp only at b
        by_cases c1 : i < ka
        · exact s1 i a c1
        · exact s2 i (by omega) b
      · simp only at hA e3
        obtain ⟨ws2, p1, b1⟩ := m1 T2 d k' (ka + d) [] (hA.less (by omega) (by omega)) e2 rfl rfl
        have p2 := m2 T2 d (hA.less (by omega) (by omega))
        have q9 := (hA.k (kind := 9) (i := kb) (j := kb + d) (by omega) (by omega) rfl).trans h9
        have hx := AltR.ok p1 p2
        have e4 : actL T2 k' ws2 q (kb + d) = (⟨ws2, q, false, [], 0, (tok T2 k').at_⟩, kb + d) := by unfold actL; rw [if_neg (by rw [q9]; decide)]
        rw [e4] at hx
        obtain rfl : k1' = kb + d := by omega
        exact ⟨_, hx, by simp only [plainA]; rw [b1]⟩
theorem AltsR_good {T : List Tok} {s : List UInt8} (hP : Places T s) {k k1 : Nat} {acc zs : List Al} {o : Out (List Al)} (h : AltsR T k acc o) (ho : o = .ok zs k1) :
    k ≤ k1 ∧ (∀ i, k ≤ i → i < k1 → isT T i 6 [59] = false) ∧ (k1 ≤ 1000000 → (∀ a ∈ acc, AlOk a) → ∀ a ∈ zs, AlOk a) ∧ zs.length ≤ acc.length + (k1 - k) ∧ ((∀ a ∈ acc, thereA s a) → ∀ a ∈ zs, thereA s a) ∧
    ∀ (T2 : List Tok) (d k' k1' : Nat) (acc2 : List Al), Alike T T2 d k k1 → k' = k + d → k1' = k1 + d → acc2.map plainA = acc.map plainA → ∃ zs2, AltsR T2 k' acc2 (.ok zs2 k1') ∧ zs2.map plainA = zs.map plainA := by
  induction h with
  | stop h1 =>
    cases ho
    refine ⟨Nat.le_refl _, fun i a b => by omega, fun _ => id, by omega, id, fun T2 d2 k' k1' acc2 hA e1 e2 eb => ?_⟩
    obtain rfl : k1' = k' := by omega
    exact ⟨_, .stop ((hA.t (kind := 6) (t := [124]) (Nat.le_refl _) (Nat.le_refl _) e1).trans h1), eb⟩
  | fail _ _ => cases ho
  | next h1 hw _ ih =>
    rename_i k km acc x o _
    obtain ⟨l1, s1, z1, t1, m1⟩ := AltR_good hP hw
    obtain ⟨l2, s2, z2, n2, t2, m2⟩ := ih ho
    simp only [List.length_append, List.length_cons, List.length_nil] at n2
    refine ⟨by omega, fun i a b => ?_, fun hm ha => z2 hm (fun a hx => ?_), by omega, fun ha => t2 (fun a hx => ?_), fun T2 d2 k' k1' acc2 hA e1 e2 eb => ?_⟩
    · by_cases c1 : i = k
      · rw [c1]; exact noSemi_t h1 (by decide)
      by_cases c3 : i < km
      · exact s1 i (by omega) c3
      · exact s2 i (by omega) b
    · rcases List.mem_append.1 hx with hx | hx
      · exact ha a hx
      · rw [List.mem_singleton.1 hx]; exact z1 (by omega)
    · rcases List.mem_append.1 hx with hx | hx
      · exact ha a hx
      · rw [List.mem_singleton.1 hx]; exact t1
    · have q1 := (hA.t (kind := 6) (t := [124]) (i := k) (j := k') (Nat.le_refl _) (by omega) e1).trans h1
      obtain ⟨x2, p1, b1⟩ := m1 T2 d2 (k' + 1) (km + d2) (hA.less (by omega) (by omega)) (by omega) rfl
      obtain ⟨ws2, p2, b2⟩ := m2 T2 d2 (km + d2) k1' (acc2 ++ [x2]) (hA.less (by omega) (by omega)) rfl e2 (by rw [List.map_append, List.map_append, eb, List.map_cons, List.map_cons, b1])
      exact ⟨_, .next q1 p1 p2, b2⟩
theorem NamesR_good {T : List Tok} {k k1 : Nat} {acc zs : List (List UInt8)} {o : Out (List (List UInt8))} (h : NamesR T k acc o) (ho : o = .ok zs k1) :
    k ≤ k1 ∧ (∀ i, k ≤ i → i < k1 → isT T i 6 [59] = false) ∧ zs.length ≤ acc.length + (k1 - k) ∧
    ∀ (T2 : List Tok) (d k' k1' : Nat), Alike T T2 d k k1 → k' = k + d → k1' = k1 + d → NamesR T2 k' acc (.ok zs k1') := by
  induction h with
  | stop h1 =>
    cases ho
    refine ⟨Nat.le_refl _, fun i a b => by omega, by omega, fun T2 d2 k' k1' hA e1 e2 => ?_⟩
    obtain rfl : k1' = k' := by omega
    exact .stop ((hA.t (kind := 6) (t := [44]) (Nat.le_refl _) (Nat.le_refl _) e1).trans h1)
  | fail _ _ => cases ho
  | next h1 h2 _ ih =>
    rename_i k acc o _
    obtain ⟨l2, s2, n2, m2⟩ := ih ho
    simp only [List.length_append, List.length_cons, List.length_nil] at n2
    refine ⟨by omega, fun i a b => ?_, by omega, fun T2 d2 k' k1' hA e1 e2 => ?_⟩
    · by_cases c1 : i = k
      · rw [c1]; exact noSemi_t h1 (by decide)
      by_cases c3 : i = k + 1
      · rw [c3]; exact noSemi_k h2 (by decide)
      · exact s2 i (by omega) b
    · have q1 := (hA.t (kind := 6) (t := [44]) (i := k) (j := k') (Nat.le_refl _) (by omega) e1).trans h1
      have q2 := (hA.k (kind := 2) (i := k + 1) (j := k' + 1) (by omega) (by omega) (by omega)).trans h2
      have p2 := m2 T2 d2 (k' + 2) k1' (hA.less (by omega) (by omega)) (by omega) e2
      have e3 := hA.text (i := k + 1) (j := k' + 1) (by omega) (by omega) (by omega)
      rw [← e3] at p2
      exact .next q1 q2 p2
theorem ParamsR_good {T : List Tok} {k k1 : Nat} {zs : List (List UInt8)} (h : ParamsR T k (.ok zs k1)) :
    k ≤ k1 ∧ (∀ i, k ≤ i → i < k1 → isT T i 6 [59] = false) ∧ zs.length ≤ k1 - k ∧
    ∀ (T2 : List Tok) (d k' k1' : Nat), Alike T T2 d k k1 → k' = k + d → k1' = k1 + d → ParamsR T2 k' (.ok zs k1') := by
  cases h with
  | none h1 =>
    refine ⟨Nat.le_refl _, fun i a b => by omega, by simp, fun T2 d2 k' k1' hA e1 e2 => ?_⟩
    obtain rfl : k1' = k' := by omega
    exact .none ((hA.t (kind := 6) (t := [40]) (Nat.le_refl _) (Nat.le_refl _) e1).trans h1)
  | whole h1 h2 h3 h4 =>
    rename_i km
    obtain ⟨l2, s2, n2, m2⟩ := NamesR_good h3 rfl
    simp only [List.length_cons, List.length_nil] at n2
    refine ⟨by omega, fun i a b => ?_, by omega, fun T2 d2 k' k1' hA e1 e2 => ?_⟩
    · by_cases c1 : i = k
      · rw [c1]; exact noSemi_t h1 (by decide)
      by_cases c3 : i = k + 1
      · rw [c3]; exact noSemi_k h2 (by decide)
      by_cases c4 : i < km
      · exact s2 i (by omega) c4
      · obtain rfl : i = km := by omega
        exact noSemi_t h4 (by decide)
    · have q1 := (hA.t (kind := 6) (t := [40]) (i := k) (j := k') (Nat.le_refl _) (by omega) e1).trans h1
      have q2 := (hA.k (kind := 2) (i := k + 1) (j := k' + 1) (by omega) (by omega) (by omega)).trans h2
      have p2 := m2 T2 d2 (k' + 2) (km + d2) (hA.less (by omega) (by omega)) (by omega) rfl
      have q4 := (hA.t (kind := 6) (t := [41]) (i := km) (j := km + d2) (by omega) (by omega) rfl).trans h4
      have e3 := hA.text (i := k + 1) (j := k' + 1) (by omega) (by omega) (by omega)
      rw [← e3] at p2
      obtain rfl : k1' = km + d2 + 1 := by omega
      exact .whole q1 q2 p2 q4
structure GoodRu (T : List Tok) (s : List UInt8) (k k1 : Nat) (x : Ru) : Prop where
  lt : k < k1
  semi : ∀ i, k ≤ i → i + 1 < k1 → isT T i 6 [59] = false
  last : isT T (k1 - 1) 6 [59] = true
  head : isK T k 2 = true
  ok : k1 ≤ 1000000 → RuOk x
  there : thereR s x
  move : ∀ (T2 : List Tok) (d k' k1' : Nat), Alike T T2 d k (k1 - 1) → k' = k + d → k1' = k1 + d → ∃ x2, RuleR T2 k' (.ok x2 k1') ∧ plainR x2 = plainR x
theorem RuleR_good {T : List Tok} {s : List UInt8} (hP : Places T s) {k k1 : Nat} {x : Ru} (h : RuleR T k (.ok x k1)) : GoodRu T s k k1 x := by
  cases h with
  | whole h1 h2 h3 h4 h5 h6 =>
    rename_i ps ka kb kc a zs
    obtain ⟨l2, s2, n2, m2⟩ := ParamsR_good h2
    obtain ⟨l4, s4, z4, t4, m4⟩ := AltR_good hP h4
    obtain ⟨l5, s5, z5, n5, t5, m5⟩ := AltsR_good hP h5 rfl
    simp only [List.length_cons, List.length_nil] at n5
    refine ⟨by omega, fun i p q => ?_, by simpa using h6, h1, fun hm => ⟨by simp only; omega, by simp only; omega, z5 (by omega) (fun y hy => by rw [List.mem_singleton.1 hy]; exact z4 (by omega))⟩, ⟨hP.names _ h1, t5 (fun y hy => by rw [List.mem_singleton.1 hy]; exact t4)⟩, fun T2 d k' k1' hA e1 e2 => ?_⟩
    · by_cases c1 : i = k
      · rw [c1]; exact noSemi_k h1 (by decide)
      by_cases c2 : i < ka
      · exact s2 i (by omega) c2
      by_cases c3 : i = ka
      · rw [c3]; exact noSemi_t h3 (by decide)
      by_cases c4 : i < kb
      · exact s4 i (by omega) c4
      · exact s5 i (by omega) (by omega)
    · simp only [Nat.add_sub_cancel] at hA
      have q1 := (hA.k (kind := 2) (i := k) (j := k') (Nat.le_refl _) (by omega) e1).trans h1
      have p2 := m2 T2 d (k' + 1) (ka + d) (hA.less (by omega) (by omega)) (by omega) rfl
      have q3 := (hA.t (kind := 6) (t := [58]) (i := ka) (j := ka + d) (by omega) (by omega) rfl).trans h3
      obtain ⟨a2, p4, b4⟩ := m4 T2 d (ka + d + 1) (kb + d) (hA.less (by omega) (by omega)) (by omega) rfl
      obtain ⟨zs2, p5, b5⟩ := m5 T2 d (kb + d) (kc + d) [a2] (hA.less (by omega) (by omega)) rfl rfl (by simp [b4])
      have q6 := (hA.t (kind := 6) (t := [59]) (i := kc) (j := kc + d) (by omega) (by omega) rfl).trans h6
      obtain rfl : k1' = kc + d + 1 := by omega
      exact ⟨_, .whole q1 p2 q3 p4 p5 q6, by simp only [plainR]; rw [b5, hA.text (Nat.le_refl _) (by omega) e1]⟩
/-- how many of these tokens are ; -/
def semis (T : List Tok) (lo n : Nat) : Nat := (List.range n).countP fun i => isT T (lo + i) 6 [59]
theorem semis_add (T : List Tok) (lo a b : Nat) : semis T lo (a + b) = semis T lo a + semis T (lo + a) b := by
  unfold semis
  rw [List.range_add, List.countP_append, List.countP_map]
  congr 1
  apply List.countP_congr
  intro i _
  simp [Nat.add_assoc]
theorem semis_zero {T : List Tok} {lo n : Nat} (h : ∀ i, lo ≤ i → i < lo + n → isT T i 6 [59] = false) : semis T lo n = 0 := by
  unfold semis
  rw [List.countP_eq_zero]
  intro i hi
  rw [List.mem_range] at hi
  rw [h (lo + i) (by omega) (by omega)]; decide
theorem GoodRu.one {T : List Tok} {s : List UInt8} {k k1 : Nat} {x : Ru} (h : GoodRu T s k k1 x) : semis T k (k1 - k) = 1 := by
  have := h.lt
  rw [show k1 - k = (k1 - 1 - k) + 1 by omega, semis_add, semis_zero (fun i a b => h.semi i a (by omega))]
  unfold semis
  rw [show k + (k1 - 1 - k) = k1 - 1 by omega]
  simp [h.last]
/-- rules: these of one list of tokens, and what comes behind them in another one -/
theorem RulesR_good {T : List Tok} {s : List UInt8} (hP : Places T s) {k k1 : Nat} {acc zs : List Ru} {o : Out (List Ru)} (h : RulesR T k acc o) (ho : o = .ok zs k1) :
    k ≤ k1 ∧ isK T k1 7 = true ∧ zs.length = acc.length + semis T k (k1 - k) ∧ (k1 ≤ 1000000 → (∀ a ∈ acc, RuOk a) → ∀ a ∈ zs, RuOk a) ∧ ((∀ a ∈ acc, thereR s a) → ∀ a ∈ zs, thereR s a) ∧ zs.length ≤ acc.length + (k1 - k) ∧
    ∀ (T2 : List Tok) (d k' k1' : Nat) (acc2 : List Ru), (∀ i, k ≤ i → i < k1 → (tok T2 (i + d)).kind = (tok T i).kind ∧ (tok T2 (i + d)).text = (tok T i).text) → k' = k + d → k1' = k1 + d → ∃ ys2, (∀ o2, RulesR T2 k1' (acc2 ++ ys2) o2 → RulesR T2 k' acc2 o2) ∧ acc.map plainR ++ ys2.map plainR = zs.map plainR := by
  induction h with
  | stop h1 =>
    cases ho
    refine ⟨Nat.le_refl _, h1, by simp [semis], fun _ => id, id, by omega, fun T2 d k' k1' acc2 hA e1 e2 => ⟨[], fun o2 h => ?_, by simp⟩⟩
    obtain rfl : k1' = k' := by omega
    simpa using h
  | fail _ _ => cases ho
  | next h1 hw _ ih =>
    rename_i k km acc x o _
    have hg := RuleR_good hP hw
    have hone := hg.one
    obtain ⟨l1, s1, _, hd, z1, t1, m1⟩ := hg
    obtain ⟨l2, q7, c2, z2, t2, n2, m2⟩ := ih ho
    simp only [List.length_append, List.length_cons, List.length_nil] at n2 c2
    refine ⟨by omega, q7, ?_, fun hm ha => z2 hm (fun a hx => ?_), fun ha => t2 (fun a hx => ?_), by omega, fun T2 d k' k1' acc2 hA e1 e2 => ?_⟩
    · rw [show k1 - k = (km - k) + (k1 - km) by omega, semis_add, hone, c2, show k + (km - k) = km by omega]; omega
    · rcases List.mem_append.1 hx with hx | hx
      · exact ha a hx
      · rw [List.mem_singleton.1 hx]; exact z1 (by omega)
    · rcases List.mem_append.1 hx with hx | hx
      · exact ha a hx
      · rw [List.mem_singleton.1 hx]; exact t1
    · obtain ⟨x2, p1, b1⟩ := m1 T2 d k' (km + d) (fun i a b => hA i a (by omega)) e1 rfl
      obtain ⟨ys2, p2, b2⟩ := m2 T2 d (km + d) k1' (acc2 ++ [x2]) (fun i a b => hA i (by omega) b) rfl e2
      have q7' : isK T2 k' 7 = false := by
        have hd2 : isK T2 k' 2 = true := by
          have := hA k (Nat.le_refl _) (by omega)
          unfold isK at hd ⊢
          rw [e1, this.1]; exact hd
        have := isK_eq hd2
        simp only [isK, decide_eq_false_iff_not]; omega
      refine ⟨x2 :: ys2, fun o2 h => .next q7' p1 (p2 o2 (by simpa using h)), ?_⟩
      rw [← b2, List.map_append, List.map_cons, List.map_cons, b1]; simp
end Go.Proofs.Ytelpkldlkpoioaa.Ready
/- What a text is, that a row of tokens says, whole. No program in sight. -/
namespace Go.Proofs.Ytelpkldlkpoioaa.Ready
open Go.Proofs.Ytelpkldlkpoioaa.Lexy

theorem typeL_ok {T : List Tok} {w t : List UInt8} {k k1 : Nat} (h : typeL T w k = .ok t k1) :
    (w = [116, 121, 112, 101] ∨ w = [116, 111, 107, 101, 110] ∧ isT T k 6 [60] = true) ∧ isT T k 6 [60] = true ∧ isK T (k + 1) 2 = true ∧ isT T (k + 2) 6 [62] = true ∧ t = (tok T (k + 1)).text ∧ k1 = k + 3 ∨
    ¬ (w = [116, 121, 112, 101] ∨ w = [116, 111, 107, 101, 110] ∧ isT T k 6 [60] = true) ∧ t = [] ∧ k1 = k := by
  unfold typeL at h
  split at h
  · rename_i hc
    split at h
    · cases h
    · rename_i h1
      split at h
      · cases h
      · rename_i h2
        split at h
        · cases h
        · rename_i h3
          cases h
          exact .inl ⟨hc, by simpa using h1, by simpa using h2, by simpa using h3, rfl, rfl⟩
  · rename_i hc
    cases h; exact .inr ⟨hc, rfl, rfl⟩
theorem namesL_spec {T : List Tok} : ∀ (m k : Nat) (acc : List (List UInt8)), ∃ zs, namesL T m k acc = (acc ++ zs, k + zs.length) ∧ ∀ i, k ≤ i → i < k + zs.length → isK T i 2 = true
  | 0, k, acc => ⟨[], by simp [namesL], fun i a b => by simp at b; omega⟩
  | m + 1, k, acc => by
    simp only [namesL]
    split
    · rename_i h
      obtain ⟨zs, h1, h2⟩ := namesL_spec m (k + 1) (acc ++ [(tok T k).text])
      refine ⟨(tok T k).text :: zs, by rw [h1]; simp; omega, fun i a b => ?_⟩
      by_cases c : i = k
      · rw [c]; exact h
      · exact h2 i (by omega) (by simp at b; omega)
    · exact ⟨[], by simp, fun i a b => by simp at b; omega⟩
theorem namesL_move {T T2 : List Tok} {d : Nat} : ∀ (m m2 k : Nat) (acc : List (List UInt8)), (∀ i, k ≤ i → i ≤ (namesL T m k acc).2 → (tok T2 (i + d)).kind = (tok T i).kind ∧ (tok T2 (i + d)).text = (tok T i).text) → isK T (namesL T m k acc).2 2 = false → (namesL T m k acc).2 - k ≤ m2 → namesL T2 m2 (k + d) acc = ((namesL T m k acc).1, (namesL T m k acc).2 + d)
  | 0, m2, k, acc, hA, h2, hm => by
    simp only [namesL] at hA h2 hm ⊢
    cases m2 with
    | zero => simp [namesL]
    | succ m2 =>
      simp only [namesL]
      rw [if_neg]
      have := hA k (Nat.le_refl _) (Nat.le_refl _)
      unfold isK at h2 ⊢
      rw [this.1, h2]; decide
  | m + 1, m2, k, acc, hA, h2, hm => by
    cases hk : isK T k 2 with
    | true =>
      have e : namesL T (m + 1) k acc = namesL T m (k + 1) (acc ++ [(tok T k).text]) := by simp [namesL, hk]
      rw [e] at hA h2 hm ⊢
      obtain ⟨zs, hz, _⟩ := namesL_spec (T := T) m (k + 1) (acc ++ [(tok T k).text])
      have hge : k + 1 ≤ (namesL T m (k + 1) (acc ++ [(tok T k).text])).2 := by rw [hz]; exact Nat.le_add_right _ _
      have ih := namesL_move m (m2 - 1) (k + 1) (acc ++ [(tok T k).text]) (fun i a b => hA i (by omega) b) h2 (by omega)
      obtain ⟨m2, rfl⟩ : ∃ x, m2 = x + 1 := ⟨m2 - 1, by omega⟩
      have h0 := hA k (Nat.le_refl _) (by omega)
      have hk' : isK T2 (k + d) 2 = true := by unfold isK at hk ⊢; rw [h0.1]; exact hk
      simp only [namesL, hk', if_true, h0.2]
      rw [show k + d + 1 = k + 1 + d by omega]
      simpa using ih
    | false =>
      have e : namesL T (m + 1) k acc = (acc, k) := by simp [namesL, hk]
      rw [e] at hA h2 hm ⊢
      have h0 := hA k (Nat.le_refl _) (Nat.le_refl _)
      have hk' : isK T2 (k + d) 2 = false := by unfold isK at hk ⊢; rw [h0.1]; exact hk
      cases m2 with
      | zero => simp [namesL]
      | succ m2 => simp [namesL, hk']
structure GoodDe (T : List Tok) (s : List UInt8) (k k1 : Nat) (x : De) : Prop where
  lt : k < k1
  ok : k1 ≤ 1000000 → DeOk x
  there : thereD s x
  move : ∀ T2 : List Tok, Alike T T2 0 k (k1 - 1) → k1 ≤ T2.length → ∃ x2, declL T2 k = .ok x2 k1 ∧ plainD x2 = plainD x
theorem declL_good {T : List Tok} {s : List UInt8} (hP : Places T s) {k k1 : Nat} {x : De} (hk : isK T k 1 = true) (h : declL T k = .ok x k1) : GoodDe T s k k1 x := by
  unfold declL at h
  split at h
  · cases h
  · rename_i hpr
    split at h
    · cases h
    · rename_i t ka ht
      split at h
      · cases h
      · rename_i h2
        have h2' : isK T ka 2 = true := by simpa using h2
        simp only at h
        split at h
        · cases h
        · rename_i h3
          have h3' : isT T (namesL T T.length (ka + 1) [(tok T ka).text]).2 6 [59] = true := by simpa using h3
          cases h
          obtain ⟨zs, hz, hzs⟩ := namesL_spec (T := T) T.length (ka + 1) [(tok T ka).text]
          have hn2 : (namesL T T.length (ka + 1) [(tok T ka).text]).2 = ka + 1 + zs.length := by rw [hz]
          have hn1 : (namesL T T.length (ka + 1) [(tok T ka).text]).1 = [(tok T ka).text] ++ zs := by rw [hz]
          have hka : k + 1 ≤ ka := by
            rcases typeL_ok ht with ⟨_, _, _, _, _, h⟩ | ⟨_, _, h⟩ <;> omega
          refine ⟨by omega, fun hm => ?_, hP.words _ hk, fun T2 hA hl => ?_⟩
          · show (namesL T T.length (ka + 1) [(tok T ka).text]).1.length ≤ 1000000
            rw [hn1]; simp; omega
          · rw [Nat.add_sub_cancel] at hA
            have e0 := (hA k (Nat.le_refl _) (by omega)).2
            have hpr' : ¬ (tok T2 k).text = [112, 114, 101, 99] := by
              have : (tok T2 k).text = (tok T k).text := e0
              rw [this]; exact hpr
            have ht2 : typeL T2 (tok T2 k).text (k + 1) = .ok t ka := by
              have e0' : (tok T2 k).text = (tok T k).text := e0
              rw [e0']
              rcases typeL_ok ht with ⟨c1, c2, c3, c4, rfl, rfl⟩ | ⟨c1, rfl, rfl⟩
              · have q1 := (hA.t (kind := 6) (t := [60]) (i := k + 1) (j := k + 1) (by omega) (by omega) rfl).trans c2
                have q2 := (hA.k (kind := 2) (i := k + 1 + 1) (j := k + 1 + 1) (by omega) (by omega) rfl).trans c3
                have q3 := (hA.t (kind := 6) (t := [62]) (i := k + 1 + 2) (j := k + 1 + 2) (by omega) (by omega) rfl).trans c4
                unfold typeL
                rw [if_pos (by rw [q1]; rw [c2] at c1; exact c1), if_neg (by rw [q1]; decide), if_neg (by rw [q2]; decide), if_neg (by rw [q3]; decide), hA.text (i := k + 1 + 1) (j := k + 1 + 1) (by omega) (by omega) rfl]
              · have q1 := (hA.t (kind := 6) (t := [60]) (i := k + 1) (j := k + 1) (by omega) (by omega) rfl)
                unfold typeL
                rw [if_neg (by rw [q1]; exact c1)]
            have hlast : isK T (namesL T T.length (ka + 1) [(tok T ka).text]).2 2 = false := by
              have := (isT_eq h3').1
              simp only [isK, decide_eq_false_iff_not]; omega
            have hnm := namesL_move (T := T) (T2 := T2) (d := 0) T.length T2.length (ka + 1) [(tok T ka).text] (fun i a b => hA i (by omega) b) hlast (by omega)
            simp only [Nat.add_zero] at hnm
            have q2 := (hA.k (kind := 2) (i := ka) (j := ka) (by omega) (by omega) rfl).trans h2'
            have q3 := (hA.t (kind := 6) (t := [59]) (i := (namesL T T.length (ka + 1) [(tok T ka).text]).2) (j := (namesL T T.length (ka + 1) [(tok T ka).text]).2) (by omega) (Nat.le_refl _) rfl).trans h3'
            refine ⟨⟨(tok T2 k).text, t, (namesL T T.length (ka + 1) [(tok T ka).text]).1, (tok T2 k).at_⟩, ?_, ?_⟩
            · unfold declL
              rw [if_neg hpr', ht2]
              simp only
              rw [if_neg (by rw [q2]; decide), hA.text (i := ka) (j := ka) (by omega) (by omega) rfl, hnm]
              simp only
              rw [if_neg (by rw [q3]; decide)]
            · simp only [plainD]
              have e0' : (tok T2 k).text = (tok T k).text := e0
              rw [e0']
theorem DeclsR_good {T : List Tok} {s : List UInt8} (hP : Places T s) {k k1 : Nat} {acc zs : List De} {o : Out (List De)} (h : DeclsR T k acc o) (ho : o = .ok zs k1) :
    k ≤ k1 ∧ (k1 ≤ 1000000 → (∀ a ∈ acc, DeOk a) → ∀ a ∈ zs, DeOk a) ∧ ((∀ a ∈ acc, thereD s a) → ∀ a ∈ zs, thereD s a) ∧ zs.length ≤ acc.length + (k1 - k) ∧
    ∀ (T2 : List Tok) (acc2 : List De), Alike T T2 0 k k1 → k1 ≤ T2.length → acc2.map plainD = acc.map plainD → ∃ zs2, DeclsR T2 k acc2 (.ok zs2 k1) ∧ zs2.map plainD = zs.map plainD := by
  induction h with
  | stop h1 =>
    cases ho
    exact ⟨Nat.le_refl _, fun _ => id, id, by omega, fun T2 acc2 hA _ eb => ⟨_, .stop ((hA.k (kind := 1) (Nat.le_refl _) (Nat.le_refl _) rfl).trans h1), eb⟩⟩
  | fail _ _ => cases ho
  | next h1 hw _ ih =>
    rename_i k km acc x o _
    obtain ⟨l1, z1, t1, m1⟩ := declL_good hP h1 hw
    obtain ⟨l2, z2, t2, n2, m2⟩ := ih ho
    simp only [List.length_append, List.length_cons, List.length_nil] at n2
    refine ⟨by omega, fun hm ha => z2 hm (fun a hx => ?_), fun ha => t2 (fun a hx => ?_), by omega, fun T2 acc2 hA hl eb => ?_⟩
    · rcases List.mem_append.1 hx with hx | hx
      · exact ha a hx
      · rw [List.mem_singleton.1 hx]; exact z1 (by omega)
    · rcases List.mem_append.1 hx with hx | hx
      · exact ha a hx
      · rw [List.mem_singleton.1 hx]; exact t1
    · obtain ⟨x2, p1, b1⟩ := m1 T2 (hA.less (by omega) (by omega)) (by omega)
      obtain ⟨zs2, p2, b2⟩ := m2 T2 (acc2 ++ [x2]) (hA.less (by omega) (by omega)) hl (by rw [List.map_append, List.map_append, eb, List.map_cons, List.map_cons, b1])
      exact ⟨_, .next ((hA.k (kind := 1) (i := k) (j := k) (by omega) (by omega) rfl).trans h1) p1 p2, b2⟩
theorem TextR_good {T : List Tok} {s : List UInt8} (hP : Places T s) {k1 : Nat} {x : Tx} (h : TextR T (.ok x k1)) (hk : k1 ≤ 1000000) :
    TxOk x ∧ thereT s x ∧ ∀ T2 : List Tok, Alike T T2 0 0 k1 → k1 ≤ T2.length → ∃ x2, TextR T2 (.ok x2 k1) ∧ plainT x2 = plainT x := by
  cases h with
  | whole h1 h2 h3 =>
    rename_i ds ka rs
    obtain ⟨l1, z1, t1, n1, m1⟩ := DeclsR_good hP h1 rfl
    obtain ⟨l2, q7, _, z2, t2, n2, m2⟩ := RulesR_good hP h3 rfl
    simp only [List.length_nil, Nat.zero_add] at n1 n2
    refine ⟨⟨by simp only; omega, by simp only; omega, z1 (by omega) (fun a h => by cases h), z2 hk (fun a h => by cases h)⟩, ⟨t1 (fun a h => by cases h), t2 (fun a h => by cases h)⟩, fun T2 hA hl => ?_⟩
    obtain ⟨ds2, p1, b1⟩ := m1 T2 [] (hA.less (by omega) (by omega)) (by omega) rfl
    obtain ⟨ys2, p2, b2⟩ := m2 T2 0 (ka + 1) k1 [] (fun i a b => hA i (by omega) (by omega)) rfl rfl
    have q3 := (hA.t (kind := 6) (t := [37, 37]) (i := ka) (j := ka) (by omega) (by omega) rfl).trans h2
    have q7' := (hA.k (kind := 7) (i := k1) (j := k1) (by omega) (by omega) rfl).trans q7
    have hr := p2 _ (RulesR.stop q7')
    refine ⟨⟨ds2, [] ++ ys2⟩, .whole p1 q3 hr, ?_⟩
    simp only [plainT, List.nil_append]
    rw [b1, ← b2]; rfl
end Go.Proofs.Ytelpkldlkpoioaa.Ready
/- Where faults are; that tokens stand at their places; comments and blanks ahead and behind. No program in sight. -/
namespace Go.Proofs.Ytelpkldlkpoioaa.Ready
open Go.Proofs.Ytelpkldlkpoioaa.Lexy

/-- a fault is at a token -/
def Bads (T : List Tok) (e p : Nat) : Prop := (e = 102 ∨ e = 103) ∧ ∃ k, p = (tok T k).at_
theorem bad2 (T : List Tok) (k : Nat) : Bads T 102 (tok T k).at_ := ⟨.inl rfl, k, rfl⟩
theorem PR_bad {T : List Tok} {j : Job} {a : Ans} (h : PR T j a) : ∀ e p, a = .bad e p → Bads T e p := by
  induction h with
  | deep _ _ => intro e p he; cases he; exact ⟨.inr rfl, _, rfl⟩
  | none _ => intro e p he; cases he; exact bad2 _ _
  | close _ _ _ _ _ _ _ _ => intro e p he; cases he; exact bad2 _ _
  | first _ _ _ _ ih => intro e p he; cases he; exact ih _ _ rfl
  | rest _ _ _ _ _ _ ih => intro e p he; cases he; exact ih _ _ rfl
  | fail _ _ ih => intro e p he; cases he; exact ih _ _ rfl
  | next _ _ _ _ ih => intro e p he; exact ih _ _ he
  | name _ _ _ => intro e p he; cases he
  | whole _ _ _ _ _ _ _ _ => intro e p he; cases he
  | stop _ => intro e p he; cases he
theorem WordsR_bad {T : List Tok} {k : Nat} {acc : List Wd} {o : Out (List Wd)} (h : WordsR T k acc o) : ∀ e p, o = .bad e p → Bads T e p := by
  induction h with
  | stop _ => intro e p he; cases he
  | fail _ h => intro e p he; cases he; exact PR_bad h _ _ rfl
  | next _ _ _ ih => exact ih
theorem precL_bad {T : List Tok} {k e p : Nat} (h : precL T k = .bad e p) : Bads T e p := by
  unfold precL at h
  split at h
  · split at h
    · cases h
    · cases h; exact bad2 _ _
  · cases h
theorem AltR_bad {T : List Tok} {k e p : Nat} (h : AltR T k (.bad e p)) : Bads T e p := by
  cases h with
  | words h => exact WordsR_bad h _ _ rfl
  | prec _ h => exact precL_bad h
theorem AltsR_bad {T : List Tok} {k : Nat} {acc : List Al} {o : Out (List Al)} (h : AltsR T k acc o) : ∀ e p, o = .bad e p → Bads T e p := by
  induction h with
  | stop _ => intro e p he; cases he
  | fail _ h => intro e p he; cases he; exact AltR_bad h
  | next _ _ _ ih => exact ih
theorem NamesR_bad {T : List Tok} {k : Nat} {acc : List (List UInt8)} {o : Out (List (List UInt8))} (h : NamesR T k acc o) : ∀ e p, o = .bad e p → Bads T e p := by
  induction h with
  | stop _ => intro e p he; cases he
  | fail _ _ => intro e p he; cases he; exact bad2 _ _
  | next _ _ _ ih => exact ih
theorem ParamsR_bad {T : List Tok} {k e p : Nat} (h : ParamsR T k (.bad e p)) : Bads T e p := by
  cases h with
  | first _ _ => exact bad2 _ _
  | rest _ _ h => exact NamesR_bad h _ _ rfl
  | close _ _ _ _ => exact bad2 _ _
theorem RuleR_bad {T : List Tok} {k e p : Nat} (h : RuleR T k (.bad e p)) : Bads T e p := by
  cases h with
  | name _ => exact bad2 _ _
  | params _ h => exact ParamsR_bad h
  | colon _ _ _ => exact bad2 _ _
  | first _ _ _ h => exact AltR_bad h
  | rest _ _ _ _ h => exact AltsR_bad h _ _ rfl
  | semi _ _ _ _ _ _ => exact bad2 _ _
theorem RulesR_bad {T : List Tok} {k : Nat} {acc : List Ru} {o : Out (List Ru)} (h : RulesR T k acc o) : ∀ e p, o = .bad e p → Bads T e p := by
  induction h with
  | stop _ => intro e p he; cases he
  | fail _ h => intro e p he; cases he; exact RuleR_bad h
  | next _ _ _ ih => exact ih
theorem declL_bad {T : List Tok} {k e p : Nat} (h : declL T k = .bad e p) : Bads T e p := by
  unfold declL at h
  split at h
  · cases h; exact bad2 _ _
  · split at h
    · rename_i e' p' ht
      cases h
      unfold typeL at ht
      split at ht
      · split at ht
        · cases ht; exact bad2 _ _
        · split at ht
          · cases ht; exact bad2 _ _
          · split at ht
            · cases ht; exact bad2 _ _
            · cases ht
      · cases ht
    · split at h
      · cases h; exact bad2 _ _
      · simp only at h
        split at h
        · cases h; exact bad2 _ _
        · cases h
theorem DeclsR_bad {T : List Tok} {k : Nat} {acc : List De} {o : Out (List De)} (h : DeclsR T k acc o) : ∀ e p, o = .bad e p → Bads T e p := by
  induction h with
  | stop _ => intro e p he; cases he
  | fail _ h => intro e p he; cases he; exact declL_bad h
  | next _ _ _ ih => exact ih
theorem TextR_bad {T : List Tok} {e p : Nat} (h : TextR T (.bad e p)) : Bads T e p := by
  cases h with
  | decls h => exact DeclsR_bad h _ _ rfl
  | mid _ _ => exact bad2 _ _
  | rules _ _ h => exact RulesR_bad h _ _ rfl
/-! tokens stand at their places -/
theorem chain_stands {s : List UInt8} : ∀ {ts : List Tok} {b : Nat}, chain s b ts → ∀ t ∈ ts, standsL s t.at_ (render t.kind t.text)
  | [], _, _, t, ht => by cases ht
  | x :: ts, b, h, t, ht => by
    obtain ⟨h1, h2, h3, h4⟩ := h
    rcases List.mem_cons.1 ht with rfl | ht
    · exact ⟨h2, h3⟩
    · exact chain_stands h4 t ht
theorem tok_last {ts : List Tok} {n i kind : Nat} (hk : isK (ts ++ [(⟨7, [], n⟩ : Tok)]) i kind = true) (h7 : kind ≠ 7) (h0 : kind ≠ 0) : tok (ts ++ [(⟨7, [], n⟩ : Tok)]) i ∈ ts := by
  have hk := isK_eq hk
  rcases Nat.lt_or_ge i ts.length with h | h
  · unfold tok
    rw [List.getD_eq_getElem?_getD, List.getElem?_append_left h, List.getElem?_eq_getElem h]
    exact List.getElem_mem h
  · rcases Nat.lt_or_ge ts.length i with h2 | h2
    · rw [tok_ge (by simp; omega)] at hk
      exact absurd hk.symm h0
    · obtain rfl : i = ts.length := by omega
      have : tok (ts ++ [(⟨7, [], n⟩ : Tok)]) ts.length = ⟨7, [], n⟩ := by unfold tok; simp
      rw [this] at hk
      exact absurd hk.symm h7
theorem toks_places {s : List UInt8} {T : List Tok} (h : toks s = .good T) : Places T s := by
  obtain ⟨ts, rfl, hc, hf, hs⟩ := toks_shape h
  have key := chain_stands hc
  refine ⟨fun i hi => ?_, fun i hi => ?_, fun i hi => ?_⟩
  · have := key _ (tok_last hi (by decide) (by decide))
    rw [isK_eq hi] at this
    simpa [render] using this
  · have := key _ (tok_last hi (by decide) (by decide))
    rw [isK_eq hi] at this
    simpa [render] using this
  · have := key _ (tok_last hi (by decide) (by decide))
    rw [isK_eq hi] at this
    simpa [render] using this
/-! comments and blanks ahead and behind -/
theorem alike_of {T T2 : List Tok} (h : bare T2 = bare T) (k : Nat) : Alike T T2 0 0 k := by
  intro i _ _
  have hl : T2.length = T.length := by have := congrArg List.length h; simpa [bare] using this
  rcases Nat.lt_or_ge i T.length with hi | hi
  · have h1 := congrArg (fun l => l[i]?) h
    simp only [bare, List.getElem?_map] at h1
    rw [List.getElem?_eq_getElem hi, List.getElem?_eq_getElem (by omega)] at h1
    simp only [Option.map_some, Option.some.injEq, Prod.mk.injEq] at h1
    unfold tok
    rw [Nat.add_zero, List.getD_eq_getElem?_getD, List.getD_eq_getElem?_getD, List.getElem?_eq_getElem hi, List.getElem?_eq_getElem (by omega)]
    exact h1
  · rw [Nat.add_zero, tok_ge hi, tok_ge (by omega)]; exact ⟨rfl, rfl⟩
theorem bare_sh (d : Nat) (ts : List Tok) : bare (ts.map (sh d)) = bare ts := by simp [bare, sh, List.map_map, Function.comp_def]
theorem lexA_pre (x : List UInt8) (a : Nat) : lexA (47 :: 47 :: 32 :: 37 :: 10 :: 9 :: x) 0 a = lexA x 0 (a + 6) := by
  rw [lexA_com _ _ (by rfl) (by rfl)]
  have ho : overL (47 :: 47 :: 32 :: 37 :: 10 :: 9 :: x) = 4 := by rfl
  rw [ho]
  simp only [List.drop_succ_cons, List.drop_zero]
  rw [lexA_ws _ _ (by simp) (by rfl)]
  simp only [List.drop_succ_cons, List.drop_zero]
  rw [lexA_ws _ _ (by simp) (by rfl)]
  rfl
theorem lexA_suf (a : Nat) : lexA [32, 47, 47, 32, 123] 0 a = .good [⟨7, [], a + 5⟩] := by
  rw [lexA_ws _ _ (by simp) (by rfl)]
  simp only [List.drop_succ_cons, List.drop_zero]
  rw [lexA_com _ _ (by rfl) (by rfl)]
  rfl
theorem toks_wrap {s : List UInt8} {T : List Tok} (h : toks s = .good T) (hs : s.length ≤ 20000) : ∃ T2, toks (47 :: 47 :: 32 :: 37 :: 10 :: 9 :: (s ++ [32, 47, 47, 32, 123])) = .good T2 ∧ bare T2 = bare T := by
  obtain ⟨ts, rfl, _, _, _⟩ := toks_shape h
  unfold toks at h
  rw [if_neg (by omega)] at h
  have ht := lexA_tail (c := 32) (x := [47, 47, 32, 123]) (by rfl) 6 s.length s 0 ts (Nat.le_refl _) (by simpa using h)
  unfold toks
  rw [if_neg (by simp; omega), lexA_pre]
  rw [lexA_suf] at ht
  have ho : overL [32, 47, 47, 32, 123] = 5 := by rfl
  rw [ho] at ht
  have hd : ([32, 47, 47, 32, 123] : List UInt8).drop 5 = [] := rfl
  rw [hd] at ht
  simp only [Nat.zero_add] at ht ⊢
  rcases ht with ht | ht
  · rw [ht, ahead_good]
    exact ⟨_, rfl, by rw [bare, List.map_append]; have := bare_sh 6 ts; unfold bare at this ⊢; rw [this, List.map_append]; rfl⟩
  · rw [ht]
    simp only [lexA]
    rw [ahead_good]
    exact ⟨_, rfl, by rw [bare, List.map_append]; have := bare_sh 6 ts; unfold bare at this ⊢; rw [this, List.map_append]; rfl⟩
theorem TextR_end {T : List Tok} {x : Tx} {k : Nat} (hT : Ends T) (h : TextR T (.ok x k)) : k < T.length := by
  cases h with
  | whole h1 h2 h3 =>
    rename_i ds ka rs
    have hk1 : ∀ {k : Nat} {acc zs : List De} {k1 : Nat} {o : Out (List De)}, k < T.length → DeclsR T k acc o → o = .ok zs k1 → k1 < T.length := by
      intro k acc zs k1 o hk h
      induction h with
      | stop _ => intro e; cases e; exact hk
      | fail _ _ => intro e; cases e
      | next h1 h2 _ ih => exact ih (declL_past hT hk h1 _ _ h2).2
    have hka := hk1 hT.pos h1 rfl
    have hk2 : ∀ {k : Nat} {acc zs : List Ru} {k1 : Nat} {o : Out (List Ru)}, k < T.length → RulesR T k acc o → o = .ok zs k1 → k1 < T.length := by
      intro k acc zs k1 o hk h
      induction h with
      | stop _ => intro e; cases e; exact hk
      | fail _ _ => intro e; cases e
      | next h1 h2 _ ih =>
        rename_i k acc x o hr hmore
        refine ih ?_
        cases h2 with
        | whole g1 g2 g3 g4 g5 g6 =>
          rename_i ps ka kb kc a zs
          rcases Nat.lt_or_ge (kc) (T.length) with hh | hh
          · exact hT.ltT hh g6
          · have := (isT_eq g6).1
            rw [tok_ge hh] at this; cases this
    exact hk2 (hT.ltT hka h2) h3 rfl
end Go.Proofs.Ytelpkldlkpoioaa.Ready
/- The examples of the chapter on reading: what they say. No program in sight. -/
namespace Go.Proofs.Ytelpkldlkpoioaa.Ready
open Go.Proofs.Ytelpkldlkpoioaa.Lexy

/-- "%token <int> N; %% l(X): X | l(X) N %prec N { $$ = $2 }; s: ;" -/
def exS : List UInt8 := [37, 116, 111, 107, 101, 110, 32, 60, 105, 110, 116, 62, 32, 78, 59, 32, 37, 37, 32, 108, 40, 88, 41, 58, 32, 88, 32, 124, 32, 108, 40, 88, 41, 32, 78, 32, 37, 112, 114, 101, 99, 32, 78, 32, 123, 32, 36, 36, 32, 61, 32, 36, 50, 32, 125, 59, 32, 115, 58, 32, 59]
def exT : List Tok := [⟨1, [116, 111, 107, 101, 110], 0⟩, ⟨6, [60], 7⟩, ⟨2, [105, 110, 116], 8⟩, ⟨6, [62], 11⟩, ⟨2, [78], 13⟩, ⟨6, [59], 14⟩, ⟨6, [37, 37], 16⟩, ⟨2, [108], 19⟩, ⟨6, [40], 20⟩, ⟨2, [88], 21⟩, ⟨6, [41], 22⟩, ⟨6, [58], 23⟩, ⟨2, [88], 25⟩, ⟨6, [124], 27⟩, ⟨2, [108], 29⟩, ⟨6, [40], 30⟩, ⟨2, [88], 31⟩, ⟨6, [41], 32⟩, ⟨2, [78], 34⟩, ⟨1, [112, 114, 101, 99], 36⟩, ⟨2, [78], 42⟩, ⟨9, [32, 36, 36, 32, 61, 32, 36, 50, 32], 44⟩, ⟨6, [59], 55⟩, ⟨2, [115], 57⟩, ⟨6, [58], 58⟩, ⟨6, [59], 60⟩, ⟨7, [], 61⟩]
theorem exS_toks : toks exS = .good exT := by decide +kernel
def exA : Al := ⟨[.mk [88] [] 25], [], false, [], 0, 25⟩
def exB : Al := ⟨[.mk [108] [.mk [88] [] 31] 29, .mk [78] [] 34], [78], true, [32, 36, 36, 32, 61, 32, 36, 50, 32], 45, 29⟩
def exR1 : Ru := ⟨[108], [[88]], [exA, exB], 19⟩
def exR2 : Ru := ⟨[115], [], [⟨[], [], false, [], 0, 60⟩], 57⟩
def exD : De := ⟨[116, 111, 107, 101, 110], [105, 110, 116], [[78]], 0⟩
def exX : Tx := ⟨[exD], [exR1, exR2]⟩
theorem ex_decls : DeclsR exT 0 [] (.ok [exD] 6) := .next (x := exD) (k1 := 6) (by rfl) (by rfl) (.stop (by rfl))
theorem ex_words1 : WordsR exT 12 [] (.ok [.mk [88] [] 25] 13) := .next (x := .mk [88] [] 25) (k1 := 13) (by rfl) (.name (by rfl) (by omega) (by rfl)) (.stop (by rfl))
theorem ex_alt1 : AltR exT 12 (.ok exA 13) := .ok (k2 := 13) (q := []) ex_words1 (by rfl)
theorem ex_word2 : PR exT (.word 14 0) (.one (.mk [108] [.mk [88] [] 31] 29) 18) := .whole (x := .mk [88] [] 31) (k1 := 17) (k2 := 17) (by rfl) (by omega) (by rfl) (.name (by rfl) (by omega) (by rfl)) (.stop (by rfl)) (by rfl)
theorem ex_words2 : WordsR exT 14 [] (.ok [.mk [108] [.mk [88] [] 31] 29, .mk [78] [] 34] 19) :=
  .next (x := .mk [108] [.mk [88] [] 31] 29) (k1 := 18) (by rfl) ex_word2 (.next (x := .mk [78] [] 34) (k1 := 19) (by rfl) (.name (by rfl) (by omega) (by rfl)) (.stop (by rfl)))
theorem ex_alt2 : AltR exT 14 (.ok exB 22) := .ok (k2 := 21) (q := [78]) ex_words2 (by rfl)
theorem ex_rule1 : RuleR exT 7 (.ok exR1 23) := .whole (ps := [[88]]) (k1 := 11) (k2 := 13) (k3 := 22) (a := exA) (as := [exA, exB]) (by rfl) (.whole (k1 := 10) (by rfl) (by rfl) (.stop (by rfl)) (by rfl)) (by rfl) ex_alt1 (.next (x := exB) (k1 := 22) (by rfl) ex_alt2 (.stop (by rfl))) (by rfl)
theorem ex_alt3 : AltR exT 25 (.ok ⟨[], [], false, [], 0, 60⟩ 25) := .ok (k2 := 25) (q := []) (.stop (by rfl)) (by rfl)
theorem ex_rule2 : RuleR exT 23 (.ok exR2 26) := .whole (ps := []) (k1 := 24) (k2 := 25) (k3 := 25) (a := ⟨[], [], false, [], 0, 60⟩) (as := [⟨[], [], false, [], 0, 60⟩]) (by rfl) (.none (by rfl)) (by rfl) ex_alt3 (.stop (by rfl)) (by rfl)
theorem ex_text : TextR exT (.ok exX 26) := .whole ex_decls (by rfl) (.next (x := exR1) (k1 := 23) (by rfl) ex_rule1 (.next (x := exR2) (k1 := 26) (by rfl) ex_rule2 (.stop (by rfl))))
/-- "%% e: ( :" -/
def exS2 : List UInt8 := [37, 37, 32, 101, 58, 32, 40, 32, 58]
def exT2 : List Tok := [⟨6, [37, 37], 0⟩, ⟨2, [101], 3⟩, ⟨6, [58], 4⟩, ⟨6, [40], 6⟩, ⟨6, [58], 8⟩, ⟨7, [], 9⟩]
theorem exS2_toks : toks exS2 = .good exT2 := by decide +kernel
theorem ex_text2 : TextR exT2 (.bad 102 6) :=
  .rules (ds := []) (k := 0) (.stop (by rfl)) (by rfl) (.fail (by rfl) (.semi (ps := []) (k1 := 2) (k2 := 3) (k3 := 3) (a := ⟨[], [], false, [], 0, 6⟩) (as := [⟨[], [], false, [], 0, 6⟩]) (by rfl) (.none (by rfl)) (by rfl) (.ok (k2 := 3) (q := []) (.stop (by rfl)) (by rfl)) (.stop (by rfl)) (by rfl)))
/-- "%left <int> P;" -/
def exS3 : List UInt8 := [37, 108, 101, 102, 116, 32, 60, 105, 110, 116, 62, 32, 80, 59]
def exT3 : List Tok := [⟨1, [108, 101, 102, 116], 0⟩, ⟨6, [60], 6⟩, ⟨2, [105, 110, 116], 7⟩, ⟨6, [62], 10⟩, ⟨2, [80], 12⟩, ⟨6, [59], 13⟩, ⟨7, [], 14⟩]
theorem exS3_toks : toks exS3 = .good exT3 := by decide +kernel
theorem ex_text3 : TextR exT3 (.bad 102 6) := .decls (.fail (by rfl) (by rfl))
end Go.Proofs.Ytelpkldlkpoioaa.Ready
/- The plain law of ReadRows: the rules of two texts, one behind the other. No program in sight. -/
namespace Go.Proofs.Ytelpkldlkpoioaa.Ready
open Go.Proofs.Ytelpkldlkpoioaa.Lexy

def shR (d : Nat) : Res → Res
  | .bad e a => .bad e (a + d)
  | .good l => .good (l.map (sh d))
theorem shR_cons (d : Nat) (t : Tok) (r : Res) : shR d (r.cons t) = (shR d r).cons (sh d t) := by cases r <;> rfl
theorem lexA_shift (d : Nat) : ∀ (l : List UInt8) (k a : Nat), lexA l k (a + d) = shR d (lexA l k a)
  | [], k, a => by simp [lexA, shR, sh]
  | c :: r, k + 1, a => by
    simp only [lexA]
    rw [show a + d + 1 = a + 1 + d by omega]; exact lexA_shift d r k (a + 1)
  | c :: r, 0, a => by
    simp only [lexA]
    rw [show a + d + 1 = a + 1 + d by omega]
    split
    · exact lexA_shift d r 0 (a + 1)
    · split
      · exact lexA_shift d r _ (a + 1)
      · split
        · rfl
        · rw [lexA_shift d r _ (a + 1), shR_cons]; rfl
/-- the %% and a blank ahead -/
theorem lexA_two (x : List UInt8) (a : Nat) : lexA (37 :: 37 :: 32 :: x) 0 a = (lexA x 0 (a + 3)).cons ⟨6, [37, 37], a⟩ := by
  rw [lexA_tok _ _ (by simp) (by rfl) (by rfl)]
  have ht : tokL (37 :: 37 :: 32 :: x) = .good 6 [37, 37] 2 := by
    unfold tokL; dsimp only
    rw [if_neg (by decide), if_pos (by decide), if_pos (by rfl)]
  rw [ht]
  simp only [List.drop_succ_cons, List.drop_zero]
  rw [lexA_ws _ _ (by simp) (by rfl)]
  rfl
theorem toks_two {a : List UInt8} {T : List Tok} (h : toks (37 :: 37 :: 32 :: a) = .good T) : ∃ ts, toks a = .good (ts ++ [⟨7, [], a.length⟩]) ∧ T = ⟨6, [37, 37], 0⟩ :: (ts.map (sh 3) ++ [⟨7, [], a.length + 3⟩]) := by
  have hs := (toks_shape h)
  obtain ⟨_, _, _, _, hl⟩ := hs
  simp only [List.length_cons] at hl
  unfold toks at h
  rw [if_neg (by simp; omega), lexA_two, Nat.zero_add, show (3 : Nat) = 0 + 3 by rfl, lexA_shift] at h
  cases ha : lexA a 0 0 with
  | bad e p => rw [ha] at h; cases h
  | good l =>
    rw [ha] at h
    have ht : toks a = .good l := by unfold toks; rw [if_neg (by omega)]; exact ha
    obtain ⟨ts, rfl, _⟩ := toks_shape ht
    refine ⟨ts, ht, ?_⟩
    simp only [shR, Res.cons, Res.good.injEq] at h
    rw [← h]
    simp [sh]
/-- a text that begins with %%: its rules -/
theorem text_two {a : List UInt8} {T : List Tok} {x : Tx} {k : Nat} (h : toks (37 :: 37 :: 32 :: a) = .good T) (hx : TextR T (.ok x k)) : x.decls = [] ∧ RulesR T 1 [] (.ok x.rules k) ∧ k + 1 = T.length := by
  have hT := toks_told h
  have hk := TextR_end hT.1.ends hx
  obtain ⟨ts, _, hTT⟩ := toks_two h
  have h0 : tok T 0 = ⟨6, [37, 37], 0⟩ := by rw [hTT]; rfl
  cases hx with
  | whole h1 h2 h3 =>
    rename_i ds ka rs
    have hd : (Out.ok ds ka : Out (List De)) = .ok [] 0 := by
      cases h1 with
      | stop _ => rfl
      | next h _ _ => simp [isK, h0] at h
    cases hd
    refine ⟨rfl, h3, ?_⟩
    obtain ⟨_, h7, _⟩ := RulesR_good (toks_places h) h3 rfl
    have := hT.1.ends.only k
    have hp := hT.1.ends.pos
    rcases Nat.lt_or_ge k (T.length - 1) with hlt | hge
    · exact absurd (isK_eq h7) (this hlt)
    · omega
theorem tok_cons (t : Tok) (l : List Tok) (i : Nat) : tok (t :: l) (i + 1) = tok l i := by unfold tok; simp
theorem tok_left {l r : List Tok} {i : Nat} (h : i < l.length) : tok (l ++ r) i = tok l i := by
  unfold tok; rw [List.getD_eq_getElem?_getD, List.getD_eq_getElem?_getD, List.getElem?_append_left h]
theorem tok_right {l r : List Tok} {i : Nat} (h : l.length ≤ i) : tok (l ++ r) i = tok r (i - l.length) := by
  unfold tok; rw [List.getD_eq_getElem?_getD, List.getD_eq_getElem?_getD, List.getElem?_append_right h]
theorem tok_sh {l : List Tok} {d i : Nat} (h : i < l.length) : (tok (l.map (sh d)) i).kind = (tok l i).kind ∧ (tok (l.map (sh d)) i).text = (tok l i).text := by
  unfold tok
  rw [List.getD_eq_getElem?_getD, List.getD_eq_getElem?_getD, List.getElem?_map, List.getElem?_eq_getElem h]
  exact ⟨rfl, rfl⟩
/-- is it a ; ? -/
def semiT (t : Tok) : Bool := decide (t.kind = 6) && decide (t.text = [59])
theorem countP_range_tok (l : List Tok) (p : Tok → Bool) : ∀ n, n ≤ l.length → (List.range n).countP (fun i => p (tok l i)) = (l.take n).countP p
  | 0, _ => by simp
  | n + 1, h => by
    rw [List.range_succ, List.countP_append, countP_range_tok l p n (by omega), List.take_succ_eq_append_getElem (by omega), List.countP_append]
    congr 1
    have : tok l n = l[n] := by unfold tok; rw [List.getD_eq_getElem?_getD, List.getElem?_eq_getElem (by omega)]; rfl
    simp [this]
/-- how many rules there are is how many ; stand behind the %% -/
theorem semis_two {a : List UInt8} {T : List Tok} {x : Tx} {k : Nat} (h : toks (37 :: 37 :: 32 :: a) = .good T) (hx : TextR T (.ok x k)) : ∃ l, toks a = .good l ∧ l.countP semiT = x.rules.length := by
  obtain ⟨hd, hr, hk⟩ := text_two h hx
  obtain ⟨ts, ht, hTT⟩ := toks_two h
  refine ⟨_, ht, ?_⟩
  obtain ⟨_, _, hc, _⟩ := RulesR_good (toks_places h) hr rfl
  have hlen : T.length = ts.length + 2 := by rw [hTT]; simp
  simp only [List.length_nil, Nat.zero_add] at hc
  rw [hc, List.countP_append]
  have e : k - 1 = ts.length := by omega
  rw [e]
  have h0 : ([⟨7, [], a.length⟩] : List Tok).countP semiT = 0 := by simp [semiT]
  rw [h0, Nat.add_zero]
  unfold semis
  have := countP_range_tok ts semiT ts.length (Nat.le_refl _)
  rw [List.take_length] at this
  rw [← this]
  apply List.countP_congr
  intro i hi
  rw [List.mem_range] at hi
  have h1 : tok T (1 + i) = tok (ts.map (sh 3)) i := by rw [hTT, Nat.add_comm 1 i, tok_cons, tok_left (by simpa using hi)]
  have h2 := tok_sh (d := 3) hi
  unfold semiT isT
  rw [h1, h2.1, h2.2]
end Go.Proofs.Ytelpkldlkpoioaa.Ready
/- The plain law of ReadRows, whole. No program in sight. -/
namespace Go.Proofs.Ytelpkldlkpoioaa.Ready
open Go.Proofs.Ytelpkldlkpoioaa.Lexy

def headT : List Tok := [⟨1, [108, 101, 102, 116], 0⟩, ⟨2, [80], 6⟩, ⟨6, [59], 7⟩, ⟨6, [37, 37], 9⟩]
theorem lexA_head (x : List UInt8) : lexA (37 :: 108 :: 101 :: 102 :: 116 :: 32 :: 80 :: 59 :: 32 :: 37 :: 37 :: 32 :: x) 0 0 = Lexy.ahead headT (lexA x 0 12) := by
  rw [lexA_tok _ _ (by simp) (by rfl) (by rfl)]
  have h1 : tokL (37 :: 108 :: 101 :: 102 :: 116 :: 32 :: 80 :: 59 :: 32 :: 37 :: 37 :: 32 :: x) = .good 1 [108, 101, 102, 116] 5 := by
    unfold tokL; dsimp only
    have hr : runL (108 :: 101 :: 102 :: 116 :: 32 :: 80 :: 59 :: 32 :: 37 :: 37 :: 32 :: x) = 4 := by rfl
    rw [if_neg (by decide), if_pos (by decide), if_neg (by simp), hr, if_pos (by simp only [List.take_succ_cons, List.take_zero]; decide)]
    rfl
  rw [h1]
  simp only [List.drop_succ_cons, List.drop_zero]
  rw [lexA_ws _ _ (by simp) (by rfl)]
  simp only [List.drop_succ_cons, List.drop_zero]
  rw [lexA_tok _ _ (by simp) (by rfl) (by rfl)]
  have h2 : tokL (80 :: 59 :: 32 :: 37 :: 37 :: 32 :: x) = .good 2 [80] 1 := by
    unfold tokL; dsimp only
    rw [if_pos (by decide), if_neg (by simp [runL, ldN, letN, digN])]
    rfl
  rw [h2]
  simp only [List.drop_succ_cons, List.drop_zero]
  rw [lexA_tok _ _ (by simp) (by rfl) (by rfl)]
  have h3 : tokL (59 :: 32 :: 37 :: 37 :: 32 :: x) = .good 6 [59] 1 := by
    unfold tokL; dsimp only
    rw [if_neg (by decide), if_neg (by decide), if_neg (by decide), if_pos (by decide)]
  rw [h3]
  simp only [List.drop_succ_cons, List.drop_zero]
  rw [lexA_ws _ _ (by simp) (by rfl)]
  simp only [List.drop_succ_cons, List.drop_zero]
  rw [lexA_two]
  rfl
/-- the source of both texts -/
def bothS (a b : List UInt8) : List UInt8 := 37 :: 108 :: 101 :: 102 :: 116 :: 32 :: 80 :: 59 :: 32 :: 37 :: 37 :: 32 :: (a ++ 10 :: b)
theorem toks_both {a b : List UInt8} {ts us : List Tok} (ha : toks a = .good (ts ++ [⟨7, [], a.length⟩])) (hb : toks b = .good (us ++ [⟨7, [], b.length⟩])) (hl : a.length + b.length ≤ 30000) :
    ∃ us' e, toks (bothS a b) = .good (headT ++ (ts.map (sh 12) ++ (us' ++ [⟨7, [], e⟩]))) ∧ bare us' = bare us := by
  unfold toks at ha hb
  rw [if_neg (by omega)] at ha hb
  unfold toks bothS
  rw [if_neg (by simp; omega), lexA_head]
  have h10 : lexA (10 :: b) 0 (12 + a.length) = .good (us.map (sh (12 + a.length + 1)) ++ [⟨7, [], b.length + (12 + a.length + 1)⟩]) := by
    rw [lexA_ws _ _ (by simp) (by rfl)]
    simp only [List.drop_succ_cons, List.drop_zero]
    have := lexA_shift (12 + a.length + 1) b 0 0
    rw [Nat.zero_add] at this
    rw [this, hb]
    simp [shR, sh]
  have ht := lexA_tail (c := 10) (x := b) (by rfl) 12 a.length a 0 ts (Nat.le_refl _) (by simpa using ha)
  have ho : overL (10 :: b) = 0 := by rfl
  rw [ho, List.drop_zero] at ht
  simp only [Nat.zero_add, Nat.add_zero, or_self] at ht
  rw [ht, h10, ahead_good, ahead_good]
  exact ⟨_, _, rfl, bare_sh _ _⟩
theorem tok_append_mid {l m r : List Tok} {i : Nat} (h : i < m.length) : tok (l ++ (m ++ r)) (l.length + i) = tok m i := by
  rw [tok_right (by omega), Nat.add_sub_cancel_left, tok_left h]
theorem bare_tok {l m : List Tok} (h : bare l = bare m) {i : Nat} (hi : i < m.length) : i < l.length ∧ (tok l i).kind = (tok m i).kind ∧ (tok l i).text = (tok m i).text := by
  have hl : l.length = m.length := by have := congrArg List.length h; simpa [bare] using this
  have := alike_of h i i (Nat.zero_le _) (Nat.le_refl _)
  exact ⟨by omega, this⟩
/-- THE PLAIN LAW OF ReadRows -/
theorem text_both {a b : List UInt8} {T U : List Tok} {x y : Tx} {k j : Nat} (ha : toks (37 :: 37 :: 32 :: a) = .good T) (hx : TextR T (.ok x k)) (hb : toks (37 :: 37 :: 32 :: b) = .good U) (hy : TextR U (.ok y j)) (hl : a.length + b.length ≤ 30000) :
    ∃ V v e, toks (bothS a b) = .good V ∧ TextR V (.ok v e) ∧ TxOk v ∧ v.decls = [⟨[108, 101, 102, 116], [], [[80]], 0⟩] ∧ v.rules.map plainR = (x.rules ++ y.rules).map plainR := by
  obtain ⟨_, hr1, hk1⟩ := text_two ha hx
  obtain ⟨_, hr2, hk2⟩ := text_two hb hy
  obtain ⟨ts, ht, hT⟩ := toks_two ha
  obtain ⟨us, hu, hU⟩ := toks_two hb
  obtain ⟨us', e, hV, hbu⟩ := toks_both ht hu hl
  have hlT : T.length = ts.length + 2 := by rw [hT]; simp
  have hlU : U.length = us.length + 2 := by rw [hU]; simp
  have hlu : us'.length = us.length := by have := congrArg List.length hbu; simpa [bare] using this
  obtain ⟨_, _, _, _, _, _, m1⟩ := RulesR_good (toks_places ha) hr1 rfl
  obtain ⟨_, _, _, _, _, _, m2⟩ := RulesR_good (toks_places hb) hr2 rfl
  generalize hVe : headT ++ (ts.map (sh 12) ++ (us' ++ [⟨7, [], e⟩])) = V at hV
  have hlV : V.length = 4 + (ts.length + (us.length + 1)) := by rw [← hVe]; simp [headT, hlu]; omega
  have v0 : tok V 0 = ⟨1, [108, 101, 102, 116], 0⟩ := by rw [← hVe]; rfl
  have v1 : tok V 1 = ⟨2, [80], 6⟩ := by rw [← hVe]; rfl
  have v2 : tok V 2 = ⟨6, [59], 7⟩ := by rw [← hVe]; rfl
  have v3 : tok V 3 = ⟨6, [37, 37], 9⟩ := by rw [← hVe]; rfl
  have vA : ∀ i, i < ts.length → (tok V (4 + i)).kind = (tok T (1 + i)).kind ∧ (tok V (4 + i)).text = (tok T (1 + i)).text := fun i hi => by
    have e1 : tok V (4 + i) = tok (ts.map (sh 12)) i := by rw [← hVe]; exact tok_append_mid (l := headT) (by simpa using hi)
    have e2 : tok T (1 + i) = tok (ts.map (sh 3)) i := by rw [hT, Nat.add_comm 1 i, tok_cons, tok_left (by simpa using hi)]
    rw [e1, e2]
    have q1 := tok_sh (d := 12) hi
    have q2 := tok_sh (d := 3) hi
    exact ⟨q1.1.trans q2.1.symm, q1.2.trans q2.2.symm⟩
  have vB : ∀ i, i < us.length → (tok V (4 + ts.length + i)).kind = (tok U (1 + i)).kind ∧ (tok V (4 + ts.length + i)).text = (tok U (1 + i)).text := fun i hi => by
    have e1 : tok V (4 + ts.length + i) = tok us' i := by
      rw [← hVe, ← List.append_assoc]
      have := tok_append_mid (l := headT ++ ts.map (sh 12)) (m := us') (r := [⟨7, [], e⟩]) (i := i) (by omega)
      have hln : (headT ++ ts.map (sh 12)).length = 4 + ts.length := by simp [headT]; omega
      rw [hln] at this; exact this
    have e2 : tok U (1 + i) = tok (us.map (sh 3)) i := by rw [hU, Nat.add_comm 1 i, tok_cons, tok_left (by simpa using hi)]
    rw [e1, e2]
    have q1 := bare_tok hbu hi
    have q2 := tok_sh (d := 3) hi
    exact ⟨q1.2.1.trans q2.1.symm, q1.2.2.trans q2.2.symm⟩
  have vE : isK V (4 + ts.length + us.length) 7 = true := by
    have : tok V (4 + ts.length + us.length) = ⟨7, [], e⟩ := by
      rw [← hVe, ← List.append_assoc, ← List.append_assoc, tok_right (by simp [headT, hlu]; omega)]
      have hz : 4 + ts.length + us.length - (headT ++ ts.map (sh 12) ++ us').length = 0 := by simp [headT, hlu]; omega
      rw [hz]; rfl
    unfold isK; rw [this]; rfl
  obtain ⟨ys1, p1, b1⟩ := m1 V 3 4 (4 + ts.length) [] (fun i h1 h2 => by
    have := vA (i - 1) (by omega)
    rw [show 4 + (i - 1) = i + 3 by omega, show 1 + (i - 1) = i by omega] at this; exact this) rfl (by omega)
  obtain ⟨ys2, p2, b2⟩ := m2 V (3 + ts.length) (4 + ts.length) (4 + ts.length + us.length) ([] ++ ys1) (fun i h1 h2 => by
    have := vB (i - 1) (by omega)
    rw [show 4 + ts.length + (i - 1) = i + (3 + ts.length) by omega, show 1 + (i - 1) = i by omega] at this; exact this) (by omega) (by omega)
  have hrules := p1 _ (p2 _ (RulesR.stop vE))
  have hdecl : declL V 0 = .ok ⟨[108, 101, 102, 116], [], [[80]], 0⟩ 3 := by
    have hn : namesL V V.length 2 [[80]] = ([[80]], 2) := by
      obtain ⟨n, hn⟩ : ∃ n, V.length = n + 1 := ⟨V.length - 1, by omega⟩
      rw [hn]
      simp [namesL, isK, v2]
    unfold declL typeL
    simp only [v0]
    simp [isK, isT, v1, hn, v2]
  have htext : TextR V (.ok ⟨[⟨[108, 101, 102, 116], [], [[80]], 0⟩], [] ++ ys1 ++ ys2⟩ (4 + ts.length + us.length)) :=
    .whole (ds := [⟨[108, 101, 102, 116], [], [[80]], 0⟩]) (k := 3) (.next (x := ⟨[108, 101, 102, 116], [], [[80]], 0⟩) (k1 := 3) (by simp [isK, v0]) hdecl (.stop (by simp [isK, v3]))) (by simp [isT, v3]) hrules
  refine ⟨V, _, _, hV, htext, (TextR_good (toks_places hV) htext (by have := (toks_told hV).1.len; have := (toks_told hV).2; omega)).1, rfl, ?_⟩
  simp only [List.map_nil, List.nil_append] at b1 b2 ⊢
  rw [List.map_append, b1, b2, List.map_append]
end Go.Proofs.Ytelpkldlkpoioaa.Ready
