/- What a reader of grammars' texts answers: a relation on lists of tokens; no program in sight. -/
import Derived.Test.YtghebacphjglbaaGreatLexPlain
namespace Go.Proofs.YtghebacphjglbaaGreat.Ready
open Go.Proofs.YtghebacphjglbaaGreat.Lexy

/-- a word: a name, what it is given, a place -/
inductive Wd
  | mk (name : List UInt8) (args : List Wd) (at_ : Int)
structure Al where
  words : List Wd
  prec : List UInt8
  has : Bool
  action : List UInt8
  whr : Int
  at_ : Int
structure Ru where
  name : List UInt8
  params : List (List UInt8)
  alts : List Al
  at_ : Int
structure De where
  kind : List UInt8
  type : List UInt8
  names : List (List UInt8)
  at_ : Int
structure Tx where
  decls : List De
  rules : List Ru

/-- an answer: what was read, and where the next token is; or an error, and where -/
inductive Out (α : Type)
  | ok (x : α) (k : Nat)
  | bad (e p : Nat)

/-- the token at a place of a list -/
def tok (T : List Tok) (i : Nat) : Tok := T.getD i ⟨0, [], 0⟩
def isK (T : List Tok) (k kind : Nat) : Bool := decide ((tok T k).kind = kind)
def isT (T : List Tok) (k kind : Nat) (t : List UInt8) : Bool := decide ((tok T k).kind = kind) && decide ((tok T k).text = t)

/-- what is read: a word in so many others; what goes on behind an argument -/
inductive Job
  | word (k d : Nat)
  | args (k d : Nat) (acc : List Wd)
inductive Ans
  | one (x : Wd) (k : Nat)
  | many (xs : List Wd) (k : Nat)
  | bad (e p : Nat)
inductive PR (T : List Tok) : Job → Ans → Prop
  | deep {k d : Nat} : isK T k 2 = true → 60 < d → PR T (.word k d) (.bad 103 (tok T k).at_)
  | none {k d : Nat} : isK T k 2 = false → PR T (.word k d) (.bad 102 (tok T k).at_)
  | name {k d : Nat} : isK T k 2 = true → d ≤ 60 → isT T (k + 1) 6 [40] = false → PR T (.word k d) (.one (.mk (tok T k).text [] (tok T k).at_) (k + 1))
  | first {k d e p : Nat} : isK T k 2 = true → d ≤ 60 → isT T (k + 1) 6 [40] = true → PR T (.word (k + 2) (d + 1)) (.bad e p) → PR T (.word k d) (.bad e p)
  | rest {k d k1 e p : Nat} {x : Wd} : isK T k 2 = true → d ≤ 60 → isT T (k + 1) 6 [40] = true → PR T (.word (k + 2) (d + 1)) (.one x k1) → PR T (.args k1 (d + 1) [x]) (.bad e p) → PR T (.word k d) (.bad e p)
  | close {k d k1 k2 : Nat} {x : Wd} {xs : List Wd} : isK T k 2 = true → d ≤ 60 → isT T (k + 1) 6 [40] = true → PR T (.word (k + 2) (d + 1)) (.one x k1) → PR T (.args k1 (d + 1) [x]) (.many xs k2) → isT T k2 6 [41] = false → PR T (.word k d) (.bad 102 (tok T k2).at_)
  | whole {k d k1 k2 : Nat} {x : Wd} {xs : List Wd} : isK T k 2 = true → d ≤ 60 → isT T (k + 1) 6 [40] = true → PR T (.word (k + 2) (d + 1)) (.one x k1) → PR T (.args k1 (d + 1) [x]) (.many xs k2) → isT T k2 6 [41] = true → PR T (.word k d) (.one (.mk (tok T k).text xs (tok T k).at_) (k2 + 1))
  | stop {k d : Nat} {acc : List Wd} : isT T k 6 [44] = false → PR T (.args k d acc) (.many acc k)
  | fail {k d e p : Nat} {acc : List Wd} : isT T k 6 [44] = true → PR T (.word (k + 1) d) (.bad e p) → PR T (.args k d acc) (.bad e p)
  | next {k d k1 : Nat} {acc : List Wd} {x : Wd} {a : Ans} : isT T k 6 [44] = true → PR T (.word (k + 1) d) (.one x k1) → PR T (.args k1 d (acc ++ [x])) a → PR T (.args k d acc) a

/-- words, one behind the other -/
inductive WordsR (T : List Tok) : Nat → List Wd → Out (List Wd) → Prop
  | stop {k : Nat} {acc : List Wd} : isK T k 2 = false → WordsR T k acc (.ok acc k)
  | fail {k e p : Nat} {acc : List Wd} : isK T k 2 = true → PR T (.word k 0) (.bad e p) → WordsR T k acc (.bad e p)
  | next {k k1 : Nat} {acc : List Wd} {x : Wd} {o : Out (List Wd)} : isK T k 2 = true → PR T (.word k 0) (.one x k1) → WordsR T k1 (acc ++ [x]) o → WordsR T k acc o
/-- behind an alternative's words: its precedence -/
def precL (T : List Tok) (k : Nat) : Out (List UInt8) :=
  if isT T k 1 [112, 114, 101, 99] then (if isK T (k + 1) 2 then .ok (tok T (k + 1)).text (k + 2) else .bad 102 (tok T (k + 1)).at_) else .ok [] k
/-- .. and its action -/
def actL (T : List Tok) (k0 : Nat) (ws : List Wd) (p : List UInt8) (k : Nat) : Al × Nat :=
  if isK T k 9 then (⟨ws, p, true, (tok T k).text, ((tok T k).at_ + 1 : Nat), (tok T k0).at_⟩, k + 1) else (⟨ws, p, false, [], 0, (tok T k0).at_⟩, k)
inductive AltR (T : List Tok) (k : Nat) : Out Al → Prop
  | words {e p : Nat} : WordsR T k [] (.bad e p) → AltR T k (.bad e p)
  | prec {ws : List Wd} {k1 e p : Nat} : WordsR T k [] (.ok ws k1) → precL T k1 = .bad e p → AltR T k (.bad e p)
  | ok {ws : List Wd} {k1 k2 : Nat} {q : List UInt8} : WordsR T k [] (.ok ws k1) → precL T k1 = .ok q k2 → AltR T k (.ok (actL T k ws q k2).1 (actL T k ws q k2).2)
/-- alternatives, behind one -/
inductive AltsR (T : List Tok) : Nat → List Al → Out (List Al) → Prop
  | stop {k : Nat} {acc : List Al} : isT T k 6 [124] = false → AltsR T k acc (.ok acc k)
  | fail {k e p : Nat} {acc : List Al} : isT T k 6 [124] = true → AltR T (k + 1) (.bad e p) → AltsR T k acc (.bad e p)
  | next {k k1 : Nat} {acc : List Al} {x : Al} {o : Out (List Al)} : isT T k 6 [124] = true → AltR T (k + 1) (.ok x k1) → AltsR T k1 (acc ++ [x]) o → AltsR T k acc o
/-- names with a comma between, behind one -/
inductive NamesR (T : List Tok) : Nat → List (List UInt8) → Out (List (List UInt8)) → Prop
  | stop {k : Nat} {acc : List (List UInt8)} : isT T k 6 [44] = false → NamesR T k acc (.ok acc k)
  | fail {k : Nat} {acc : List (List UInt8)} : isT T k 6 [44] = true → isK T (k + 1) 2 = false → NamesR T k acc (.bad 102 (tok T (k + 1)).at_)
  | next {k : Nat} {acc : List (List UInt8)} {o : Out (List (List UInt8))} : isT T k 6 [44] = true → isK T (k + 1) 2 = true → NamesR T (k + 2) (acc ++ [(tok T (k + 1)).text]) o → NamesR T k acc o
/-- a rule's parameters -/
inductive ParamsR (T : List Tok) (k : Nat) : Out (List (List UInt8)) → Prop
  | none : isT T k 6 [40] = false → ParamsR T k (.ok [] k)
  | first : isT T k 6 [40] = true → isK T (k + 1) 2 = false → ParamsR T k (.bad 102 (tok T (k + 1)).at_)
  | rest {e p : Nat} : isT T k 6 [40] = true → isK T (k + 1) 2 = true → NamesR T (k + 2) [(tok T (k + 1)).text] (.bad e p) → ParamsR T k (.bad e p)
  | close {xs : List (List UInt8)} {k1 : Nat} : isT T k 6 [40] = true → isK T (k + 1) 2 = true → NamesR T (k + 2) [(tok T (k + 1)).text] (.ok xs k1) → isT T k1 6 [41] = false → ParamsR T k (.bad 102 (tok T k1).at_)
  | whole {xs : List (List UInt8)} {k1 : Nat} : isT T k 6 [40] = true → isK T (k + 1) 2 = true → NamesR T (k + 2) [(tok T (k + 1)).text] (.ok xs k1) → isT T k1 6 [41] = true → ParamsR T k (.ok xs (k1 + 1))
inductive RuleR (T : List Tok) (k : Nat) : Out Ru → Prop
  | name : isK T k 2 = false → RuleR T k (.bad 102 (tok T k).at_)
  | params {e p : Nat} : isK T k 2 = true → ParamsR T (k + 1) (.bad e p) → RuleR T k (.bad e p)
  | colon {ps : List (List UInt8)} {k1 : Nat} : isK T k 2 = true → ParamsR T (k + 1) (.ok ps k1) → isT T k1 6 [58] = false → RuleR T k (.bad 102 (tok T k1).at_)
  | first {ps : List (List UInt8)} {k1 e p : Nat} : isK T k 2 = true → ParamsR T (k + 1) (.ok ps k1) → isT T k1 6 [58] = true → AltR T (k1 + 1) (.bad e p) → RuleR T k (.bad e p)
  | rest {ps : List (List UInt8)} {k1 k2 e p : Nat} {a : Al} : isK T k 2 = true → ParamsR T (k + 1) (.ok ps k1) → isT T k1 6 [58] = true → AltR T (k1 + 1) (.ok a k2) → AltsR T k2 [a] (.bad e p) → RuleR T k (.bad e p)
  | semi {ps : List (List UInt8)} {k1 k2 k3 : Nat} {a : Al} {as : List Al} : isK T k 2 = true → ParamsR T (k + 1) (.ok ps k1) → isT T k1 6 [58] = true → AltR T (k1 + 1) (.ok a k2) → AltsR T k2 [a] (.ok as k3) → isT T k3 6 [59] = false → RuleR T k (.bad 102 (tok T k3).at_)
  | whole {ps : List (List UInt8)} {k1 k2 k3 : Nat} {a : Al} {as : List Al} : isK T k 2 = true → ParamsR T (k + 1) (.ok ps k1) → isT T k1 6 [58] = true → AltR T (k1 + 1) (.ok a k2) → AltsR T k2 [a] (.ok as k3) → isT T k3 6 [59] = true → RuleR T k (.ok ⟨(tok T k).text, ps, as, (tok T k).at_⟩ (k3 + 1))
/-- a declaration's type, behind its word -/
def typeL (T : List Tok) (w : List UInt8) (k : Nat) : Out (List UInt8) :=
  if w = [116, 121, 112, 101] ∨ w = [116, 111, 107, 101, 110] ∧ isT T k 6 [60] = true then
    (if isT T k 6 [60] = false then .bad 102 (tok T k).at_
     else if isK T (k + 1) 2 = false then .bad 102 (tok T (k + 1)).at_
     else if isT T (k + 2) 6 [62] = false then .bad 102 (tok T (k + 2)).at_
     else .ok (tok T (k + 1)).text (k + 3))
  else .ok [] k
/-- names, one behind the other -/
def namesL (T : List Tok) : Nat → Nat → List (List UInt8) → List (List UInt8) × Nat
  | 0, k, acc => (acc, k)
  | m + 1, k, acc => if isK T k 2 then namesL T m (k + 1) (acc ++ [(tok T k).text]) else (acc, k)
/-- a declaration: its word is there -/
def declL (T : List Tok) (k : Nat) : Out De :=
  if (tok T k).text = [112, 114, 101, 99] then .bad 102 (tok T k).at_
  else match typeL T (tok T k).text (k + 1) with
    | .bad e p => .bad e p
    | .ok t k1 =>
      if isK T k1 2 = false then .bad 102 (tok T k1).at_
      else
        let r := namesL T T.length (k1 + 1) [(tok T k1).text]
        if isT T r.2 6 [59] = false then .bad 102 (tok T r.2).at_ else .ok ⟨(tok T k).text, t, r.1, (tok T k).at_⟩ (r.2 + 1)
inductive DeclsR (T : List Tok) : Nat → List De → Out (List De) → Prop
  | stop {k : Nat} {acc : List De} : isK T k 1 = false → DeclsR T k acc (.ok acc k)
  | fail {k e p : Nat} {acc : List De} : isK T k 1 = true → declL T k = .bad e p → DeclsR T k acc (.bad e p)
  | next {k k1 : Nat} {acc : List De} {x : De} {o : Out (List De)} : isK T k 1 = true → declL T k = .ok x k1 → DeclsR T k1 (acc ++ [x]) o → DeclsR T k acc o
inductive RulesR (T : List Tok) : Nat → List Ru → Out (List Ru) → Prop
  | stop {k : Nat} {acc : List Ru} : isK T k 7 = true → RulesR T k acc (.ok acc k)
  | fail {k e p : Nat} {acc : List Ru} : isK T k 7 = false → RuleR T k (.bad e p) → RulesR T k acc (.bad e p)
  | next {k k1 : Nat} {acc : List Ru} {x : Ru} {o : Out (List Ru)} : isK T k 7 = false → RuleR T k (.ok x k1) → RulesR T k1 (acc ++ [x]) o → RulesR T k acc o
/-- the text that tokens say -/
inductive TextR (T : List Tok) : Out Tx → Prop
  | decls {e p : Nat} : DeclsR T 0 [] (.bad e p) → TextR T (.bad e p)
  | mid {ds : List De} {k : Nat} : DeclsR T 0 [] (.ok ds k) → isT T k 6 [37, 37] = false → TextR T (.bad 102 (tok T k).at_)
  | rules {ds : List De} {k e p : Nat} : DeclsR T 0 [] (.ok ds k) → isT T k 6 [37, 37] = true → RulesR T (k + 1) [] (.bad e p) → TextR T (.bad e p)
  | whole {ds : List De} {k k1 : Nat} {rs : List Ru} : DeclsR T 0 [] (.ok ds k) → isT T k 6 [37, 37] = true → RulesR T (k + 1) [] (.ok rs k1) → TextR T (.ok ⟨ds, rs⟩ k1)

/-! each has an answer: the last token is the end, and none is read over it -/
/-- a row of tokens as lexers tell: the last one, alone, is the end -/
structure Ends (T : List Tok) : Prop where
  pos : 0 < T.length
  last : (tok T (T.length - 1)).kind = 7
  only : ∀ k, k < T.length - 1 → (tok T k).kind ≠ 7
theorem Ends.lt {T : List Tok} (h : Ends T) {k kind : Nat} (hk : k < T.length) (h1 : (tok T k).kind = kind) (h7 : kind ≠ 7) : k + 1 < T.length := by
  have := h.pos
  rcases Nat.lt_or_ge (k + 1) T.length with h2 | h2
  · exact h2
  · obtain rfl : k = T.length - 1 := by omega
    exact absurd (h1.symm.trans h.last) h7
/-- an answer to a word goes on -/
def Ans.past (k n : Nat) : Ans → Prop
  | .one _ k1 => k < k1 ∧ k1 < n
  | .many _ k1 => k ≤ k1 ∧ k1 < n
  | .bad _ _ => True
def Out.past {α : Type} (k n : Nat) : Out α → Prop
  | .ok _ k1 => k ≤ k1 ∧ k1 < n
  | .bad _ _ => True
end Go.Proofs.YtghebacphjglbaaGreat.Ready
/- What a row of tokens is, as lexers tell it: where it ends, how long it is, which words are in it. No program in sight. -/
namespace Go.Proofs.YtghebacphjglbaaGreat.Ready
open Go.Proofs.YtghebacphjglbaaGreat.Lexy

/-- a row of tokens that a lexer tells -/
structure Told (s : List UInt8) (T : List Tok) : Prop where
  ends : Ends T
  len : T.length ≤ s.length + 1
  at_ : ∀ i, (tok T i).at_ ≤ s.length
  words : ∀ i, isK T i 1 = true → (tok T i).text ∈ wordsL
theorem toks_shape {s : List UInt8} {T : List Tok} (h : toks s = .good T) : ∃ ts, T = ts ++ [⟨7, [], s.length⟩] ∧ chain s 0 ts ∧ (∀ t ∈ ts, t.fine) ∧ s.length ≤ 65536 := by
  unfold toks at h
  split at h
  · cases h
  · have := lexA_shape s s.length 0 (by omega) (by omega)
    simp only [List.drop_zero, h] at this
    obtain ⟨ts, h1, h2, h3⟩ := this
    exact ⟨ts, h1, h2, h3, by omega⟩
end Go.Proofs.YtghebacphjglbaaGreat.Ready
/- What a text's parts are, that a row of tokens says: where they stand, how many they are; that they are said by other tokens alike. No program in sight. -/
namespace Go.Proofs.YtghebacphjglbaaGreat.Ready
open Go.Proofs.YtghebacphjglbaaGreat.Lexy

/-- a text stands at a place -/
def standsL (s : List UInt8) (at_ : Nat) (t : List UInt8) : Prop := at_ + t.length ≤ s.length ∧ (s.drop at_).take t.length = t
mutual
def thereW (s : List UInt8) : Wd → Prop
  | .mk n ws a => standsL s a.toNat n ∧ thereWs s ws
def thereWs (s : List UInt8) : List Wd → Prop
  | [] => True
  | x :: xs => thereW s x ∧ thereWs s xs
end
mutual
/-- how many words a word is -/
def szW : Wd → Nat
  | .mk _ ws _ => 1 + szWs ws
def szWs : List Wd → Nat
  | [] => 0
  | x :: xs => szW x + szWs xs
end
mutual
/-- a word without places -/
def bareW : Wd → Wd
  | .mk n ws _ => .mk n (bareWs ws) 0
def bareWs : List Wd → List Wd
  | [] => []
  | x :: xs => bareW x :: bareWs xs
end
def plainA (x : Al) : Al := { x with words := bareWs x.words, whr := 0, at_ := 0 }
def plainR (x : Ru) : Ru := { x with alts := x.alts.map plainA, at_ := 0 }
def plainD (x : De) : De := { x with at_ := 0 }
def plainT (x : Tx) : Tx := ⟨x.decls.map plainD, x.rules.map plainR⟩
theorem bareWs_map : ∀ l : List Wd, bareWs l = l.map bareW
  | [] => by simp [bareWs]
  | x :: xs => by simp [bareWs, bareWs_map xs]
theorem szWs_snoc : ∀ (l : List Wd) (x : Wd), szWs (l ++ [x]) = szWs l + szW x
  | [], x => by simp [szWs]
  | y :: ys, x => by simp only [szWs, List.cons_append, szWs_snoc ys x]; omega
theorem szW_pos (x : Wd) : 1 ≤ szW x := by cases x; simp [szW]
theorem len_szWs : ∀ l : List Wd, l.length ≤ szWs l
  | [] => by simp
  | x :: xs => by have := len_szWs xs; have := szW_pos x; simp only [szWs, List.length_cons]; omega

/-- tokens of one list are those of another, so far on, but for places -/
def Alike (T T2 : List Tok) (d lo hi : Nat) : Prop := ∀ i, lo ≤ i → i ≤ hi → (tok T2 (i + d)).kind = (tok T i).kind ∧ (tok T2 (i + d)).text = (tok T i).text
theorem Alike.k {T T2 : List Tok} {d lo hi i j kind : Nat} (h : Alike T T2 d lo hi) (h1 : lo ≤ i) (h2 : i ≤ hi) (hj : j = i + d) : isK T2 j kind = isK T i kind := by
  subst hj; unfold isK; rw [(h i h1 h2).1]
theorem Alike.t {T T2 : List Tok} {d lo hi i j kind : Nat} {t : List UInt8} (h : Alike T T2 d lo hi) (h1 : lo ≤ i) (h2 : i ≤ hi) (hj : j = i + d) : isT T2 j kind t = isT T i kind t := by
  subst hj; unfold isT; rw [(h i h1 h2).1, (h i h1 h2).2]
theorem Alike.text {T T2 : List Tok} {d lo hi i j : Nat} (h : Alike T T2 d lo hi) (h1 : lo ≤ i) (h2 : i ≤ hi) (hj : j = i + d) : (tok T2 j).text = (tok T i).text := by
  subst hj; exact (h i h1 h2).2
structure GoodW (T : List Tok) (s : List UInt8) (dd k k1 : Nat) (x : Wd) : Prop where
  lt : k < k1
  semi : ∀ i, k ≤ i → i < k1 → isT T i 6 [59] = false
  size : szW x ≤ k1 - k
  there : thereW s x
  move : ∀ (T2 : List Tok) (d k' k1' : Nat), Alike T T2 d k k1 → k' = k + d → k1' = k1 + d → ∃ x2, PR T2 (.word k' dd) (.one x2 k1') ∧ bareW x2 = bareW x
structure GoodA (T : List Tok) (s : List UInt8) (dd k k1 : Nat) (acc xs : List Wd) : Prop where
  le : k ≤ k1
  semi : ∀ i, k ≤ i → i < k1 → isT T i 6 [59] = false
  size : szWs xs ≤ szWs acc + (k1 - k)
  there : thereWs s acc → thereWs s xs
  move : ∀ (T2 : List Tok) (d k' k1' : Nat) (acc2 : List Wd), Alike T T2 d k k1 → k' = k + d → k1' = k1 + d → bareWs acc2 = bareWs acc → ∃ xs2, PR T2 (.args k' dd acc2) (.many xs2 k1') ∧ bareWs xs2 = bareWs xs
def Good (T : List Tok) (s : List UInt8) : Job → Ans → Prop
  | .word k dd, .one x k1 => GoodW T s dd k k1 x
  | .args k dd acc, .many xs k1 => GoodA T s dd k k1 acc xs
  | _, _ => True
/-- names stand at their places -/
def Names (T : List Tok) (s : List UInt8) : Prop := ∀ i, isK T i 2 = true → standsL s (tok T i).at_ (tok T i).text
end Go.Proofs.YtghebacphjglbaaGreat.Ready
/- What a text's parts are, that a row of tokens says: alternatives, rules, declarations, texts. No program in sight. -/
namespace Go.Proofs.YtghebacphjglbaaGreat.Ready
open Go.Proofs.YtghebacphjglbaaGreat.Lexy

mutual
/-- rows that are no longer than may be -/
def wdOk : Wd → Prop
  | .mk _ ws _ => ws.length ≤ 1000000 ∧ wdsOk ws
def wdsOk : List Wd → Prop
  | [] => True
  | x :: xs => wdOk x ∧ wdsOk xs
end
theorem wdsOk_mem : ∀ {l : List Wd}, wdsOk l → ∀ x ∈ l, wdOk x
  | [], _, x, h => by cases h
  | y :: ys, ho, x, h => by
    simp only [wdsOk] at ho
    rcases List.mem_cons.1 h with e | h
    · rw [e]; exact ho.1
    · exact wdsOk_mem ho.2 x h
mutual
theorem wdOk_sz : ∀ x : Wd, szW x ≤ 1000000 → wdOk x
  | .mk n ws a, h => by
    simp only [szW] at h
    have := len_szWs ws
    simp only [wdOk]
    exact ⟨by omega, wdsOk_sz ws (by omega)⟩
theorem wdsOk_sz : ∀ l : List Wd, szWs l ≤ 1000000 → wdsOk l
  | [], _ => by simp [wdsOk]
  | x :: xs, h => by
    simp only [szWs] at h
    simp only [wdsOk]
    exact ⟨wdOk_sz x (by omega), wdsOk_sz xs (by omega)⟩
end
structure AlOk (x : Al) : Prop where
  n : x.words.length ≤ 1000000
  words : wdsOk x.words
structure RuOk (x : Ru) : Prop where
  n : x.params.length ≤ 1000000
  m : x.alts.length ≤ 1000000
  alts : ∀ a ∈ x.alts, AlOk a
def DeOk (x : De) : Prop := x.names.length ≤ 1000000
structure TxOk (x : Tx) : Prop where
  n : x.decls.length ≤ 1000000
  m : x.rules.length ≤ 1000000
  decls : ∀ a ∈ x.decls, DeOk a
  rules : ∀ a ∈ x.rules, RuOk a

/-- tokens stand at their places -/
structure Places (T : List Tok) (s : List UInt8) : Prop where
  names : Names T s
  words : ∀ i, isK T i 1 = true → standsL s (tok T i).at_ (37 :: (tok T i).text)
  acts : ∀ i, isK T i 9 = true → standsL s (tok T i).at_ (123 :: ((tok T i).text ++ [125]))
def thereA (s : List UInt8) (x : Al) : Prop := thereWs s x.words ∧ (x.has = true → 1 ≤ x.whr.toNat ∧ standsL s (x.whr.toNat - 1) (123 :: (x.action ++ [125])))
def thereR (s : List UInt8) (x : Ru) : Prop := standsL s x.at_.toNat x.name ∧ ∀ a ∈ x.alts, thereA s a
def thereD (s : List UInt8) (x : De) : Prop := standsL s x.at_.toNat (37 :: x.kind)
def thereT (s : List UInt8) (x : Tx) : Prop := (∀ d ∈ x.decls, thereD s d) ∧ ∀ r ∈ x.rules, thereR s r

structure GoodAl (T : List Tok) (s : List UInt8) (k k1 : Nat) (x : Al) : Prop where
  le : k ≤ k1
  semi : ∀ i, k ≤ i → i < k1 → isT T i 6 [59] = false
  ok : k1 ≤ 1000000 → AlOk x
  there : thereA s x
  move : ∀ (T2 : List Tok) (d k' k1' : Nat), Alike T T2 d k k1 → k' = k + d → k1' = k1 + d → ∃ x2, AltR T2 k' (.ok x2 k1') ∧ plainA x2 = plainA x
structure GoodRu (T : List Tok) (s : List UInt8) (k k1 : Nat) (x : Ru) : Prop where
  lt : k < k1
  semi : ∀ i, k ≤ i → i + 1 < k1 → isT T i 6 [59] = false
  last : isT T (k1 - 1) 6 [59] = true
  head : isK T k 2 = true
  ok : k1 ≤ 1000000 → RuOk x
  there : thereR s x
  move : ∀ (T2 : List Tok) (d k' k1' : Nat), Alike T T2 d k (k1 - 1) → k' = k + d → k1' = k1 + d → ∃ x2, RuleR T2 k' (.ok x2 k1') ∧ plainR x2 = plainR x
/-- how many of these tokens are ; -/
def semis (T : List Tok) (lo n : Nat) : Nat := (List.range n).countP fun i => isT T (lo + i) 6 [59]
theorem semis_add (T : List Tok) (lo a b : Nat) : semis T lo (a + b) = semis T lo a + semis T (lo + a) b := by
  unfold semis
  rw [List.range_add, List.countP_append, List.countP_map]
  congr 1
  apply List.countP_congr
  intro i _
  simp [Nat.add_assoc]
theorem semis_zero {T : List Tok} {lo n : Nat} (h : ∀ i, lo ≤ i → i < lo + n → isT T i 6 [59] = false) : semis T lo n = 0 := by
  unfold semis
  rw [List.countP_eq_zero]
  intro i hi
  rw [List.mem_range] at hi
  rw [h (lo + i) (by omega) (by omega)]; decide
theorem GoodRu.one {T : List Tok} {s : List UInt8} {k k1 : Nat} {x : Ru} (h : GoodRu T s k k1 x) : semis T k (k1 - k) = 1 := by
  have := h.lt
  rw [show k1 - k = (k1 - 1 - k) + 1 by omega, semis_add, semis_zero (fun i a b => h.semi i a (by omega))]
  unfold semis
  rw [show k + (k1 - 1 - k) = k1 - 1 by omega]
  simp [h.last]
end Go.Proofs.YtghebacphjglbaaGreat.Ready
/- What a text is, that a row of tokens says, whole. No program in sight. -/
namespace Go.Proofs.YtghebacphjglbaaGreat.Ready
open Go.Proofs.YtghebacphjglbaaGreat.Lexy

structure GoodDe (T : List Tok) (s : List UInt8) (k k1 : Nat) (x : De) : Prop where
  lt : k < k1
  ok : k1 ≤ 1000000 → DeOk x
  there : thereD s x
  move : ∀ T2 : List Tok, Alike T T2 0 k (k1 - 1) → k1 ≤ T2.length → ∃ x2, declL T2 k = .ok x2 k1 ∧ plainD x2 = plainD x
end Go.Proofs.YtghebacphjglbaaGreat.Ready
/- Where faults are; that tokens stand at their places; comments and blanks ahead and behind. No program in sight. -/
namespace Go.Proofs.YtghebacphjglbaaGreat.Ready
open Go.Proofs.YtghebacphjglbaaGreat.Lexy

/-- a fault is at a token -/
def Bads (T : List Tok) (e p : Nat) : Prop := (e = 102 ∨ e = 103) ∧ ∃ k, p = (tok T k).at_
/-! tokens stand at their places -/
/-! comments and blanks ahead and behind -/
end Go.Proofs.YtghebacphjglbaaGreat.Ready
/- The examples of the chapter on reading: what they say. No program in sight. -/
namespace Go.Proofs.YtghebacphjglbaaGreat.Ready
open Go.Proofs.YtghebacphjglbaaGreat.Lexy

/-- "%token <int> N; %% l(X): X | l(X) N %prec N { $$ = $2 }; s: ;" -/
def exS : List UInt8 := [37, 116, 111, 107, 101, 110, 32, 60, 105, 110, 116, 62, 32, 78, 59, 32, 37, 37, 32, 108, 40, 88, 41, 58, 32, 88, 32, 124, 32, 108, 40, 88, 41, 32, 78, 32, 37, 112, 114, 101, 99, 32, 78, 32, 123, 32, 36, 36, 32, 61, 32, 36, 50, 32, 125, 59, 32, 115, 58, 32, 59]
def exT : List Tok := [⟨1, [116, 111, 107, 101, 110], 0⟩, ⟨6, [60], 7⟩, ⟨2, [105, 110, 116], 8⟩, ⟨6, [62], 11⟩, ⟨2, [78], 13⟩, ⟨6, [59], 14⟩, ⟨6, [37, 37], 16⟩, ⟨2, [108], 19⟩, ⟨6, [40], 20⟩, ⟨2, [88], 21⟩, ⟨6, [41], 22⟩, ⟨6, [58], 23⟩, ⟨2, [88], 25⟩, ⟨6, [124], 27⟩, ⟨2, [108], 29⟩, ⟨6, [40], 30⟩, ⟨2, [88], 31⟩, ⟨6, [41], 32⟩, ⟨2, [78], 34⟩, ⟨1, [112, 114, 101, 99], 36⟩, ⟨2, [78], 42⟩, ⟨9, [32, 36, 36, 32, 61, 32, 36, 50, 32], 44⟩, ⟨6, [59], 55⟩, ⟨2, [115], 57⟩, ⟨6, [58], 58⟩, ⟨6, [59], 60⟩, ⟨7, [], 61⟩]
def exA : Al := ⟨[.mk [88] [] 25], [], false, [], 0, 25⟩
def exB : Al := ⟨[.mk [108] [.mk [88] [] 31] 29, .mk [78] [] 34], [78], true, [32, 36, 36, 32, 61, 32, 36, 50, 32], 45, 29⟩
def exR1 : Ru := ⟨[108], [[88]], [exA, exB], 19⟩
def exR2 : Ru := ⟨[115], [], [⟨[], [], false, [], 0, 60⟩], 57⟩
def exD : De := ⟨[116, 111, 107, 101, 110], [105, 110, 116], [[78]], 0⟩
def exX : Tx := ⟨[exD], [exR1, exR2]⟩
/-- "%% e: ( :" -/
def exS2 : List UInt8 := [37, 37, 32, 101, 58, 32, 40, 32, 58]
def exT2 : List Tok := [⟨6, [37, 37], 0⟩, ⟨2, [101], 3⟩, ⟨6, [58], 4⟩, ⟨6, [40], 6⟩, ⟨6, [58], 8⟩, ⟨7, [], 9⟩]
/-- "%left <int> P;" -/
def exS3 : List UInt8 := [37, 108, 101, 102, 116, 32, 60, 105, 110, 116, 62, 32, 80, 59]
def exT3 : List Tok := [⟨1, [108, 101, 102, 116], 0⟩, ⟨6, [60], 6⟩, ⟨2, [105, 110, 116], 7⟩, ⟨6, [62], 10⟩, ⟨2, [80], 12⟩, ⟨6, [59], 13⟩, ⟨7, [], 14⟩]
end Go.Proofs.YtghebacphjglbaaGreat.Ready
/- The plain law of ReadRows: the rules of two texts, one behind the other. No program in sight. -/
namespace Go.Proofs.YtghebacphjglbaaGreat.Ready
open Go.Proofs.YtghebacphjglbaaGreat.Lexy

def shR (d : Nat) : Res → Res
  | .bad e a => .bad e (a + d)
  | .good l => .good (l.map (sh d))
theorem tok_cons (t : Tok) (l : List Tok) (i : Nat) : tok (t :: l) (i + 1) = tok l i := by unfold tok; simp
/-- is it a ; ? -/
def semiT (t : Tok) : Bool := decide (t.kind = 6) && decide (t.text = [59])
end Go.Proofs.YtghebacphjglbaaGreat.Ready
/- The plain law of ReadRows, whole. No program in sight. -/
namespace Go.Proofs.YtghebacphjglbaaGreat.Ready
open Go.Proofs.YtghebacphjglbaaGreat.Lexy

def headT : List Tok := [⟨1, [108, 101, 102, 116], 0⟩, ⟨2, [80], 6⟩, ⟨6, [59], 7⟩, ⟨6, [37, 37], 9⟩]
/-- the source of both texts -/
def bothS (a b : List UInt8) : List UInt8 := 37 :: 108 :: 101 :: 102 :: 116 :: 32 :: 80 :: 59 :: 32 :: 37 :: 37 :: 32 :: (a ++ 10 :: b)
end Go.Proofs.YtghebacphjglbaaGreat.Ready
