/- What a text is as tokens, and that these say it. Plain. -/
import Derived.Test.YtelpkldlkpoioaaReadPlain
namespace Go.Proofs.Ytelpkldlkpoioaa.WrA
open Go.Proofs.Ytelpkldlkpoioaa.Lexy Go.Proofs.Ytelpkldlkpoioaa.Ready

/-- a token without its place -/
abbrev KT := Nat × List UInt8
/-- these tokens stand from there on -/
def At (T : List Tok) : Nat → List KT → Prop
  | _, [] => True
  | k, t :: l => ((tok T k).kind = t.1 ∧ (tok T k).text = t.2) ∧ At T (k + 1) l
theorem at_app {T : List Tok} : ∀ {a b : List KT} {k : Nat}, At T k (a ++ b) ↔ At T k a ∧ At T (k + a.length) b
  | [], b, k => by simp [At]
  | t :: a, b, k => by
    rw [List.cons_append, At, At, at_app, List.length_cons, show k + 1 + a.length = k + (a.length + 1) by omega]
    simp only [and_assoc]
theorem isK_of {T : List Tok} {k q : Nat} {t : List UInt8} (h : (tok T k).kind = q ∧ (tok T k).text = t) (q' : Nat) : isK T k q' = decide (q = q') := by unfold isK; rw [h.1]
theorem isT_of {T : List Tok} {k q : Nat} {t : List UInt8} (h : (tok T k).kind = q ∧ (tok T k).text = t) (q' : Nat) (t' : List UInt8) : isT T k q' t' = (decide (q = q') && decide (t = t')) := by unfold isT; rw [h.1, h.2]
mutual
def tkW : Wd → List KT
  | .mk n xs _ => (2, n) :: tkP xs
def tkP : List Wd → List KT
  | [] => []
  | x :: xs => (6, [40]) :: (tkW x ++ tkWs xs)
def tkWs : List Wd → List KT
  | [] => [(6, [41])]
  | x :: xs => (6, [44]) :: (tkW x ++ tkWs xs)
end
mutual
/-- no deeper than may be -/
def nestW (d : Nat) : Wd → Bool
  | .mk _ xs _ => decide (d ≤ 60) && nestWs (d + 1) xs
def nestWs (d : Nat) : List Wd → Bool
  | [] => true
  | x :: xs => nestW d x && nestWs d xs
end
theorem ws_head (T : List Tok) (k : Nat) : ∀ xs : List Wd, At T k (tkWs xs) → isT T k 6 [40] = false
  | [], h => by rw [tkWs, At] at h; rw [isT_of h.1]; decide
  | x :: xs, h => by rw [tkWs, At] at h; rw [isT_of h.1]; decide
theorem ws_pos : ∀ xs : List Wd, 1 ≤ (tkWs xs).length
  | [] => by simp [tkWs]
  | x :: xs => by simp [tkWs]
mutual
theorem say_w {T : List Tok} : ∀ (x : Wd) (k d : Nat), At T k (tkW x) → isT T (k + (tkW x).length) 6 [40] = false → nestW d x = true → ∃ y, PR T (.word k d) (.one y (k + (tkW x).length)) ∧ bareW y = bareW x
  | .mk n [] z, k, d, h, hn, hd => by
    rw [tkW, tkP, At] at h
    rw [tkW, tkP] at hn ⊢
    simp only [nestW, Bool.and_eq_true, decide_eq_true_eq] at hd
    have h1 := PR.name (T := T) (k := k) (d := d) (by rw [isK_of h.1]; rfl) hd.1 hn
    rw [h.1.2] at h1
    exact ⟨_, h1, by simp [bareW, bareWs]⟩
  | .mk n (x :: xs) z, k, d, h, _, hd => by
    rw [tkW, tkP, At, At] at h
    obtain ⟨h0, h1, h2⟩ := h
    rw [at_app] at h2
    simp only [nestW, nestWs, Bool.and_eq_true, decide_eq_true_eq] at hd
    obtain ⟨y, hy, by1⟩ := say_w x (k + 2) (d + 1) h2.1 (ws_head T _ xs h2.2) hd.2.1
    obtain ⟨ys, hys, by2, hc⟩ := say_ws xs [y] (k + 2 + (tkW x).length) (d + 1) h2.2 hd.2.2
    have hw := PR.whole (T := T) (by rw [isK_of h0]; rfl) hd.1 (by rw [isT_of h1]; rfl) hy hys hc
    rw [h0.2] at hw
    have hp := ws_pos xs
    refine ⟨_, by rw [show k + (tkW (.mk n (x :: xs) z)).length = k + 2 + (tkW x).length + (tkWs xs).length - 1 + 1 by rw [tkW, tkP]; simp; omega]; exact hw, ?_⟩
    simp [bareW, bareWs, by1, by2]
theorem say_ws {T : List Tok} : ∀ (xs acc : List Wd) (k d : Nat), At T k (tkWs xs) → nestWs d xs = true → ∃ ys, PR T (.args k d acc) (.many (acc ++ ys) (k + (tkWs xs).length - 1)) ∧ bareWs ys = bareWs xs ∧ isT T (k + (tkWs xs).length - 1) 6 [41] = true
  | [], acc, k, d, h, _ => by
    rw [tkWs, At] at h
    refine ⟨[], ?_, rfl, ?_⟩
    · rw [List.append_nil, tkWs]
      exact PR.stop (by rw [isT_of h.1]; decide)
    · rw [tkWs]
      show isT T k 6 [41] = true
      rw [isT_of h.1]; rfl
  | x :: xs, acc, k, d, h, hd => by
    rw [tkWs, At, at_app] at h
    simp only [nestWs, Bool.and_eq_true] at hd
    obtain ⟨y, hy, by1⟩ := say_w x (k + 1) d h.2.1 (ws_head T _ xs h.2.2) hd.1
    obtain ⟨ys, hys, by2, hc⟩ := say_ws xs (acc ++ [y]) (k + 1 + (tkW x).length) d h.2.2 hd.2
    have hp := ws_pos xs
    have e : k + (tkWs (x :: xs)).length - 1 = k + 1 + (tkW x).length + (tkWs xs).length - 1 := by rw [tkWs]; simp; omega
    rw [e]
    refine ⟨y :: ys, ?_, by simp [bareWs, by1, by2], hc⟩
    have := PR.next (T := T) (by rw [isT_of h.1]; rfl) hy hys
    simpa using this
end
/-- words, one behind the other -/
def tkL (l : List Wd) : List KT := l.flatMap tkW
theorem w_head (T : List Tok) (k : Nat) : ∀ x : Wd, At T k (tkW x) → isK T k 2 = true ∧ isT T k 6 [40] = false
  | .mk n xs _, h => by
    rw [tkW, At] at h
    rw [isK_of h.1, isT_of h.1]; exact ⟨rfl, rfl⟩
theorem say_l {T : List Tok} : ∀ (l acc : List Wd) (k : Nat), At T k (tkL l) → isT T (k + (tkL l).length) 6 [40] = false → isK T (k + (tkL l).length) 2 = false → (∀ x ∈ l, nestW 0 x = true) → ∃ ys, WordsR T k acc (.ok (acc ++ ys) (k + (tkL l).length)) ∧ bareWs ys = bareWs l
  | [], acc, k, _, _, h2, _ => ⟨[], by rw [List.append_nil]; exact .stop h2, rfl⟩
  | x :: l, acc, k, h, h1, h2, hd => by
    have e : tkL (x :: l) = tkW x ++ tkL l := rfl
    rw [e] at h h1 h2 ⊢
    rw [at_app] at h
    rw [List.length_append, ← Nat.add_assoc] at h1 h2 ⊢
    have hn : isT T (k + (tkW x).length) 6 [40] = false := by
      cases l with
      | nil => exact h1
      | cons z l =>
        have h3 := h.2
        rw [show tkL (z :: l) = tkW z ++ tkL l from rfl, at_app] at h3
        exact (w_head T _ z h3.1).2
    obtain ⟨y, hy, by1⟩ := say_w x k 0 h.1 hn (hd x (List.mem_cons_self ..))
    obtain ⟨ys, hys, by2⟩ := say_l l (acc ++ [y]) (k + (tkW x).length) h.2 h1 h2 fun z hz => hd z (List.mem_cons_of_mem _ hz)
    refine ⟨y :: ys, ?_, by simp [bareWs, by1, by2]⟩
    have := WordsR.next (w_head T k x h.1).1 hy hys
    simpa using this
end Go.Proofs.Ytelpkldlkpoioaa.WrA
/- What a text is as tokens, and that these say it: alternatives, rules, declarations. Plain. -/
namespace Go.Proofs.Ytelpkldlkpoioaa.WrB
open Go.Proofs.Ytelpkldlkpoioaa.Lexy Go.Proofs.Ytelpkldlkpoioaa.Ready Go.Proofs.Ytelpkldlkpoioaa.WrA

def precT : List UInt8 := [112, 114, 101, 99]
def tkA (a : Al) : List KT := tkL a.words ++ ((if a.prec = [] then [] else [(1, precT), (2, a.prec)]) ++ (if a.has = true then [(9, a.action)] else []))
structure FineA (a : Al) : Prop where
  nest : ∀ x ∈ a.words, nestW 0 x = true
  act : a.has = true ∨ a.action = []
/-- a sign that ends an alternative -/
def Sign (T : List Tok) (k : Nat) : Prop := (tok T k).kind = 6 ∧ (tok T k).text ≠ [40]
theorem Sign.k {T : List Tok} {k q : Nat} (h : Sign T k) (hq : q ≠ 6) : isK T k q = false := by unfold isK; rw [h.1]; simpa using Ne.symm hq
theorem Sign.t {T : List Tok} {k : Nat} (h : Sign T k) : isT T k 6 [40] = false := by unfold isT; simp [h.2]
theorem Sign.p {T : List Tok} {k : Nat} (h : Sign T k) : isT T k 1 precT = false := by unfold isT; rw [h.1]; rfl
theorem say_a {T : List Tok} {a : Al} {k : Nat} (h : At T k (tkA a)) (hs : Sign T (k + (tkA a).length)) (hf : FineA a) : ∃ y, AltR T k (.ok y (k + (tkA a).length)) ∧ plainA y = plainA a := by
  obtain ⟨ws, prec, has, act, whr, at_⟩ := a
  unfold tkA at h hs ⊢
  simp only at h hs ⊢
  rw [at_app, at_app] at h
  rw [List.length_append, List.length_append, ← Nat.add_assoc] at hs ⊢
  obtain ⟨h1, h2, h3⟩ := h
  have hact : has = true ∨ act = [] := hf.act
  by_cases hp : prec = []
  · subst hp
    simp only [if_true, List.length_nil, Nat.add_zero, Nat.zero_add] at h2 h3 hs ⊢
    cases has with
    | false =>
      simp only [Bool.false_eq_true, if_false, List.length_nil, Nat.add_zero] at h3 hs ⊢
      obtain ⟨ys, hy, hb⟩ := say_l ws [] k h1 hs.t (hs.k (by decide)) hf.nest
      have hpl : precL T (k + (tkL ws).length) = .ok [] (k + (tkL ws).length) := by unfold precL; rw [show isT T _ 1 [112, 114, 101, 99] = false from hs.p]; rfl
      have hal := AltR.ok hy hpl
      unfold actL at hal
      rw [hs.k (q := 9) (by decide)] at hal
      refine ⟨_, hal, ?_⟩
      have : act = [] := by simpa using hact
      simp [plainA, hb, this]
    | true =>
      simp only [if_true, List.length_singleton, At] at h3 hs ⊢
      have h9 := h3.1
      obtain ⟨ys, hy, hb⟩ := say_l ws [] k h1 (by rw [isT_of h9]; rfl) (by rw [isK_of h9]; rfl) hf.nest
      have hpl : precL T (k + (tkL ws).length) = .ok [] (k + (tkL ws).length) := by unfold precL; rw [isT_of h9]; rfl
      have hal := AltR.ok hy hpl
      unfold actL at hal
      rw [isK_of h9, show decide ((9 : Nat) = 9) = true from rfl, if_pos rfl] at hal
      refine ⟨_, hal, ?_⟩
      simp [plainA, hb, h9.2]
  · simp only [if_neg hp, List.length_cons, List.length_nil, Nat.zero_add, At] at h2 h3 hs ⊢
    obtain ⟨g1, g2, _⟩ := h2
    obtain ⟨ys, hy, hb⟩ := say_l ws [] k h1 (by rw [isT_of g1]; decide) (by rw [isK_of g1]; decide) hf.nest
    have hpl : precL T (k + (tkL ws).length) = .ok prec (k + (tkL ws).length + 2) := by
      unfold precL
      rw [isT_of g1, show (decide (1 = 1) && decide (precT = [112, 114, 101, 99])) = true from rfl, if_pos rfl, isK_of g2, show decide (2 = 2) = true from rfl, if_pos rfl, g2.2]
    have hal := AltR.ok hy hpl
    unfold actL at hal
    cases has with
    | false =>
      simp only [Bool.false_eq_true, if_false, List.length_nil, Nat.add_zero] at h3 hs ⊢
      rw [hs.k (q := 9) (by decide)] at hal
      refine ⟨_, hal, ?_⟩
      have : act = [] := by simpa using hact
      simp [plainA, hb, this]
    | true =>
      simp only [if_true, List.length_singleton, At] at h3 hs ⊢
      have h9 := h3.1
      rw [isK_of h9, show decide ((9 : Nat) = 9) = true from rfl, if_pos rfl] at hal
      refine ⟨_, hal, ?_⟩
      simp [plainA, hb, h9.2]
def tkAs (l : List Al) : List KT := l.flatMap fun a => (6, [124]) :: tkA a
theorem as_head {T : List Tok} {k : Nat} : ∀ (l : List Al), At T k (tkAs l) → Sign T (k + (tkAs l).length) → Sign T k
  | [], _, h => h
  | a :: l, h, _ => by
    rw [show tkAs (a :: l) = (6, [124]) :: (tkA a ++ tkAs l) from rfl, At] at h
    exact ⟨h.1.1, by rw [h.1.2]; decide⟩
theorem say_as {T : List Tok} : ∀ (l acc : List Al) (k : Nat), At T k (tkAs l) → Sign T (k + (tkAs l).length) → isT T (k + (tkAs l).length) 6 [124] = false → (∀ a ∈ l, FineA a) → ∃ ys, AltsR T k acc (.ok (acc ++ ys) (k + (tkAs l).length)) ∧ ys.map plainA = l.map plainA
  | [], acc, k, _, _, h2, _ => ⟨[], by rw [List.append_nil]; exact .stop h2, rfl⟩
  | a :: l, acc, k, h, hs, h2, hf => by
    have e : tkAs (a :: l) = (6, [124]) :: (tkA a ++ tkAs l) := rfl
    have el : k + (tkAs (a :: l)).length = k + 1 + (tkA a).length + (tkAs l).length := by rw [e]; simp; omega
    rw [e, At, at_app] at h
    rw [el] at hs h2 ⊢
    obtain ⟨y, hy, by1⟩ := say_a h.2.1 (as_head l h.2.2 hs) (hf a (List.mem_cons_self ..))
    obtain ⟨ys, hys, by2⟩ := say_as l (acc ++ [y]) (k + 1 + (tkA a).length) h.2.2 hs h2 fun z hz => hf z (List.mem_cons_of_mem _ hz)
    refine ⟨y :: ys, ?_, by simp [by1, by2]⟩
    have := AltsR.next (by rw [isT_of h.1]; rfl) hy hys
    simpa using this
def tkNs : List (List UInt8) → List KT
  | [] => [(6, [41])]
  | p :: ps => (6, [44]) :: (2, p) :: tkNs ps
def tkN : List (List UInt8) → List KT
  | [] => []
  | p :: ps => (6, [40]) :: (2, p) :: tkNs ps
theorem say_ns {T : List Tok} : ∀ (l acc : List (List UInt8)) (k : Nat), At T k (tkNs l) → NamesR T k acc (.ok (acc ++ l) (k + (tkNs l).length - 1)) ∧ isT T (k + (tkNs l).length - 1) 6 [41] = true ∧ 1 ≤ (tkNs l).length
  | [], acc, k, h => by
    rw [tkNs, At] at h
    refine ⟨?_, ?_, by simp [tkNs]⟩
    · rw [List.append_nil, tkNs]; exact .stop (by rw [isT_of h.1]; decide)
    · show isT T k 6 [41] = true
      rw [isT_of h.1]; rfl
  | p :: l, acc, k, h => by
    rw [tkNs, At, At] at h
    obtain ⟨h1, h2, h3⟩ := say_ns l (acc ++ [p]) (k + 2) h.2.2
    have e : k + (tkNs (p :: l)).length - 1 = k + 2 + (tkNs l).length - 1 := by rw [tkNs]; simp; omega
    rw [e]
    refine ⟨?_, h2, by simp [tkNs]⟩
    have := NamesR.next (T := T) (k := k) (acc := acc) (by rw [isT_of h.1]; rfl) (by rw [isK_of h.2.1]; rfl) (by rw [h.2.1.2]; exact h1)
    simpa using this
theorem say_p {T : List Tok} {k : Nat} : ∀ (l : List (List UInt8)), At T k (tkN l) → isT T (k + (tkN l).length) 6 [40] = false → ParamsR T k (.ok l (k + (tkN l).length))
  | [], _, h => .none h
  | p :: l, h, _ => by
    rw [tkN, At, At] at h
    obtain ⟨h1, h2, h3⟩ := say_ns l [p] (k + 2) h.2.2
    have e : k + (tkN (p :: l)).length = k + 2 + (tkNs l).length - 1 + 1 := by rw [tkN]; simp; omega
    rw [e]
    exact .whole (by rw [isT_of h.1]; rfl) (by rw [isK_of h.2.1]; rfl) (by rw [h.2.1.2]; exact h1) h2
structure FineR (r : Ru) : Prop where
  some : r.alts ≠ []
  alts : ∀ a ∈ r.alts, FineA a
def tkAlts : List Al → List KT
  | [] => []
  | a :: l => tkA a ++ tkAs l
def tkR (r : Ru) : List KT := (2, r.name) :: (tkN r.params ++ ((6, [58]) :: (tkAlts r.alts ++ [(6, [59])])))
theorem say_r {T : List Tok} {r : Ru} {k : Nat} (h : At T k (tkR r)) (hf : FineR r) : ∃ y, RuleR T k (.ok y (k + (tkR r).length)) ∧ plainR y = plainR r := by
  obtain ⟨nm, ps, alts, at_⟩ := r
  cases alts with
  | nil => exact absurd rfl hf.some
  | cons a l =>
    unfold tkR at h ⊢
    simp only [tkAlts] at h ⊢
    rw [At, at_app, At, at_app, at_app] at h
    obtain ⟨h0, h1, h2, ⟨h3, h4⟩, h5⟩ := h
    simp only [At] at h5
    have hsem := h5.1
    rw [show k + 1 + (tkN ps).length + 1 + (tkA a ++ tkAs l).length = k + 1 + (tkN ps).length + 1 + (tkA a).length + (tkAs l).length by simp; omega] at hsem
    have hs : Sign T (k + 1 + (tkN ps).length + 1 + (tkA a).length + (tkAs l).length) := ⟨hsem.1, by rw [hsem.2]; decide⟩
    have hp := say_p ps h1 (by rw [isT_of h2]; decide)
    obtain ⟨y, hy, by1⟩ := say_a h3 (as_head l h4 hs) (hf.alts a (List.mem_cons_self ..))
    obtain ⟨ys, hys, by2⟩ := say_as l [y] _ h4 hs (by rw [isT_of hsem]; decide) fun z hz => hf.alts z (List.mem_cons_of_mem _ hz)
    have hr := RuleR.whole (T := T) (k := k) (by rw [isK_of h0]; rfl) hp (by rw [isT_of h2]; rfl) hy hys (by rw [isT_of hsem]; rfl)
    refine ⟨_, by rw [show k + ((2, nm) :: (tkN ps ++ (6, [58]) :: (tkA a ++ tkAs l ++ [(6, [59])]))).length = k + 1 + (tkN ps).length + 1 + (tkA a).length + (tkAs l).length + 1 by simp; omega]; exact hr, ?_⟩
    simp [plainR, by1, by2, h0.2]
def typeT : List UInt8 := [116, 121, 112, 101]
def tokenT : List UInt8 := [116, 111, 107, 101, 110]
def tkTy (t : List UInt8) : List KT := if t = [] then [] else [(6, [60]), (2, t), (6, [62])]
def tkM (l : List (List UInt8)) : List KT := l.map fun n => (2, n)
def tkD (d : De) : List KT := (1, d.kind) :: (tkTy d.type ++ (tkM d.names ++ [(6, [59])]))
structure FineD (d : De) : Prop where
  prec : d.kind ≠ precT
  some : d.names ≠ []
  ty : d.kind = typeT → d.type ≠ []
  no : d.type ≠ [] → d.kind = typeT ∨ d.kind = tokenT
theorem names_len {T : List Tok} : ∀ (l : List (List UInt8)) (k : Nat), At T k (tkM l) → l = [] ∨ k + l.length ≤ T.length
  | [], _, _ => .inl rfl
  | n :: l, k, h => by
    right
    have e : tkM (n :: l) = (2, n) :: tkM l := rfl
    rw [e, At] at h
    have hk : k < T.length := by
      rcases Nat.lt_or_ge k T.length with h1 | h1
      · exact h1
      · have := h.1.1
        rw [tok_ge h1] at this
        exact absurd (show (0 : Nat) = 2 from this) (by decide)
    rcases names_len l (k + 1) h.2 with rfl | h2
    · simp only [List.length_cons, List.length_nil]; omega
    · simp only [List.length_cons]; omega
theorem say_m {T : List Tok} : ∀ (l acc : List (List UInt8)) (k m : Nat), At T k (tkM l) → l.length ≤ m → isK T (k + l.length) 2 = false → namesL T m k acc = (acc ++ l, k + l.length)
  | [], acc, k, 0, _, _, _ => by simp [namesL]
  | [], acc, k, m + 1, _, _, h => by
    rw [namesL, show isK T k 2 = false from h]; simp
  | n :: l, acc, k, 0, _, h, _ => by simp at h
  | n :: l, acc, k, m + 1, h, hm, hk => by
    have e : tkM (n :: l) = (2, n) :: tkM l := rfl
    rw [e, At] at h
    rw [namesL, isK_of h.1, show decide ((2 : Nat) = 2) = true from rfl, if_pos rfl, h.1.2, say_m l (acc ++ [n]) (k + 1) m h.2 (by simpa using hm) (by rw [show k + 1 + l.length = k + (n :: l).length by simp; omega]; exact hk)]
    simp; omega
theorem say_d {T : List Tok} {d : De} {k : Nat} (h : At T k (tkD d)) (hf : FineD d) : ∃ y, declL T k = .ok y (k + (tkD d).length) ∧ plainD y = plainD d := by
  obtain ⟨kd, ty, ns, at_⟩ := d
  have hns : ns ≠ [] := hf.some
  unfold tkD at h ⊢
  simp only at h ⊢
  rw [At, at_app, at_app] at h
  obtain ⟨h0, h1, h2, h3⟩ := h
  simp only [At] at h3
  cases ns with
  | nil => exact absurd rfl hns
  | cons n l =>
    have e : tkM (n :: l) = (2, n) :: tkM l := rfl
    rw [e, At] at h2
    have hty : typeL T kd (k + 1) = .ok ty (k + 1 + (tkTy ty).length) := by
      unfold typeL
      by_cases ht : ty = []
      · subst ht
        have hk : ¬ kd = typeT := fun e => hf.ty e rfl
        have h60 : isT T (k + 1) 6 [60] = false := by
          have := h2.1
          simp only [tkTy, if_true, List.length_nil, Nat.add_zero] at this
          rw [isT_of this]; rfl
        rw [if_neg (fun e => e.elim hk (fun e => by rw [h60] at e; cases e.2))]
        simp [tkTy]
      · simp only [tkTy, if_neg ht, At] at h1
        obtain ⟨g1, g2, g3, _⟩ := h1
        have h60 : isT T (k + 1) 6 [60] = true := by rw [isT_of g1]; rfl
        rw [if_pos ((hf.no ht).elim .inl (fun e => .inr ⟨e, h60⟩)), h60, if_neg (by decide), isK_of g2, if_neg (by simp), isT_of g3, if_neg (by simp), g2.2]
        simp [tkTy, ht]
    have hlen : k + 1 + (tkM (n :: l)).length = k + 1 + 1 + l.length := by simp [tkM]; omega
    have h59 : (tok T (k + 1 + (tkTy ty).length + 1 + l.length)).kind = 6 ∧ (tok T (k + 1 + (tkTy ty).length + 1 + l.length)).text = [59] := by
      have := h3.1
      rwa [show k + 1 + (tkTy ty).length + (tkM (n :: l)).length = k + 1 + (tkTy ty).length + 1 + l.length by simp [tkM]; omega] at this
    have hm := say_m l [n] (k + 1 + (tkTy ty).length + 1) T.length h2.2 (by
      rcases names_len l _ h2.2 with rfl | h
      · simp
      · omega) (by rw [isK_of h59]; decide)
    refine ⟨⟨kd, ty, n :: l, (tok T k).at_⟩, ?_, rfl⟩
    unfold declL
    rw [if_neg (by rw [h0.2]; exact hf.prec), h0.2, hty]
    simp only
    rw [isK_of h2.1, if_neg (by simp), h2.1.2, hm]
    simp only
    rw [isT_of h59, if_neg (by simp)]
    simp [tkM]; omega
end Go.Proofs.Ytelpkldlkpoioaa.WrB
/- What a text is as tokens, and that these say it: the whole. Plain. -/
namespace Go.Proofs.Ytelpkldlkpoioaa.WrC
open Go.Proofs.Ytelpkldlkpoioaa.Lexy Go.Proofs.Ytelpkldlkpoioaa.Ready Go.Proofs.Ytelpkldlkpoioaa.WrA Go.Proofs.Ytelpkldlkpoioaa.WrB

def tkDs (l : List De) : List KT := l.flatMap tkD
def tkRs (l : List Ru) : List KT := l.flatMap tkR
def tkT (x : Tx) : List KT := tkDs x.decls ++ ((6, [37, 37]) :: (tkRs x.rules ++ [(7, [])]))
structure FineT (x : Tx) : Prop where
  decls : ∀ d ∈ x.decls, FineD d
  rules : ∀ r ∈ x.rules, FineR r
theorem say_ds {T : List Tok} : ∀ (l acc : List De) (k : Nat), At T k (tkDs l) → isK T (k + (tkDs l).length) 1 = false → (∀ d ∈ l, FineD d) → ∃ ys, DeclsR T k acc (.ok (acc ++ ys) (k + (tkDs l).length)) ∧ ys.map plainD = l.map plainD
  | [], acc, k, _, h, _ => ⟨[], by rw [List.append_nil]; exact .stop h, rfl⟩
  | d :: l, acc, k, h, hk, hf => by
    have e : tkDs (d :: l) = tkD d ++ tkDs l := rfl
    rw [e] at h hk ⊢
    rw [at_app] at h
    rw [List.length_append, ← Nat.add_assoc] at hk ⊢
    obtain ⟨y, hy, by1⟩ := say_d h.1 (hf d (List.mem_cons_self ..))
    obtain ⟨ys, hys, by2⟩ := say_ds l (acc ++ [y]) _ h.2 hk fun z hz => hf z (List.mem_cons_of_mem _ hz)
    refine ⟨y :: ys, ?_, by simp [by1, by2]⟩
    have h1 : isK T k 1 = true := by
      have := h.1
      unfold tkD at this
      rw [At] at this
      rw [isK_of this.1]; rfl
    have := DeclsR.next h1 hy hys
    simpa using this
theorem say_rs {T : List Tok} : ∀ (l acc : List Ru) (k : Nat), At T k (tkRs l) → isK T (k + (tkRs l).length) 7 = true → (∀ r ∈ l, FineR r) → ∃ ys, RulesR T k acc (.ok (acc ++ ys) (k + (tkRs l).length)) ∧ ys.map plainR = l.map plainR
  | [], acc, k, _, h, _ => ⟨[], by rw [List.append_nil]; exact .stop h, rfl⟩
  | r :: l, acc, k, h, hk, hf => by
    have e : tkRs (r :: l) = tkR r ++ tkRs l := rfl
    rw [e] at h hk ⊢
    rw [at_app] at h
    rw [List.length_append, ← Nat.add_assoc] at hk ⊢
    obtain ⟨y, hy, by1⟩ := say_r h.1 (hf r (List.mem_cons_self ..))
    obtain ⟨ys, hys, by2⟩ := say_rs l (acc ++ [y]) _ h.2 hk fun z hz => hf z (List.mem_cons_of_mem _ hz)
    refine ⟨y :: ys, ?_, by simp [by1, by2]⟩
    have h1 : isK T k 7 = false := by
      have := h.1
      unfold tkR at this
      rw [At] at this
      rw [isK_of this.1]; rfl
    have := RulesR.next h1 hy hys
    simpa using this
/-- A TEXT's TOKENS SAY IT -/
theorem say_text {T : List Tok} {x : Tx} (h : At T 0 (tkT x)) (hf : FineT x) : ∃ y k, TextR T (.ok y k) ∧ plainT y = plainT x := by
  unfold tkT at h
  rw [at_app, At, at_app] at h
  obtain ⟨h1, h2, h3, h4⟩ := h
  simp only [At] at h4
  obtain ⟨ds, hd, bd⟩ := say_ds x.decls [] 0 h1 (by rw [isK_of h2]; rfl) hf.decls
  obtain ⟨rs, hr, br⟩ := say_rs x.rules [] _ h3 (by rw [isK_of h4.1]; rfl) hf.rules
  refine ⟨⟨ds, rs⟩, _, .whole hd (by rw [isT_of h2]; rfl) hr, ?_⟩
  simp [plainT, bd, br]
end Go.Proofs.Ytelpkldlkpoioaa.WrC
/- A text's bytes, as they are written, and that these are its tokens. Plain. -/
namespace Go.Proofs.Ytelpkldlkpoioaa.WrD
open Go.Proofs.Ytelpkldlkpoioaa.Lexy Go.Proofs.Ytelpkldlkpoioaa.Ready Go.Proofs.Ytelpkldlkpoioaa.WrA Go.Proofs.Ytelpkldlkpoioaa.WrB Go.Proofs.Ytelpkldlkpoioaa.WrC

/-- a name -/
structure NameL (s : List UInt8) : Prop where
  head : ∃ c r, s = c :: r ∧ letN c.toNat = true
  all : ∀ c ∈ s, ldN c.toNat = true
  len : s.length ≤ 40
/-- no letter, no digit begins it -/
def NL (x : List UInt8) : Prop := ∀ c, x.head? = some c → ldN c.toNat = false
/-- these bytes are these tokens, whatever stands behind -/
def Lx (l : List UInt8) (ks : List KT) : Prop := ∀ x a, ∃ ts, bare ts = ks ∧ lexA (l ++ x) 0 a = Lexy.ahead ts (lexA x 0 (a + l.length))
/-- .. if no letter, no digit stands behind -/
def LxN (l : List UInt8) (ks : List KT) : Prop := ∀ x a, NL x → ∃ ts, bare ts = ks ∧ lexA (l ++ x) 0 a = Lexy.ahead ts (lexA x 0 (a + l.length))
def Hd (m : List UInt8) : Prop := ∃ c r, m = c :: r ∧ ldN c.toNat = false
theorem Hd.nl {m : List UInt8} (h : Hd m) (x : List UInt8) : NL (m ++ x) := by
  obtain ⟨c, r, rfl, hc⟩ := h
  intro d hd
  have : c = d := by simpa using hd
  rw [← this]; exact hc
theorem ahead_app (ts us : List Tok) (r : Res) : Lexy.ahead (ts ++ us) r = Lexy.ahead ts (Lexy.ahead us r) := by unfold Lexy.ahead; rw [List.foldr_append]
theorem bare_app (ts us : List Tok) : bare (ts ++ us) = bare ts ++ bare us := by unfold bare; rw [List.map_append]
theorem Lx.n {l : List UInt8} {ks : List KT} (h : Lx l ks) : LxN l ks := fun x a _ => h x a
theorem Lx.nil : Lx [] [] := fun _ _ => ⟨[], rfl, rfl⟩
theorem Lx.app {l m : List UInt8} {ks js : List KT} (h : Lx l ks) (k : Lx m js) : Lx (l ++ m) (ks ++ js) := fun x a => by
  obtain ⟨ts, h1, h2⟩ := h (m ++ x) a
  obtain ⟨us, k1, k2⟩ := k x (a + l.length)
  exact ⟨ts ++ us, by rw [bare_app, h1, k1], by rw [List.append_assoc, h2, k2, ahead_app, List.length_append, Nat.add_assoc]⟩
theorem Lx.appN {l m : List UInt8} {ks js : List KT} (h : Lx l ks) (k : LxN m js) : LxN (l ++ m) (ks ++ js) := fun x a hx => by
  obtain ⟨ts, h1, h2⟩ := h (m ++ x) a
  obtain ⟨us, k1, k2⟩ := k x (a + l.length) hx
  exact ⟨ts ++ us, by rw [bare_app, h1, k1], by rw [List.append_assoc, h2, k2, ahead_app, List.length_append, Nat.add_assoc]⟩
theorem LxN.app {l m : List UInt8} {ks js : List KT} (h : LxN l ks) (k : Lx m js) (hm : Hd m) : Lx (l ++ m) (ks ++ js) := fun x a => by
  obtain ⟨ts, h1, h2⟩ := h (m ++ x) a (hm.nl x)
  obtain ⟨us, k1, k2⟩ := k x (a + l.length)
  exact ⟨ts ++ us, by rw [bare_app, h1, k1], by rw [List.append_assoc, h2, k2, ahead_app, List.length_append, Nat.add_assoc]⟩
theorem LxN.appN {l m : List UInt8} {ks js : List KT} (h : LxN l ks) (k : LxN m js) (hm : Hd m) : LxN (l ++ m) (ks ++ js) := fun x a hx => by
  obtain ⟨ts, h1, h2⟩ := h (m ++ x) a (hm.nl x)
  obtain ⟨us, k1, k2⟩ := k x (a + l.length) hx
  exact ⟨ts ++ us, by rw [bare_app, h1, k1], by rw [List.append_assoc, h2, k2, ahead_app, List.length_append, Nat.add_assoc]⟩
theorem let_ld {n : Nat} (h : letN n = true) : wsN n = false ∧ n ≠ 47 := by
  simp only [letN, Bool.or_eq_true, Bool.and_eq_true, decide_eq_true_eq] at h
  refine ⟨?_, by omega⟩
  unfold wsN
  simp only [Bool.or_eq_false_iff, decide_eq_false_iff_not]
  omega
theorem com_not {c : UInt8} {r : List UInt8} (h : c.toNat ≠ 47) : comL (c :: r) = false := by
  cases r <;> simp [comL, h]
theorem lx_name {s : List UInt8} (h : NameL s) : LxN s [(2, s)] := fun x a hx => by
  obtain ⟨c, r, rfl, hc⟩ := h.head
  have h2 := let_ld hc
  have hrun := runL_len (c :: r) x h.all hx
  refine ⟨[⟨2, c :: r, a⟩], rfl, ?_⟩
  have ht : tokL (c :: r ++ x) = .good 2 (c :: r) (c :: r).length := by
    rw [List.cons_append] at hrun ⊢
    unfold tokL
    simp only [hc, if_true, hrun]
    rw [if_neg (by have := h.len; omega)]
    congr 1
    show ((c :: r) ++ x).take (c :: r).length = c :: r
    exact List.take_left' rfl
  have hd : (r ++ x).drop r.length = x := List.drop_left' rfl
  rw [List.cons_append] at ht ⊢
  rw [lexA_tok _ _ (by simp) (by simpa using h2.1) (com_not h2.2), ht]
  simp only [List.length_cons, List.drop_succ_cons, hd]
  rfl
theorem sign_facts {c : UInt8} (h : signN c.toNat = true) : letN c.toNat = false ∧ c.toNat ≠ 37 ∧ c.toNat ≠ 123 ∧ wsN c.toNat = false ∧ c.toNat ≠ 47 := by
  simp only [signN, Bool.or_eq_true, decide_eq_true_eq] at h
  refine ⟨?_, by omega, by omega, ?_, by omega⟩
  · unfold letN
    simp only [Bool.or_eq_false_iff, Bool.and_eq_false_iff, decide_eq_false_iff_not]
    omega
  · unfold wsN
    simp only [Bool.or_eq_false_iff, decide_eq_false_iff_not]
    omega
theorem lx_sign {c : UInt8} (h : signN c.toNat = true) : Lx [c] [(6, [c])] := fun x a => by
  obtain ⟨h1, h2, h3, h4, h5⟩ := sign_facts h
  refine ⟨[⟨6, [c], a⟩], rfl, ?_⟩
  have ht : tokL (c :: x) = .good 6 [c] 1 := by
    unfold tokL
    simp only [h1, h2, h3, h, Bool.false_eq_true, if_false, if_true]
  show lexA (c :: x) 0 a = _
  rw [lexA_tok _ _ (by simp) (by simpa using h4) (com_not h5), ht]
  rfl
theorem lx_ws {c : UInt8} (h : wsN c.toNat = true) : Lx [c] [] := fun x a => by
  refine ⟨[], rfl, ?_⟩
  show lexA (c :: x) 0 a = _
  rw [lexA_ws _ _ (by simp) (by simpa using h)]
  rfl
theorem lx_two : Lx [37, 37] [(6, [37, 37])] := fun x a => by
  refine ⟨[⟨6, [37, 37], a⟩], rfl, ?_⟩
  have ht : tokL (37 :: 37 :: x) = .good 6 [37, 37] 2 := by
    unfold tokL; dsimp only
    rw [if_neg (by decide), if_pos (by decide), if_pos (by rfl)]
  show lexA (37 :: 37 :: x) 0 a = _
  rw [lexA_tok _ _ (by simp) (by rfl) (by rfl), ht]
  rfl
theorem words_ld {w : List UInt8} (h : w ∈ wordsL) : (∀ c ∈ w, ldN c.toNat = true) ∧ w.head?.map (·.toNat) ≠ some 37 ∧ w ≠ [] := by
  simp only [wordsL, List.mem_cons, List.not_mem_nil, or_false] at h
  rcases h with rfl | rfl | rfl | rfl | rfl | rfl | rfl <;> exact ⟨by decide, by decide, by decide⟩
theorem lx_word {w : List UInt8} (h : w ∈ wordsL) : LxN (37 :: w) [(1, w)] := fun x a hx => by
  obtain ⟨h1, h2, h3⟩ := words_ld h
  have hrun := runL_len w x h1 hx
  have hh : (w ++ x).head?.map (·.toNat) ≠ some 37 := by
    cases w with
    | nil => exact absurd rfl h3
    | cons c r => simpa using h2
  refine ⟨[⟨1, w, a⟩], rfl, ?_⟩
  have ht : tokL (37 :: (w ++ x)) = .good 1 w (w.length + 1) := by
    unfold tokL; dsimp only
    rw [if_neg (by decide), if_pos (by decide), if_neg hh, hrun, List.take_left' rfl, if_pos h]
  show lexA (37 :: (w ++ x)) 0 a = _
  rw [lexA_tok _ _ (by simp) (by rfl) (com_not (by decide)), ht]
  simp only [List.drop_succ_cons]
  rw [List.drop_left' rfl]
  rfl
theorem lx_act {s : List UInt8} (h : Inner s) : Lx (123 :: (s ++ [125])) [(9, s)] := fun x a => by
  refine ⟨[⟨9, s, a⟩], rfl, ?_⟩
  have := lexA_action s x a h
  rw [show 123 :: (s ++ [125]) ++ x = 123 :: (s ++ 125 :: x) by simp, this]
  show (lexA x 0 (a + s.length + 2)).cons ⟨9, s, a⟩ = (lexA x 0 (a + (123 :: (s ++ [125])).length)).cons ⟨9, s, a⟩
  congr 2
  simp; omega
/-! ### What is written -/
mutual
def wrW : Wd → List UInt8
  | .mk n xs _ => n ++ wrP xs
def wrP : List Wd → List UInt8
  | [] => []
  | x :: xs => 40 :: (wrW x ++ wrWs xs)
def wrWs : List Wd → List UInt8
  | [] => [41]
  | x :: xs => 44 :: 32 :: (wrW x ++ wrWs xs)
end
mutual
def namedW : Wd → Prop
  | .mk n xs _ => NameL n ∧ namedWs xs
def namedWs : List Wd → Prop
  | [] => True
  | x :: xs => namedW x ∧ namedWs xs
end
theorem ws_hd : ∀ xs : List Wd, Hd (wrWs xs)
  | [] => by rw [wrWs]; exact ⟨41, [], rfl, by decide⟩
  | x :: xs => by rw [wrWs]; exact ⟨44, _, rfl, by decide⟩
mutual
theorem lx_w : ∀ x : Wd, namedW x → LxN (wrW x) (tkW x)
  | .mk n [] _, h => by
    rw [namedW] at h
    rw [wrW, wrP, tkW, tkP, List.append_nil]
    exact lx_name h.1
  | .mk n (x :: xs) _, h => by
    rw [namedW, namedWs] at h
    rw [wrW, wrP, tkW, tkP]
    have h1 : Lx (40 :: (wrW x ++ wrWs xs)) ((6, [40]) :: (tkW x ++ tkWs xs)) := Lx.app (lx_sign (c := 40) (by decide)) ((lx_w x h.2.1).app (lx_ws' xs h.2.2) (ws_hd xs))
    exact ((lx_name h.1).app h1 ⟨40, _, rfl, by decide⟩).n
theorem lx_ws' : ∀ xs : List Wd, namedWs xs → Lx (wrWs xs) (tkWs xs)
  | [], _ => by rw [wrWs, tkWs]; exact lx_sign (c := 41) (by decide)
  | x :: xs, h => by
    rw [namedWs] at h
    rw [wrWs, tkWs]
    exact Lx.app (l := [44]) (ks := [(6, [44])]) (lx_sign (c := 44) (by decide)) (Lx.app (l := [32]) (ks := []) (lx_ws (c := 32) (by decide)) ((lx_w x h.1).app (lx_ws' xs h.2) (ws_hd xs)))
end
structure LH (l : List UInt8) (ks : List KT) : Prop where
  lx : Lx l ks
  hd : Hd l
theorem LH.blank {c : UInt8} (hc : wsN c.toNat = true) {m : List UInt8} {js : List KT} (h : Lx m js) : LH (c :: m) js :=
  ⟨Lx.app (l := [c]) (ks := []) (lx_ws hc) h, ⟨c, m, rfl, (ws_ld hc).1⟩⟩
theorem LH.sign {c : UInt8} (hc : signN c.toNat = true) (hl : ldN c.toNat = false) {m : List UInt8} {js : List KT} (h : Lx m js) : LH (c :: m) ((6, [c]) :: js) :=
  ⟨Lx.app (l := [c]) (ks := [(6, [c])]) (lx_sign hc) h, ⟨c, m, rfl, hl⟩⟩
theorem LxN.then {l m : List UInt8} {ks js : List KT} (h : LxN l ks) (k : LH m js) : Lx (l ++ m) (ks ++ js) := h.app k.lx k.hd
end Go.Proofs.Ytelpkldlkpoioaa.WrD
/- What is written of a text, what may be, and that its bytes are its tokens. Plain. -/
namespace Go.Proofs.Ytelpkldlkpoioaa.WrE
open Go.Proofs.Ytelpkldlkpoioaa.Lexy Go.Proofs.Ytelpkldlkpoioaa.Ready Go.Proofs.Ytelpkldlkpoioaa.WrA Go.Proofs.Ytelpkldlkpoioaa.WrB Go.Proofs.Ytelpkldlkpoioaa.WrC Go.Proofs.Ytelpkldlkpoioaa.WrD

/-! ### one token -/
/-- a source is one token, of a kind, of this text -/
def oneB (s : List UInt8) (k : Nat) (t : List UInt8) : Bool :=
  match toks s with
  | .good l => decide (l.length = 2) && (decide ((tok l 0).kind = k) && decide ((tok l 0).text = t))
  | .bad _ _ => false
def nameB (s : List UInt8) : Bool := oneB s 2 s
def actB (a : List UInt8) : Bool := oneB (123 :: (a ++ [125])) 9 a
theorem name_tok {s x : List UInt8} {n : Nat} (h : tokL (s ++ 32 :: x) = .good 2 s n) : NameL s := by
  cases hs : s ++ 32 :: x with
  | nil => simp at hs
  | cons c r =>
    rw [hs] at h
    simp only [tokL] at h
    split at h
    · rename_i hc
      split at h
      · cases h
      · rename_i hr
        simp only [One.good.injEq, true_and] at h
        have hle := runL_le (c :: r)
        have hpos : 1 ≤ runL (c :: r) := by
          unfold runL
          have : ldN c.toNat = true := by unfold ldN; rw [hc]; rfl
          simp [this]
        have hl := congrArg List.length h.1
        rw [List.length_take] at hl
        refine ⟨?_, ?_, by omega⟩
        · obtain ⟨m, hm⟩ : ∃ m, runL (c :: r) = m + 1 := ⟨runL (c :: r) - 1, by omega⟩
          rw [hm, List.take_succ_cons] at h
          exact ⟨c, r.take m, h.1.symm, hc⟩
        · rw [← h.1]; exact runL_all _
    · split at h
      · split at h
        · cases h
        · split at h <;> cases h
      · split at h
        · split at h <;> cases h
        · split at h <;> cases h
theorem fine_name {t : Tok} (h : t.fine) (hk : t.kind = 2) : NameL t.text := by
  have := h.2 []
  rw [hk] at this
  exact name_tok (s := t.text) this
theorem name_iff {s : List UInt8} : nameB s = true ↔ NameL s := by
  unfold nameB oneB
  constructor
  · intro h
    cases ht : toks s with
    | bad e p => rw [ht] at h; cases h
    | good l =>
      rw [ht] at h
      simp only [Bool.and_eq_true, decide_eq_true_eq] at h
      obtain ⟨h1, h2, h3⟩ := h
      obtain ⟨ts, rfl, hc, hf, hs⟩ := toks_shape ht
      cases ts with
      | nil => simp at h1
      | cons t r =>
        have hk : t.kind = 2 := h2
        have hx : t.text = s := h3
        rw [← hx]
        exact fine_name (hf t (List.mem_cons_self ..)) hk
  · intro h
    obtain ⟨ts, h1, h2⟩ := lx_name h [] 0 (by intro c hc; cases hc)
    rw [List.append_nil] at h2
    have : toks s = .good (ts ++ [⟨7, [], 0 + s.length⟩]) := by
      unfold toks
      rw [if_neg (by have := h.len; omega), h2]
      show Lexy.ahead ts (.good [⟨7, [], 0 + s.length⟩]) = _
      rw [ahead_good]
    rw [this]
    cases ts with
    | nil => simp [bare] at h1
    | cons t r =>
      cases r with
      | cons u r => simp [bare] at h1
      | nil =>
        simp only [bare, List.map_cons, List.map_nil, List.cons.injEq, Prod.mk.injEq, and_true] at h1
        simp [tok, h1.1, h1.2]
theorem act_inner {a : List UInt8} (h : actB a = true) : Inner a := by
  unfold actB oneB at h
  cases ht : toks (123 :: (a ++ [125])) with
  | bad e p => rw [ht] at h; cases h
  | good l =>
    rw [ht] at h
    simp only [Bool.and_eq_true, decide_eq_true_eq] at h
    obtain ⟨h1, h2, h3⟩ := h
    match l, h1 with
    | [t, e], _ => exact one_inner a t e ht ⟨h2, h3⟩
theorem inner_act {a : List UInt8} (h : Inner a) (hl : a.length ≤ 65534) : actB a = true := by
  have := inner_one a h hl
  unfold oneL at this
  unfold actB oneB
  rw [this]; simp [tok]
/-! ### what is written -/
def blanks (l : List (List UInt8)) : List UInt8 := l.flatMap fun s => 32 :: s
def wrTy (t : List UInt8) : List UInt8 := if t = [] then [] else 32 :: 60 :: (t ++ [62])
def wrD (d : De) : List UInt8 := 37 :: (d.kind ++ (wrTy d.type ++ (blanks d.names ++ [59, 10])))
def wrL (l : List Wd) : List UInt8 := l.flatMap fun x => 32 :: wrW x
def wrPrec (p : List UInt8) : List UInt8 := if p = [] then [] else 32 :: 37 :: (precT ++ 32 :: p)
def wrAct (has : Bool) (a : List UInt8) : List UInt8 := if has = true then 32 :: 123 :: (a ++ [125]) else []
def wrA (a : Al) : List UInt8 := wrL a.words ++ (wrPrec a.prec ++ (wrAct a.has a.action ++ [10]))
def wrNs : List (List UInt8) → List UInt8
  | [] => [41]
  | p :: ps => 44 :: 32 :: (p ++ wrNs ps)
def wrN : List (List UInt8) → List UInt8
  | [] => []
  | p :: ps => 40 :: (p ++ wrNs ps)
def wrAs (l : List Al) : List UInt8 := l.flatMap fun a => 9 :: 124 :: wrA a
def wrAlts : List Al → List UInt8
  | [] => []
  | a :: l => 58 :: (wrA a ++ wrAs l)
def wrR (r : Ru) : List UInt8 := r.name ++ (wrN r.params ++ (wrAlts r.alts ++ [9, 59, 10]))
def wrT (x : Tx) : List UInt8 := x.decls.flatMap wrD ++ (37 :: 37 :: 10 :: x.rules.flatMap wrR)
/-! ### what may be -/
def othersL : List (List UInt8) := [[108, 101, 102, 116], [114, 105, 103, 104, 116], [110, 111, 110, 97, 115, 115, 111, 99], [115, 116, 97, 114, 116]]
def kindB (d : De) : Bool := decide (d.kind = tokenT) || (decide (d.kind = typeT) && decide (d.type ≠ [])) || (decide (d.kind ∈ othersL) && decide (d.type = []))
def okD (d : De) : Bool := kindB d && (decide (d.names ≠ []) && ((decide (d.type = []) || nameB d.type) && d.names.all nameB))
mutual
def okW (d : Nat) : Wd → Bool
  | .mk n xs _ => decide (d ≤ 60) && (nameB n && okWs (d + 1) xs)
def okWs (d : Nat) : List Wd → Bool
  | [] => true
  | x :: xs => okW d x && okWs d xs
end
def okA (a : Al) : Bool := a.words.all (okW 0) && ((decide (a.prec = []) || nameB a.prec) && ((a.has || decide (a.action = [])) && (!a.has || actB a.action)))
def okR (r : Ru) : Bool := decide (r.alts ≠ []) && (nameB r.name && (r.params.all nameB && r.alts.all okA))
def okT (x : Tx) : Bool := x.decls.all okD && x.rules.all okR
mutual
theorem okW_nest : ∀ (x : Wd) (d : Nat), okW d x = true → nestW d x = true ∧ namedW x
  | .mk n xs z, d, h => by
    rw [okW] at h
    simp only [Bool.and_eq_true, decide_eq_true_eq] at h
    obtain ⟨h1, h2⟩ := okWs_nest xs (d + 1) h.2.2
    exact ⟨by rw [nestW]; simp [h.1, h1], by rw [namedW]; exact ⟨name_iff.1 h.2.1, h2⟩⟩
theorem okWs_nest : ∀ (xs : List Wd) (d : Nat), okWs d xs = true → nestWs d xs = true ∧ namedWs xs
  | [], d, _ => ⟨by rw [nestWs], by rw [namedWs]; trivial⟩
  | x :: xs, d, h => by
    rw [okWs, Bool.and_eq_true] at h
    obtain ⟨h1, h2⟩ := okW_nest x d h.1
    obtain ⟨h3, h4⟩ := okWs_nest xs d h.2
    exact ⟨by rw [nestWs, h1, h3]; rfl, by rw [namedWs]; exact ⟨h2, h4⟩⟩
end
theorem okA_fine {a : Al} (h : okA a = true) : FineA a := by
  unfold okA at h
  simp only [Bool.and_eq_true, Bool.or_eq_true, List.all_eq_true, decide_eq_true_eq] at h
  exact ⟨fun x hx => (okW_nest x 0 (h.1 x hx)).1, h.2.2.1⟩
theorem okR_fine {r : Ru} (h : okR r = true) : FineR r := by
  unfold okR at h
  simp only [Bool.and_eq_true, List.all_eq_true, decide_eq_true_eq] at h
  exact ⟨h.1, fun a ha => okA_fine (h.2.2.2 a ha)⟩
theorem kind_word {d : De} (h : kindB d = true) : d.kind ∈ wordsL ∧ d.kind ≠ precT ∧ (d.kind = typeT → d.type ≠ []) ∧ (d.type ≠ [] → d.kind = typeT ∨ d.kind = tokenT) := by
  unfold kindB at h
  simp only [Bool.or_eq_true, Bool.and_eq_true, decide_eq_true_eq] at h
  rcases h with (h | h) | h
  · rw [h]; exact ⟨by decide, by decide, fun e => absurd e (by decide), fun _ => .inr rfl⟩
  · rw [h.1]; exact ⟨by decide, by decide, fun _ => h.2, fun _ => .inl rfl⟩
  · have := h.1
    simp only [othersL, List.mem_cons, List.not_mem_nil, or_false] at this
    refine ⟨?_, ?_, fun e => absurd e ?_, fun e => absurd h.2 e⟩ <;> rcases this with e | e | e | e <;> rw [e] <;> decide
theorem okD_fine {d : De} (h : okD d = true) : FineD d := by
  unfold okD at h
  simp only [Bool.and_eq_true, decide_eq_true_eq] at h
  obtain ⟨h1, h2, h3, h4⟩ := kind_word h.1
  exact ⟨h2, h.2.1, h3, h4⟩
theorem okT_fine {x : Tx} (h : okT x = true) : FineT x := by
  unfold okT at h
  simp only [Bool.and_eq_true, List.all_eq_true] at h
  exact ⟨fun d hd => okD_fine (h.1 d hd), fun r hr => okR_fine (h.2 r hr)⟩
/-! ### its bytes are its tokens -/
theorem lx_blanks : ∀ (l : List (List UInt8)) {m : List UInt8} {js : List KT}, (∀ n ∈ l, NameL n) → LH m js → LH (blanks l ++ m) (tkM l ++ js)
  | [], m, js, _, h => h
  | n :: l, m, js, hn, h => by
    have h1 := lx_blanks l (fun x hx => hn x (List.mem_cons_of_mem _ hx)) h
    have h2 : LH (32 :: (n ++ (blanks l ++ m))) ([(2, n)] ++ (tkM l ++ js)) := .blank (by decide) ((lx_name (hn n (List.mem_cons_self ..))).then h1)
    have e : blanks (n :: l) ++ m = 32 :: (n ++ (blanks l ++ m)) := by simp [blanks]
    rw [e]; exact h2
theorem lx_ty {t m : List UInt8} {js : List KT} (ht : t ≠ [] → NameL t) (h : LH m js) : LH (wrTy t ++ m) (tkTy t ++ js) := by
  unfold wrTy tkTy
  by_cases e : t = []
  · rw [if_pos e, if_pos e]; exact h
  · rw [if_neg e, if_neg e]
    have h1 : LH (62 :: m) ((6, [62]) :: js) := .sign (by decide) (by decide) h.lx
    have h2 : LH (60 :: (t ++ 62 :: m)) ((6, [60]) :: ([(2, t)] ++ (6, [62]) :: js)) := .sign (by decide) (by decide) ((lx_name (ht e)).then h1)
    have h3 : LH (32 :: 60 :: (t ++ 62 :: m)) ((6, [60]) :: ([(2, t)] ++ (6, [62]) :: js)) := .blank (by decide) h2.lx
    simpa using h3
theorem lx_d {d : De} (h : okD d = true) : Lx (wrD d) (tkD d) := by
  have hk := h
  unfold okD at hk
  simp only [Bool.and_eq_true, Bool.or_eq_true, decide_eq_true_eq, List.all_eq_true] at hk
  obtain ⟨h1, h2, h3, h4⟩ := hk
  have hend : LH [59, 10] [(6, [59])] := .sign (by decide) (by decide) (LH.blank (by decide) Lx.nil).lx
  have hb := lx_blanks d.names (fun n hn => name_iff.1 (h4 n hn)) hend
  have ht := lx_ty (t := d.type) (fun e => name_iff.1 (h3.resolve_left e)) hb
  have hw := (lx_word (kind_word h1).1).then ht
  exact hw
theorem lx_l : ∀ (l : List Wd) {m : List UInt8} {js : List KT}, (∀ x ∈ l, namedW x) → LH m js → LH (wrL l ++ m) (tkL l ++ js)
  | [], m, js, _, h => h
  | x :: l, m, js, hn, h => by
    have h1 := lx_l l (fun x hx => hn x (List.mem_cons_of_mem _ hx)) h
    have h2 : LH (32 :: (wrW x ++ (wrL l ++ m))) (tkW x ++ (tkL l ++ js)) := .blank (by decide) ((lx_w x (hn x (List.mem_cons_self ..))).then h1)
    have e : wrL (x :: l) ++ m = 32 :: (wrW x ++ (wrL l ++ m)) := by simp [wrL]
    have e' : tkL (x :: l) ++ js = tkW x ++ (tkL l ++ js) := by simp [tkL]
    rw [e, e']; exact h2
theorem lx_a {a : Al} (h : okA a = true) : LH (wrA a) (tkA a) := by
  have hk := h
  unfold okA at hk
  simp only [Bool.and_eq_true, Bool.or_eq_true, decide_eq_true_eq, List.all_eq_true, Bool.not_eq_true'] at hk
  obtain ⟨h1, h2, h3, h4⟩ := hk
  have hend : LH [10] [] := .blank (by decide) Lx.nil
  have ha : LH (wrAct a.has a.action ++ [10]) (if a.has = true then [(9, a.action)] else []) := by
    unfold wrAct
    by_cases e : a.has = true
    · rw [if_pos e, if_pos e]
      have hi := act_inner (h4.resolve_left (by rw [e]; decide))
      have h5 := (lx_act hi).app hend.lx
      have h6 : LH (32 :: (123 :: (a.action ++ [125]) ++ [10])) ([(9, a.action)] ++ []) := .blank (by decide) h5
      exact h6
    · rw [if_neg e, if_neg e]; exact hend
  have hp : LH (wrPrec a.prec ++ (wrAct a.has a.action ++ [10])) ((if a.prec = [] then [] else [(1, precT), (2, a.prec)]) ++ (if a.has = true then [(9, a.action)] else [])) := by
    unfold wrPrec
    by_cases e : a.prec = []
    · rw [if_pos e, if_pos e]; exact ha
    · rw [if_neg e, if_neg e]
      have h5 := (lx_name (name_iff.1 (h2.resolve_left e))).then ha
      have h6 : LH (32 :: (a.prec ++ (wrAct a.has a.action ++ [10]))) ([(2, a.prec)] ++ (if a.has = true then [(9, a.action)] else [])) := .blank (by decide) h5
      have h7 := (lx_word (w := precT) (by decide)).then h6
      have h8 := LH.blank (c := 32) (by decide) h7
      simpa using h8
  exact lx_l a.words (fun x hx => (okW_nest x 0 (h1 x hx)).2) hp
theorem lx_ns : ∀ (l : List (List UInt8)), (∀ n ∈ l, NameL n) → LH (wrNs l) (tkNs l)
  | [], _ => .sign (by decide) (by decide) Lx.nil
  | p :: l, hn => by
    have h1 := lx_ns l fun x hx => hn x (List.mem_cons_of_mem _ hx)
    have h2 := (lx_name (hn p (List.mem_cons_self ..))).then h1
    exact .sign (by decide) (by decide) (LH.blank (by decide) h2).lx
theorem lx_n {l : List (List UInt8)} {m : List UInt8} {js : List KT} (hn : ∀ n ∈ l, NameL n) (h : LH m js) : LH (wrN l ++ m) (tkN l ++ js) := by
  cases l with
  | nil => exact h
  | cons p l =>
    have h1 := (lx_name (hn p (List.mem_cons_self ..))).then (lx_ns l fun x hx => hn x (List.mem_cons_of_mem _ hx))
    have h2 : LH (40 :: (p ++ wrNs l)) ((6, [40]) :: ([(2, p)] ++ tkNs l)) := .sign (by decide) (by decide) h1
    exact ⟨h2.lx.app h.lx, ⟨40, _, rfl, by decide⟩⟩
theorem lx_as : ∀ (l : List Al) {m : List UInt8} {js : List KT}, (∀ a ∈ l, okA a = true) → Lx m js → Lx (wrAs l ++ m) (tkAs l ++ js)
  | [], m, js, _, h => h
  | a :: l, m, js, ha, h => by
    have h1 := lx_as l (fun x hx => ha x (List.mem_cons_of_mem _ hx)) h
    have h2 := (lx_a (ha a (List.mem_cons_self ..))).lx.app h1
    have h3 := (LH.blank (c := 9) (by decide) (LH.sign (c := 124) (by decide) (by decide) h2).lx).lx
    have e : wrAs (a :: l) ++ m = 9 :: 124 :: (wrA a ++ (wrAs l ++ m)) := by simp [wrAs]
    have e' : tkAs (a :: l) ++ js = (6, [124]) :: (tkA a ++ (tkAs l ++ js)) := by simp [tkAs]
    rw [e, e']; exact h3
theorem lx_r {r : Ru} (h : okR r = true) : Lx (wrR r) (tkR r) := by
  have hk := h
  unfold okR at hk
  simp only [Bool.and_eq_true, decide_eq_true_eq, List.all_eq_true] at hk
  obtain ⟨h1, h2, h3, h4⟩ := hk
  obtain ⟨nm, ps, alts, at_⟩ := r
  cases alts with
  | nil => exact absurd rfl h1
  | cons a l =>
    have hend : Lx [9, 59, 10] [(6, [59])] := (LH.blank (by decide) (LH.sign (c := 59) (by decide) (by decide) (LH.blank (by decide) Lx.nil).lx).lx).lx
    have hal := (lx_a (h4 a (List.mem_cons_self ..))).lx.app (lx_as l (fun x hx => h4 x (List.mem_cons_of_mem _ hx)) hend)
    have hc := LH.sign (c := 58) (by decide) (by decide) hal
    have hp := lx_n (fun n hn => name_iff.1 (h3 n hn)) hc
    have hw := (lx_name (name_iff.1 h2)).then hp
    unfold wrR tkR
    simp only [wrAlts, tkAlts, List.cons_append, List.append_assoc]
    exact hw
theorem lx_ds : ∀ (l : List De) {m : List UInt8} {js : List KT}, (∀ d ∈ l, okD d = true) → Lx m js → Lx (l.flatMap wrD ++ m) (tkDs l ++ js)
  | [], m, js, _, h => h
  | d :: l, m, js, hd, h => by
    have h1 := (lx_d (hd d (List.mem_cons_self ..))).app (lx_ds l (fun x hx => hd x (List.mem_cons_of_mem _ hx)) h)
    have e : (d :: l).flatMap wrD ++ m = wrD d ++ (l.flatMap wrD ++ m) := by simp
    have e' : tkDs (d :: l) ++ js = tkD d ++ (tkDs l ++ js) := by simp [tkDs]
    rw [e, e']; exact h1
theorem lx_rs : ∀ (l : List Ru), (∀ r ∈ l, okR r = true) → Lx (l.flatMap wrR) (tkRs l)
  | [], _ => Lx.nil
  | r :: l, hr => (lx_r (hr r (List.mem_cons_self ..))).app (lx_rs l fun x hx => hr x (List.mem_cons_of_mem _ hx))
/-- WHAT IS WRITTEN ARE ITS TOKENS -/
theorem toks_wr {x : Tx} (h : okT x = true) (hl : (wrT x).length ≤ 65536) : ∃ T, toks (wrT x) = .good T ∧ bare T = tkT x := by
  have hk := h
  unfold okT at hk
  simp only [Bool.and_eq_true, List.all_eq_true] at hk
  have hr := lx_rs x.rules hk.2
  have h2 : Lx (37 :: 37 :: 10 :: x.rules.flatMap wrR) ((6, [37, 37]) :: tkRs x.rules) := Lx.app (l := [37, 37]) (ks := [(6, [37, 37])]) lx_two (LH.blank (c := 10) (by decide) hr).lx
  obtain ⟨ts, h3, h4⟩ := lx_ds x.decls hk.1 h2 [] 0
  rw [List.append_nil] at h4
  refine ⟨ts ++ [⟨7, [], 0 + (wrT x).length⟩], ?_, ?_⟩
  · unfold toks
    rw [if_neg (by omega)]
    refine h4.trans ?_
    show Lexy.ahead ts (.good [⟨7, [], 0 + (wrT x).length⟩]) = _
    rw [ahead_good]
  · rw [bare_app, h3]
    simp [tkT, bare]
theorem at_bare {T : List Tok} : ∀ {ks : List KT} {k : Nat}, (bare T).drop k = ks → At T k ks
  | [], _, _ => trivial
  | t :: ks, k, h => by
    have h0 : (bare T)[k]? = some t := by
      have := congrArg List.head? h
      rw [List.head?_drop] at this
      exact this
    have h1 : (bare T).drop (k + 1) = ks := by
      rw [← List.drop_drop, h]; rfl
    rw [At]
    refine ⟨?_, at_bare h1⟩
    unfold bare at h0
    rw [List.getElem?_map] at h0
    cases hT : T[k]? with
    | none => rw [hT] at h0; cases h0
    | some u =>
      rw [hT] at h0
      cases h0
      unfold tok
      rw [List.getD_eq_getElem?_getD, hT]
      exact ⟨rfl, rfl⟩
/-- WHAT IS WRITTEN IS READ AS THE SAME -/
theorem read_wr {x : Tx} (h : okT x = true) (hl : (wrT x).length ≤ 65536) : ∃ T y k, toks (wrT x) = .good T ∧ TextR T (.ok y k) ∧ plainT y = plainT x := by
  obtain ⟨T, h1, h2⟩ := toks_wr h hl
  obtain ⟨y, k, h3, h4⟩ := say_text (T := T) (x := x) (at_bare (by rw [List.drop_zero]; exact h2)) (okT_fine h)
  exact ⟨T, y, k, h1, h3, h4⟩
end Go.Proofs.Ytelpkldlkpoioaa.WrE
/- What was read may be written; what is written hangs on no places. Plain. -/
namespace Go.Proofs.Ytelpkldlkpoioaa.WrP
open Go.Proofs.Ytelpkldlkpoioaa.Lexy Go.Proofs.Ytelpkldlkpoioaa.Ready Go.Proofs.Ytelpkldlkpoioaa.WrA Go.Proofs.Ytelpkldlkpoioaa.WrB Go.Proofs.Ytelpkldlkpoioaa.WrC Go.Proofs.Ytelpkldlkpoioaa.WrD Go.Proofs.Ytelpkldlkpoioaa.WrE

mutual
theorem wrW_bare : ∀ x : Wd, wrW (bareW x) = wrW x
  | .mk n xs z => by rw [bareW, wrW, wrW, wrP_bare xs]
theorem wrP_bare : ∀ xs : List Wd, wrP (bareWs xs) = wrP xs
  | [] => by rw [bareWs]
  | x :: xs => by rw [bareWs, wrP, wrP, wrW_bare x, wrWs_bare xs]
theorem wrWs_bare : ∀ xs : List Wd, wrWs (bareWs xs) = wrWs xs
  | [] => by rw [bareWs]
  | x :: xs => by rw [bareWs, wrWs, wrWs, wrW_bare x, wrWs_bare xs]
end
mutual
theorem okW_bare : ∀ (x : Wd) (d : Nat), okW d (bareW x) = okW d x
  | .mk n xs z, d => by rw [bareW, okW, okW, okWs_bare xs]
theorem okWs_bare : ∀ (xs : List Wd) (d : Nat), okWs d (bareWs xs) = okWs d xs
  | [], d => by rw [bareWs]
  | x :: xs, d => by rw [bareWs, okWs, okWs, okW_bare x, okWs_bare xs]
end
theorem wrA_plain (a : Al) : wrA (plainA a) = wrA a := by
  have h : wrL (bareWs a.words) = wrL a.words := by rw [bareWs_map]; simp [wrL, List.flatMap_map, wrW_bare]
  show wrL (bareWs a.words) ++ _ = _
  rw [h]; rfl
theorem okA_plain (a : Al) : okA (plainA a) = okA a := by
  have h : (bareWs a.words).all (okW 0) = a.words.all (okW 0) := by rw [bareWs_map]; simp [List.all_map, Function.comp_def, okW_bare]
  show ((bareWs a.words).all (okW 0) && _) = _
  rw [h]; rfl
theorem wrAlts_plain : ∀ l : List Al, wrAlts (l.map plainA) = wrAlts l
  | [] => rfl
  | a :: l => by
    have h : wrAs (l.map plainA) = wrAs l := by simp [wrAs, List.flatMap_map, wrA_plain]
    rw [List.map_cons, wrAlts, wrAlts, wrA_plain, h]
theorem wrR_plain (r : Ru) : wrR (plainR r) = wrR r := by
  show r.name ++ (wrN r.params ++ (wrAlts (r.alts.map plainA) ++ _)) = _
  rw [wrAlts_plain]; rfl
theorem okR_plain (r : Ru) : okR (plainR r) = okR r := by
  show (decide (r.alts.map plainA ≠ []) && (nameB r.name && (r.params.all nameB && (r.alts.map plainA).all okA))) = _
  have h : (r.alts.map plainA).all okA = r.alts.all okA := by simp [List.all_map, Function.comp_def, okA_plain]
  rw [h]
  unfold okR
  congr 1
  simp
theorem wrT_plain (x : Tx) : wrT (plainT x) = wrT x := by
  show (x.decls.map plainD).flatMap wrD ++ (37 :: 37 :: 10 :: (x.rules.map plainR).flatMap wrR) = _
  have h1 : (x.decls.map plainD).flatMap wrD = x.decls.flatMap wrD := by rw [List.flatMap_map]; rfl
  have h2 : (x.rules.map plainR).flatMap wrR = x.rules.flatMap wrR := by simp [List.flatMap_map, wrR_plain]
  rw [h1, h2]; rfl
theorem okT_plain (x : Tx) : okT (plainT x) = okT x := by
  show ((x.decls.map plainD).all okD && (x.rules.map plainR).all okR) = _
  have h1 : (x.decls.map plainD).all okD = x.decls.all okD := by rw [List.all_map]; rfl
  have h2 : (x.rules.map plainR).all okR = x.rules.all okR := by simp [List.all_map, Function.comp_def, okR_plain]
  rw [h1, h2]; rfl
theorem wrT_alike {x y : Tx} (h : plainT x = plainT y) : wrT x = wrT y := by rw [← wrT_plain x, h, wrT_plain]
theorem okT_alike {x y : Tx} (h : plainT x = plainT y) : okT x = okT y := by rw [← okT_plain x, h, okT_plain]

/-! what was read may be written -/
/-- names, actions, words are such -/
structure Fit (T : List Tok) : Prop where
  name : ∀ i, isK T i 2 = true → nameB (tok T i).text = true
  act : ∀ i, isK T i 9 = true → actB (tok T i).text = true
  word : ∀ i, isK T i 1 = true → (tok T i).text ∈ wordsL
theorem fine_inner {t : Tok} (h : t.fine) (hk : t.kind = 9) : Inner t.text := by
  have h1 := h.2 []
  rw [hk] at h1
  generalize t.text = s at h1
  have e : render 9 s ++ 32 :: [] = 123 :: (s ++ [125, 32]) := by simp [render]
  rw [e] at h1
  have k1 : letN 123 = false := by decide
  have k2 : UInt8.toNat 123 = 123 := rfl
  simp only [tokL, k1, k2, Bool.false_eq_true, if_false, Nat.reduceEqDiff, if_true] at h1
  cases ha : autoL (s ++ [125, 32]) 1 0 with
  | none => simp [ha] at h1
  | some n =>
    simp only [ha] at h1
    have hl : n = s.length + 1 := by
      have : (render 9 s).length = s.length + 2 := by simp [render]
      simp only [One.good.injEq, true_and] at h1
      omega
    subst hl
    have := autoL_app _ _ _ _ [] ha
    have e2 : (s ++ [125, 32]).take (s.length + 1) ++ [] = s ++ [125] := by
      rw [List.append_nil, show s ++ [125, 32] = (s ++ [125]) ++ [32] by simp]
      exact List.take_left' (by simp)
    rw [e2] at this
    exact inner_of_auto s 0 0 this
theorem toks_fit {s : List UInt8} {T : List Tok} (h : toks s = .good T) : Fit T := by
  obtain ⟨ts, rfl, hc, hf, hs⟩ := toks_shape h
  have key := chain_stands hc
  refine ⟨fun i hi => ?_, fun i hi => ?_, fun i hi => ?_⟩
  · exact name_iff.2 (fine_name (hf _ (tok_last hi (by decide) (by decide))) (isK_eq hi))
  · have ht := tok_last hi (by decide) (by decide)
    refine inner_act (fine_inner (hf _ ht) (isK_eq hi)) ?_
    have := key _ ht
    rw [isK_eq hi] at this
    have h2 : standsL s (tok (ts ++ [(⟨7, [], s.length⟩ : Tok)]) i).at_ (123 :: ((tok (ts ++ [(⟨7, [], s.length⟩ : Tok)]) i).text ++ [125])) := by simpa [render] using this
    have h3 := h2.1
    simp only [List.length_cons, List.length_append, List.length_nil] at h3
    omega
  · exact fine_word (hf _ (tok_last hi (by decide) (by decide))) (isK_eq hi)
def OkA : Job → Ans → Prop
  | .word _ d, .one x _ => okW d x = true
  | .args _ d acc, .many xs _ => okWs d acc = true → okWs d xs = true
  | _, _ => True
theorem okWs_snoc {d : Nat} : ∀ {l : List Wd} {x : Wd}, okWs d l = true → okW d x = true → okWs d (l ++ [x]) = true
  | [], x, _, h => by rw [List.nil_append, okWs, okWs, h]; rfl
  | y :: l, x, h1, h => by
    rw [okWs, Bool.and_eq_true] at h1
    rw [List.cons_append, okWs, Bool.and_eq_true]
    exact ⟨h1.1, okWs_snoc h1.2 h⟩
theorem PR_ok {T : List Tok} (hT : Fit T) {j : Job} {a : Ans} (h : PR T j a) : OkA j a := by
  induction h with
  | name h1 hd h2 =>
    show okW _ _ = true
    rw [okW, okWs, hT.name _ h1]; simp [hd]
  | whole h1 hd h3 _ _ h4 ih1 ih2 =>
    show okW _ _ = true
    have i1 : okW _ _ = true := ih1
    have i2 := ih2 (by rw [okWs, okWs, i1]; rfl)
    rw [okW, hT.name _ h1, i2]; simp [hd]
  | stop _ => exact fun h => h
  | @next _ _ _ _ _ a _ _ _ ih1 ih2 =>
    cases a with
    | many xs k =>
      exact fun h => ih2 (okWs_snoc h ih1)
    | one _ _ => trivial
    | bad _ _ => trivial
  | _ => trivial
theorem WordsR_ok {T : List Tok} (hT : Fit T) {k : Nat} {acc : List Wd} {o : Out (List Wd)} (h : WordsR T k acc o) : ∀ ws k1, o = .ok ws k1 → acc.all (okW 0) = true → ws.all (okW 0) = true := by
  induction h with
  | stop _ => intro ws k1 e hA; cases e; exact hA
  | fail _ _ => intro ws k1 e; cases e
  | next _ h2 _ ih =>
    intro ws k1 e hA
    have := PR_ok hT h2
    have this : okW 0 _ = true := this
    exact ih ws k1 e (by rw [List.all_append, hA]; simp [this])
theorem AltR_ok {T : List Tok} (hT : Fit T) {k : Nat} {o : Out Al} (h : AltR T k o) : ∀ x k1, o = .ok x k1 → okA x = true := by
  intro x k1 e
  cases h with
  | words _ => cases e
  | prec _ _ => cases e
  | @ok ws j1 j2 q h1 h2 =>
    have hw := WordsR_ok hT h1 _ _ rfl rfl
    have hq : (decide (q = []) || nameB q) = true := by
      rcases precL_ok h2 with ⟨_, h, _⟩ | ⟨_, h, h3, _⟩
      · simp [h]
      · rw [h3, hT.name _ h]; simp
    cases e
    unfold actL
    split
    · rename_i hk
      show (ws.all (okW 0) && ((decide (q = []) || nameB q) && ((true || _) && (!true || actB (tok T j2).text)))) = true
      rw [hw, hq, hT.act _ hk]; rfl
    · show (ws.all (okW 0) && ((decide (q = []) || nameB q) && ((false || decide (([] : List UInt8) = [])) && (!false || actB [])))) = true
      rw [hw, hq]; rfl
theorem AltsR_ok {T : List Tok} (hT : Fit T) {k : Nat} {acc : List Al} {o : Out (List Al)} (h : AltsR T k acc o) : ∀ zs k1, o = .ok zs k1 → acc ≠ [] → acc.all okA = true → zs ≠ [] ∧ zs.all okA = true := by
  induction h with
  | stop _ => intro ws k1 e hn hA; cases e; exact ⟨hn, hA⟩
  | fail _ _ => intro ws k1 e; cases e
  | next _ h2 _ ih =>
    intro ws k1 e _ hA
    have := AltR_ok hT h2 _ _ rfl
    exact ih ws k1 e (by simp) (by rw [List.all_append, hA]; simp [this])
theorem NamesR_ok {T : List Tok} (hT : Fit T) {k : Nat} {acc : List (List UInt8)} {o : Out (List (List UInt8))} (h : NamesR T k acc o) : ∀ zs k1, o = .ok zs k1 → acc.all nameB = true → zs.all nameB = true := by
  induction h with
  | stop _ => intro ws k1 e hA; cases e; exact hA
  | fail _ _ => intro ws k1 e; cases e
  | next _ h2 _ ih =>
    intro ws k1 e hA
    exact ih ws k1 e (by rw [List.all_append, hA]; simp [hT.name _ h2])
theorem ParamsR_ok {T : List Tok} (hT : Fit T) {k : Nat} {o : Out (List (List UInt8))} (h : ParamsR T k o) : ∀ zs k1, o = .ok zs k1 → zs.all nameB = true := by
  intro zs k1 e
  cases h with
  | none _ => cases e; rfl
  | whole _ h2 h3 _ => cases e; exact NamesR_ok hT h3 _ _ rfl (by simp [hT.name _ h2])
  | _ => cases e
theorem RuleR_ok {T : List Tok} (hT : Fit T) {k : Nat} {o : Out Ru} (h : RuleR T k o) : ∀ x k1, o = .ok x k1 → okR x = true := by
  intro x k1 e
  cases h with
  | whole h1 h2 _ h4 h5 _ =>
    cases e
    have h6 := ParamsR_ok hT h2 _ _ rfl
    have h7 := AltR_ok hT h4 _ _ rfl
    obtain ⟨h8, h9⟩ := AltsR_ok hT h5 _ _ rfl (by simp) (by simp [h7])
    unfold okR
    simp only [h6, h9, hT.name _ h1, Bool.and_true, decide_eq_true_eq]
    exact h8
  | _ => cases e
theorem RulesR_ok {T : List Tok} (hT : Fit T) {k : Nat} {acc : List Ru} {o : Out (List Ru)} (h : RulesR T k acc o) : ∀ zs k1, o = .ok zs k1 → acc.all okR = true → zs.all okR = true := by
  induction h with
  | stop _ => intro ws k1 e hA; cases e; exact hA
  | fail _ _ => intro ws k1 e; cases e
  | next _ h2 _ ih =>
    intro ws k1 e hA
    exact ih ws k1 e (by rw [List.all_append, hA]; simp [RuleR_ok hT h2 _ _ rfl])
theorem namesL_ok {T : List Tok} (hT : Fit T) : ∀ (m k : Nat) (acc : List (List UInt8)), acc ≠ [] → acc.all nameB = true → (namesL T m k acc).1 ≠ [] ∧ (namesL T m k acc).1.all nameB = true
  | 0, _, _, hn, h => ⟨hn, h⟩
  | m + 1, k, acc, hn, h => by
    rw [namesL]
    split
    · rename_i hk
      exact namesL_ok hT m _ _ (by simp) (by rw [List.all_append, h]; simp [hT.name _ hk])
    · exact ⟨hn, h⟩
theorem name_ne {s : List UInt8} (h : nameB s = true) : s ≠ [] := by
  obtain ⟨⟨c, r, e, _⟩, _⟩ := name_iff.1 h
  rw [e]; simp
theorem declL_ok {T : List Tok} (hT : Fit T) {k k1 : Nat} {x : De} (hk : isK T k 1 = true) (h : declL T k = .ok x k1) : okD x = true := by
  unfold declL at h
  split at h
  · cases h
  rename_i hp
  split at h
  · cases h
  rename_i t j hty
  split at h
  · cases h
  rename_i h2
  simp only at h
  split at h
  · cases h
  have h2 : isK T j 2 = true := by simpa using h2
  obtain ⟨n1, n2⟩ := namesL_ok hT T.length (j + 1) [(tok T j).text] (by simp) (by simp [hT.name _ h2])
  have hw := hT.word _ hk
  cases h
  generalize (tok T k).text = w at hp hty hw ⊢
  have hkd : kindB ⟨w, t, (namesL T T.length (j + 1) [(tok T j).text]).1, (tok T k).at_⟩ = true ∧ (decide (t = []) || nameB t) = true := by
    simp only [wordsL, List.mem_cons, List.not_mem_nil, or_false] at hw
    rcases typeL_ok hty with ⟨h3, h4, h5, _, h6, _⟩ | ⟨h3, h4, _⟩
    · have hn : nameB t = true := by rw [h6]; exact hT.name _ h5
      refine ⟨?_, by rw [hn]; simp⟩
      rcases h3 with h3 | ⟨h3, _⟩
      · simp [kindB, h3, typeT, name_ne hn]
      · simp [kindB, h3, tokenT]
    · refine ⟨?_, by simp [h4]⟩
      rw [not_or] at h3
      rcases hw with e | e | e | e | e | e | e
      · simp [kindB, e, tokenT]
      · exact absurd e h3.1
      · simp [kindB, e, h4, othersL]
      · simp [kindB, e, h4, othersL]
      · simp [kindB, e, h4, othersL]
      · simp [kindB, e, h4, othersL]
      · exact absurd e hp
  unfold okD
  simp only [hkd.1, hkd.2, n2, Bool.and_true, Bool.true_and, decide_eq_true_eq]
  exact n1
theorem DeclsR_ok {T : List Tok} (hT : Fit T) {k : Nat} {acc : List De} {o : Out (List De)} (h : DeclsR T k acc o) : ∀ zs k1, o = .ok zs k1 → acc.all okD = true → zs.all okD = true := by
  induction h with
  | stop _ => intro ws k1 e hA; cases e; exact hA
  | fail _ _ => intro ws k1 e; cases e
  | next h1 h2 _ ih =>
    intro ws k1 e hA
    exact ih ws k1 e (by rw [List.all_append, hA]; simp [declL_ok hT h1 h2])
/-- WHAT WAS READ MAY BE WRITTEN -/
theorem text_ok {s : List UInt8} {T : List Tok} {x : Tx} {k : Nat} (h : toks s = .good T) (hx : TextR T (.ok x k)) : okT x = true := by
  have hT := toks_fit h
  cases hx with
  | whole h1 _ h2 =>
    have h3 := DeclsR_ok hT h1 _ _ rfl rfl
    have h4 := RulesR_ok hT h2 _ _ rfl rfl
    unfold okT; rw [h3, h4]; rfl
end Go.Proofs.Ytelpkldlkpoioaa.WrP
/- How much is written of what was read. Plain. -/
namespace Go.Proofs.Ytelpkldlkpoioaa.WrS
open Go.Proofs.Ytelpkldlkpoioaa.Lexy Go.Proofs.Ytelpkldlkpoioaa.Ready Go.Proofs.Ytelpkldlkpoioaa.WrA Go.Proofs.Ytelpkldlkpoioaa.WrB Go.Proofs.Ytelpkldlkpoioaa.WrC Go.Proofs.Ytelpkldlkpoioaa.WrD Go.Proofs.Ytelpkldlkpoioaa.WrE Go.Proofs.Ytelpkldlkpoioaa.WrP

def sumW : List Wd → Nat
  | [] => 0
  | x :: xs => (wrW x).length + 2 + sumW xs
theorem sumW_snoc : ∀ (l : List Wd) (x : Wd), sumW (l ++ [x]) = sumW l + ((wrW x).length + 2)
  | [], x => by simp [sumW]
  | y :: l, x => by rw [List.cons_append, sumW, sumW, sumW_snoc l x]; omega
theorem wrWs_len : ∀ l : List Wd, (wrWs l).length = sumW l + 1
  | [] => by rw [wrWs, sumW]; rfl
  | x :: l => by rw [wrWs, sumW]; simp only [List.length_cons, List.length_append, wrWs_len l]; omega
theorem wrP_len (l : List Wd) : (wrP l).length ≤ sumW l := by
  cases l with
  | nil => rw [wrP]; simp
  | cons x l => rw [wrP, sumW]; simp only [List.length_cons, List.length_append, wrWs_len l]; omega
theorem name_len {T : List Tok} (hT : Fit T) {i : Nat} (h : isK T i 2 = true) : (tok T i).text.length ≤ 40 := (name_iff.1 (hT.name i h)).len
def SzA : Job → Ans → Prop
  | .word k _, .one x k1 => k < k1 ∧ (wrW x).length ≤ 100 * (k1 - k)
  | .args k _ acc, .many xs k1 => k ≤ k1 ∧ sumW xs ≤ sumW acc + 100 * (k1 - k)
  | _, _ => True
theorem PR_sz {T : List Tok} (hT : Fit T) {j : Job} {a : Ans} (h : PR T j a) : SzA j a := by
  induction h with
  | name h1 hd h2 =>
    have := name_len hT h1
    refine ⟨by omega, ?_⟩
    rw [wrW, wrP, List.append_nil]; omega
  | whole h1 hd h3 _ _ h4 ih1 ih2 =>
    rename_i k d k1 k2 x xs _ _
    have i1 : k + 2 < k1 ∧ (wrW x).length ≤ 100 * (k1 - (k + 2)) := ih1
    have i2 : k1 ≤ k2 ∧ sumW xs ≤ sumW [x] + 100 * (k2 - k1) := ih2
    have hn := name_len hT h1
    have hp := wrP_len xs
    have hs : sumW [x] = (wrW x).length + 2 := by simp [sumW]
    refine ⟨by omega, ?_⟩
    rw [wrW, List.length_append]; omega
  | stop _ => exact ⟨Nat.le_refl _, by omega⟩
  | @next k d k1 acc x a _ _ _ ih1 ih2 =>
    have i1 : k + 1 < k1 ∧ (wrW x).length ≤ 100 * (k1 - (k + 1)) := ih1
    cases a with
    | many xs k2 =>
      have i2 : k1 ≤ k2 ∧ sumW xs ≤ sumW (acc ++ [x]) + 100 * (k2 - k1) := ih2
      rw [sumW_snoc] at i2
      exact ⟨by omega, by omega⟩
    | one _ _ => trivial
    | bad _ _ => trivial
  | _ => trivial
theorem wrL_snoc (l : List Wd) (x : Wd) : (wrL (l ++ [x])).length = (wrL l).length + ((wrW x).length + 1) := by
  simp [wrL]
theorem WordsR_sz {T : List Tok} (hT : Fit T) {k : Nat} {acc : List Wd} {o : Out (List Wd)} (h : WordsR T k acc o) : ∀ ws k1, o = .ok ws k1 → k ≤ k1 ∧ (wrL ws).length ≤ (wrL acc).length + 101 * (k1 - k) := by
  induction h with
  | stop _ => intro ws k1 e; cases e; exact ⟨Nat.le_refl _, by omega⟩
  | fail _ _ => intro ws k1 e; cases e
  | @next k k2 acc x o _ h2 _ ih =>
    intro ws k1 e
    have i1 : k < k2 ∧ (wrW x).length ≤ 100 * (k2 - k) := PR_sz hT h2
    obtain ⟨j1, j2⟩ := ih ws k1 e
    rw [wrL_snoc] at j2
    exact ⟨by omega, by omega⟩
theorem act_len {T : List Tok} (hT : Fit T) {i : Nat} (h : isK T i 9 = true) : (tok T i).text.length ≤ 65534 := by
  have := hT.act i h
  unfold actB oneB at this
  cases ht : toks (123 :: ((tok T i).text ++ [125])) with
  | bad e p => rw [ht] at this; cases this
  | good l =>
    obtain ⟨_, _, _, _, h2⟩ := toks_shape ht
    simp only [List.length_cons, List.length_append, List.length_nil] at h2
    omega
theorem AltR_sz {T : List Tok} (hT : Fit T) {k : Nat} {o : Out Al} (h : AltR T k o) : ∀ x k1, o = .ok x k1 → k ≤ k1 ∧ (wrA x).length ≤ 66000 * (k1 - k) + 1 := by
  intro x k1 e
  cases h with
  | words _ => cases e
  | prec _ _ => cases e
  | @ok ws j1 j2 q h1 h2 =>
    obtain ⟨w1, w2⟩ := WordsR_sz hT h1 _ _ rfl
    have w3 : (wrL []).length = 0 := rfl
    rw [w3] at w2
    have hq : j1 ≤ j2 ∧ (wrPrec q).length ≤ 100 * (j2 - j1) := by
      rcases precL_ok h2 with ⟨_, hq, hj⟩ | ⟨_, hn, hq, hj⟩
      · subst hq hj; exact ⟨Nat.le_refl _, by simp [wrPrec]⟩
      · have := name_len hT hn
        subst hj
        refine ⟨by omega, ?_⟩
        unfold wrPrec
        split
        · simp
        · rw [hq]; simp only [List.length_cons, List.length_append, precT, List.length_nil]; omega
    cases e
    unfold actL
    split
    · rename_i hk
      have := act_len hT hk
      refine ⟨by simp only; omega, ?_⟩
      simp only [wrA, wrAct, if_true, List.length_append, List.length_cons, List.length_nil]
      omega
    · refine ⟨by simp only; omega, ?_⟩
      simp only [wrA, wrAct, Bool.false_eq_true, if_false, List.length_append, List.length_cons, List.length_nil]
      omega
theorem wrAs_snoc (l : List Al) (x : Al) : (wrAs (l ++ [x])).length = (wrAs l).length + ((wrA x).length + 2) := by
  simp [wrAs]
theorem AltsR_sz {T : List Tok} (hT : Fit T) {k : Nat} {acc : List Al} {o : Out (List Al)} (h : AltsR T k acc o) : ∀ zs k1, o = .ok zs k1 → k ≤ k1 ∧ (wrAs zs).length ≤ (wrAs acc).length + 66000 * (k1 - k) := by
  induction h with
  | stop _ => intro ws k1 e; cases e; exact ⟨Nat.le_refl _, by omega⟩
  | fail _ _ => intro ws k1 e; cases e
  | @next k k2 acc x o _ h2 _ ih =>
    intro ws k1 e
    obtain ⟨i1, i2⟩ := AltR_sz hT h2 _ _ rfl
    obtain ⟨j1, j2⟩ := ih ws k1 e
    rw [wrAs_snoc] at j2
    exact ⟨by omega, by omega⟩
theorem wrAlts_len (l : List Al) : (wrAlts l).length ≤ (wrAs l).length := by
  cases l with
  | nil => simp [wrAlts]
  | cons a l =>
    have : (wrAs (a :: l)).length = (wrAs l).length + ((wrA a).length + 2) := by simp [wrAs]; omega
    rw [this, wrAlts]; simp only [List.length_cons, List.length_append]; omega
def sumN : List (List UInt8) → Nat
  | [] => 0
  | x :: xs => x.length + 2 + sumN xs
theorem sumN_snoc : ∀ (l : List (List UInt8)) (x : List UInt8), sumN (l ++ [x]) = sumN l + (x.length + 2)
  | [], x => by simp [sumN]
  | y :: l, x => by rw [List.cons_append, sumN, sumN, sumN_snoc l x]; omega
theorem wrNs_len : ∀ l : List (List UInt8), (wrNs l).length = sumN l + 1
  | [] => by rw [wrNs, sumN]; rfl
  | x :: l => by rw [wrNs, sumN]; simp only [List.length_cons, List.length_append, wrNs_len l]; omega
theorem wrN_len (l : List (List UInt8)) : (wrN l).length ≤ sumN l := by
  cases l with
  | nil => rw [wrN]; simp
  | cons x l => rw [wrN, sumN]; simp only [List.length_cons, List.length_append, wrNs_len l]; omega
theorem blanks_len : ∀ l : List (List UInt8), (blanks l).length ≤ sumN l
  | [] => by simp [blanks]
  | x :: l => by
    have : (blanks (x :: l)).length = x.length + 1 + (blanks l).length := by simp [blanks]; omega
    have := blanks_len l
    rw [sumN]; omega
theorem NamesR_sz {T : List Tok} (hT : Fit T) {k : Nat} {acc : List (List UInt8)} {o : Out (List (List UInt8))} (h : NamesR T k acc o) : ∀ zs k1, o = .ok zs k1 → k ≤ k1 ∧ sumN zs ≤ sumN acc + 42 * (k1 - k) := by
  induction h with
  | stop _ => intro ws k1 e; cases e; exact ⟨Nat.le_refl _, by omega⟩
  | fail _ _ => intro ws k1 e; cases e
  | @next k acc o _ h2 _ ih =>
    intro ws k1 e
    have := name_len hT h2
    obtain ⟨j1, j2⟩ := ih ws k1 e
    rw [sumN_snoc] at j2
    exact ⟨by omega, by omega⟩
theorem ParamsR_sz {T : List Tok} (hT : Fit T) {k : Nat} {o : Out (List (List UInt8))} (h : ParamsR T k o) : ∀ zs k1, o = .ok zs k1 → k ≤ k1 ∧ sumN zs ≤ 42 * (k1 - k) := by
  intro zs k1 e
  cases h with
  | none _ => cases e; exact ⟨Nat.le_refl _, by simp [sumN]⟩
  | whole _ h2 h3 _ =>
    cases e
    have := name_len hT h2
    obtain ⟨j1, j2⟩ := NamesR_sz hT h3 _ _ rfl
    have h5 : sumN [(tok T (k + 1)).text] = (tok T (k + 1)).text.length + 2 := by simp [sumN]
    exact ⟨by omega, by omega⟩
  | _ => cases e
theorem RuleR_sz {T : List Tok} (hT : Fit T) {k : Nat} {o : Out Ru} (h : RuleR T k o) : ∀ x k1, o = .ok x k1 → k ≤ k1 ∧ (wrR x).length ≤ 66000 * (k1 - k) := by
  intro x k1 e
  cases h with
  | whole h1 h2 _ h4 h5 _ =>
    rename_i ps j1 j2 j3 a ays _ _
    cases e
    have hn := name_len hT h1
    obtain ⟨p1, p2⟩ := ParamsR_sz hT h2 _ _ rfl
    obtain ⟨a1, a2⟩ := AltR_sz hT h4 _ _ rfl
    obtain ⟨b1, b2⟩ := AltsR_sz hT h5 _ _ rfl
    have h6 : (wrAs [a]).length = (wrA a).length + 2 := by simp [wrAs]
    have h7 := wrAlts_len ays
    have h8 := wrN_len ps
    refine ⟨by omega, ?_⟩
    simp only [wrR, List.length_append, List.length_cons, List.length_nil]
    omega
  | _ => cases e
theorem RulesR_sz {T : List Tok} (hT : Fit T) {k : Nat} {acc : List Ru} {o : Out (List Ru)} (h : RulesR T k acc o) : ∀ zs k1, o = .ok zs k1 → k ≤ k1 ∧ (zs.flatMap wrR).length ≤ (acc.flatMap wrR).length + 66000 * (k1 - k) := by
  induction h with
  | stop _ => intro ws k1 e; cases e; exact ⟨Nat.le_refl _, by omega⟩
  | fail _ _ => intro ws k1 e; cases e
  | @next k k2 acc x o _ h2 _ ih =>
    intro ws k1 e
    obtain ⟨i1, i2⟩ := RuleR_sz hT h2 _ _ rfl
    obtain ⟨j1, j2⟩ := ih ws k1 e
    have h5 : ((acc ++ [x]).flatMap wrR).length = (acc.flatMap wrR).length + (wrR x).length := by simp
    rw [h5] at j2
    exact ⟨by omega, by omega⟩
theorem namesL_sz {T : List Tok} (hT : Fit T) : ∀ (m k : Nat) (acc : List (List UInt8)), k ≤ (namesL T m k acc).2 ∧ sumN (namesL T m k acc).1 ≤ sumN acc + 42 * ((namesL T m k acc).2 - k)
  | 0, _, _ => ⟨Nat.le_refl _, by simp [namesL]⟩
  | m + 1, k, acc => by
    rw [namesL]
    split
    · rename_i hk
      have := name_len hT hk
      obtain ⟨j1, j2⟩ := namesL_sz hT m (k + 1) (acc ++ [(tok T k).text])
      rw [sumN_snoc] at j2
      exact ⟨by omega, by omega⟩
    · exact ⟨Nat.le_refl _, Nat.le_add_right _ _⟩
theorem word_len {w : List UInt8} (h : w ∈ wordsL) : w.length ≤ 8 := by
  simp only [wordsL, List.mem_cons, List.not_mem_nil, or_false] at h
  rcases h with rfl | rfl | rfl | rfl | rfl | rfl | rfl <;> decide
theorem declL_sz {T : List Tok} (hT : Fit T) {k k1 : Nat} {x : De} (hk : isK T k 1 = true) (h : declL T k = .ok x k1) : k ≤ k1 ∧ (wrD x).length ≤ 66000 * (k1 - k) := by
  unfold declL at h
  split at h
  · cases h
  split at h
  · cases h
  rename_i t j hty
  split at h
  · cases h
  rename_i h2
  simp only at h
  split at h
  · cases h
  have h2 : isK T j 2 = true := by simpa using h2
  have hw := word_len (hT.word _ hk)
  have hn := name_len hT h2
  obtain ⟨n1, n2⟩ := namesL_sz hT T.length (j + 1) [(tok T j).text]
  have h5 : sumN [(tok T j).text] = (tok T j).text.length + 2 := by simp [sumN]
  have h6 := blanks_len (namesL T T.length (j + 1) [(tok T j).text]).1
  cases h
  have hty2 : k + 1 ≤ j ∧ (wrTy t).length ≤ 43 := by
    rcases typeL_ok hty with ⟨_, _, g5, _, g6, h7⟩ | ⟨_, g6, h7⟩
    · have := name_len hT g5
      subst h7
      refine ⟨by omega, ?_⟩
      unfold wrTy
      split
      · simp
      · rw [g6]; simp only [List.length_cons, List.length_append, List.length_nil]; omega
    · subst g6 h7; exact ⟨Nat.le_refl _, by simp [wrTy]⟩
  refine ⟨by omega, ?_⟩
  simp only [wrD, List.length_append, List.length_cons, List.length_nil]
  omega
theorem DeclsR_sz {T : List Tok} (hT : Fit T) {k : Nat} {acc : List De} {o : Out (List De)} (h : DeclsR T k acc o) : ∀ zs k1, o = .ok zs k1 → k ≤ k1 ∧ (zs.flatMap wrD).length ≤ (acc.flatMap wrD).length + 66000 * (k1 - k) := by
  induction h with
  | stop _ => intro ws k1 e; cases e; exact ⟨Nat.le_refl _, by omega⟩
  | fail _ _ => intro ws k1 e; cases e
  | @next k k2 acc x o h1 h2 _ ih =>
    intro ws k1 e
    obtain ⟨i1, i2⟩ := declL_sz hT h1 h2
    obtain ⟨j1, j2⟩ := ih ws k1 e
    have h5 : ((acc ++ [x]).flatMap wrD).length = (acc.flatMap wrD).length + (wrD x).length := by simp
    rw [h5] at j2
    exact ⟨by omega, by omega⟩
/-- HOW MUCH IS WRITTEN OF WHAT WAS READ -/
theorem text_sz {s : List UInt8} {T : List Tok} {x : Tx} {k : Nat} (h : toks s = .good T) (hx : TextR T (.ok x k)) : (wrT x).length ≤ 66000 * k + 3 := by
  have hT := toks_fit h
  cases hx with
  | whole h1 _ h2 =>
    obtain ⟨a1, a2⟩ := DeclsR_sz hT h1 _ _ rfl
    obtain ⟨b1, b2⟩ := RulesR_sz hT h2 _ _ rfl
    simp only [List.flatMap_nil, List.length_nil] at a2 b2
    simp only [wrT, List.length_append, List.length_cons]
    omega
end Go.Proofs.Ytelpkldlkpoioaa.WrS
/- How much a text is; what is little is written in little. Plain. -/
namespace Go.Proofs.Ytelpkldlkpoioaa.WrT
open Go.Proofs.Ytelpkldlkpoioaa.Lexy Go.Proofs.Ytelpkldlkpoioaa.Ready Go.Proofs.Ytelpkldlkpoioaa.WrA Go.Proofs.Ytelpkldlkpoioaa.WrB Go.Proofs.Ytelpkldlkpoioaa.WrC Go.Proofs.Ytelpkldlkpoioaa.WrD Go.Proofs.Ytelpkldlkpoioaa.WrE Go.Proofs.Ytelpkldlkpoioaa.WrP Go.Proofs.Ytelpkldlkpoioaa.WrS

mutual
/-- a word's names, a twentieth of each -/
def nmW : Wd → Nat
  | .mk n xs _ => n.length / 20 + nmWs xs
def nmWs : List Wd → Nat
  | [] => 0
  | x :: xs => nmW x + nmWs xs
end
theorem nmWs_snoc : ∀ (l : List Wd) (x : Wd), nmWs (l ++ [x]) = nmWs l + nmW x
  | [], x => by simp [nmWs]
  | y :: l, x => by rw [List.cons_append, nmWs, nmWs, nmWs_snoc l x]; omega
theorem nmWs_take : ∀ (l : List Wd) (k : Nat), nmWs (l.take k) ≤ nmWs l
  | [], _ => by simp
  | _ :: _, 0 => by simp [nmWs]
  | y :: l, k + 1 => by rw [List.take_succ_cons, nmWs, nmWs]; have := nmWs_take l k; omega
def sumF {α : Type} (f : α → Nat) : List α → Nat
  | [] => 0
  | x :: xs => f x + sumF f xs
theorem sumF_snoc {α : Type} (f : α → Nat) : ∀ (l : List α) (x : α), sumF f (l ++ [x]) = sumF f l + f x
  | [], x => by simp [sumF]
  | y :: l, x => by rw [List.cons_append, sumF, sumF, sumF_snoc f l x]; omega
theorem sumF_next {α : Type} (f : α → Nat) {l : List α} {k : Nat} (h : k < l.length) : sumF f (l.take (k + 1)) = sumF f (l.take k) + f l[k] := by
  have e : l.take (k + 1) = l.take k ++ [l[k]] := by simp
  rw [e, sumF_snoc]
theorem sumF_mem {α : Type} (f : α → Nat) : ∀ {l : List α} {x : α}, x ∈ l → f x ≤ sumF f l
  | y :: l, x, h => by
    rw [sumF]
    rcases List.mem_cons.1 h with rfl | h
    · omega
    · have := sumF_mem f h; omega
def gNs (l : List (List UInt8)) : Nat := sumF (fun n => n.length / 20) l
def gA (a : Al) : Nat := a.words.length + a.action.length / 50 + a.prec.length / 20 + sumF (fun w => szW w + nmW w) a.words
def gR (r : Ru) : Nat := r.params.length + r.alts.length + r.name.length / 20 + gNs r.params + sumF gA r.alts
def gD (d : De) : Nat := d.names.length + d.type.length / 20 + gNs d.names
def gT (x : Tx) : Nat := x.decls.length + x.rules.length + sumF gD x.decls + sumF gR x.rules
mutual
theorem wrW_le : ∀ x : Wd, (wrW x).length + 2 ≤ 20 * nmW x + 21 * szW x
  | .mk n xs z => by
    have h1 := wrP_len xs
    have h2 := sumW_le xs
    rw [wrW, nmW, szW, List.length_append]; omega
theorem sumW_le : ∀ xs : List Wd, sumW xs ≤ 20 * nmWs xs + 21 * szWs xs
  | [] => by rw [sumW]; omega
  | x :: xs => by
    have h1 := wrW_le x
    have h2 := sumW_le xs
    rw [sumW, nmWs, szWs]; omega
end
theorem wrL_le : ∀ l : List Wd, (wrL l).length ≤ sumW l
  | [] => by simp [wrL]
  | x :: l => by
    have : (wrL (x :: l)).length = (wrW x).length + 1 + (wrL l).length := by simp [wrL]; omega
    have := wrL_le l
    rw [sumW]; omega
theorem sums : ∀ l : List Wd, sumF (fun w => szW w + nmW w) l = szWs l + nmWs l
  | [] => by simp [sumF, szWs, nmWs]
  | x :: l => by rw [sumF, sums l, szWs, nmWs]; omega
theorem wrA_le (a : Al) : (wrA a).length ≤ 50 * gA a + 80 := by
  have h1 := wrL_le a.words
  have h2 := sumW_le a.words
  have h3 : (wrPrec a.prec).length ≤ a.prec.length + 7 := by
    unfold wrPrec; split
    · simp
    · simp only [List.length_cons, List.length_append, precT, List.length_nil]; omega
  have h4 : (wrAct a.has a.action).length ≤ a.action.length + 3 := by
    unfold wrAct; split
    · simp
    · simp
  have h5 := sums a.words
  simp only [wrA, gA, List.length_append, List.length_singleton]
  omega
theorem wrAs_le : ∀ l : List Al, (wrAs l).length ≤ 50 * sumF gA l + 82 * l.length
  | [] => by simp [wrAs]
  | a :: l => by
    have h1 : (wrAs (a :: l)).length = (wrAs l).length + ((wrA a).length + 2) := by simp [wrAs]; omega
    have h2 := wrA_le a
    have h3 := wrAs_le l
    rw [h1, sumF, List.length_cons]; omega
theorem sumN_le : ∀ l : List (List UInt8), sumN l ≤ 20 * gNs l + 21 * l.length
  | [] => by simp [sumN]
  | x :: l => by
    have h := sumN_le l
    have e : gNs (x :: l) = x.length / 20 + gNs l := rfl
    rw [sumN, e, List.length_cons]; omega
theorem wrR_le (r : Ru) : (wrR r).length ≤ 100 * gR r + 23 := by
  have h1 := wrAs_le r.alts
  have h2 := wrAlts_len r.alts
  have h3 := wrN_len r.params
  have h4 := sumN_le r.params
  simp only [wrR, gR, List.length_append, List.length_cons, List.length_nil]
  omega
/-- what is written of a declaration, if it is of a kind -/
def wrD' (d : De) : List UInt8 := if kindB d = true then wrD d else []
theorem wrD_le (d : De) : (wrD' d).length ≤ 100 * gD d + 33 := by
  unfold wrD'
  split
  · rename_i hk
    have h1 := word_len (kind_word hk).1
    have h2 : (wrTy d.type).length ≤ d.type.length + 3 := by
      unfold wrTy; split
      · simp
      · simp
    have h3 := blanks_len d.names
    have h4 := sumN_le d.names
    simp only [wrD, gD, List.length_append, List.length_cons, List.length_nil]
    omega
  · simp
theorem ds_le : ∀ l : List De, (l.flatMap wrD').length ≤ 100 * sumF gD l + 33 * l.length
  | [] => by simp
  | d :: l => by
    have h1 : ((d :: l).flatMap wrD').length = (wrD' d).length + (l.flatMap wrD').length := by simp
    have h2 := wrD_le d
    have h3 := ds_le l
    rw [h1, sumF, List.length_cons]; omega
theorem rs_le : ∀ l : List Ru, (l.flatMap wrR).length ≤ 100 * sumF gR l + 23 * l.length
  | [] => by simp
  | d :: l => by
    have h1 : ((d :: l).flatMap wrR).length = (wrR d).length + (l.flatMap wrR).length := by simp
    have h2 := wrR_le d
    have h3 := rs_le l
    rw [h1, sumF, List.length_cons]; omega
/-- how much is written at most -/
def lenT (x : Tx) : Nat := (x.decls.flatMap wrD').length + ((x.rules.flatMap wrR).length + 3)
theorem small_len {x : Tx} (h : gT x ≤ 2000) : lenT x ≤ 200003 := by
  have h1 := ds_le x.decls
  have h2 := rs_le x.rules
  unfold gT at h
  unfold lenT
  omega
theorem small_ok {x : Tx} (h : gT x ≤ 2000) : TxOk x := by
  unfold gT at h
  refine ⟨by omega, by omega, fun d hd => ?_, fun r hr => ?_⟩
  · have := sumF_mem gD hd
    have e : gD d = d.names.length + d.type.length / 20 + gNs d.names := rfl
    show d.names.length ≤ 1000000
    omega
  · have := sumF_mem gR hr
    have e : gR r = r.params.length + r.alts.length + r.name.length / 20 + gNs r.params + sumF gA r.alts := rfl
    refine ⟨by omega, by omega, fun a ha => ?_⟩
    have h2 := sumF_mem gA ha
    have e2 : gA a = a.words.length + a.action.length / 50 + a.prec.length / 20 + sumF (fun w => szW w + nmW w) a.words := rfl
    have h3 := sums a.words
    exact ⟨by omega, wdsOk_sz _ (by omega)⟩
/-! what is written of declarations, all of a kind -/
theorem ds_kind : ∀ {l : List De}, l.all okD = true → l.flatMap wrD = l.flatMap wrD'
  | [], _ => rfl
  | d :: l, h => by
    simp only [List.all_cons, Bool.and_eq_true] at h
    have hk : kindB d = true := by have := h.1; unfold okD at this; simp only [Bool.and_eq_true] at this; exact this.1
    have e : wrD' d = wrD d := by unfold wrD'; rw [if_pos hk]
    rw [List.flatMap_cons, List.flatMap_cons, ds_kind h.2, e]
theorem fmD {ds : List De} {k : Nat} (h : k < ds.length) (ha : (ds.take k).all okD = true) (hk : kindB ds[k] = true) : ((ds.take k).flatMap wrD).length + (wrD ds[k]).length ≤ (ds.flatMap wrD').length := by
  have h2 : ds.flatMap wrD' = (ds.take (k + 1)).flatMap wrD' ++ (ds.drop (k + 1)).flatMap wrD' := by rw [← List.flatMap_append, List.take_append_drop]
  have e : ds.take (k + 1) = ds.take k ++ [ds[k]] := by simp
  have e2 : wrD' ds[k] = wrD ds[k] := by unfold wrD'; rw [if_pos hk]
  rw [ds_kind ha, h2, e, List.flatMap_append, List.length_append, List.length_append]
  simp [e2]
theorem len_ok {x : Tx} (h : okT x = true) : (wrT x).length = lenT x := by
  unfold okT at h
  simp only [Bool.and_eq_true] at h
  rw [lenT, ← ds_kind h.1, wrT]
  simp only [List.length_append, List.length_cons]
end Go.Proofs.Ytelpkldlkpoioaa.WrT
