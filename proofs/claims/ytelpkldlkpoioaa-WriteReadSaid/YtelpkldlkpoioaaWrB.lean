/- What a text is as tokens, and that these say it: alternatives, rules, declarations. Plain. -/
import Derived.Test.YtelpkldlkpoioaaWrA
namespace Go.Proofs.Ytelpkldlkpoioaa.WrB
open Go.Proofs.Ytelpkldlkpoioaa.Lexy Go.Proofs.Ytelpkldlkpoioaa.Ready Go.Proofs.Ytelpkldlkpoioaa.WrA

def precT : List UInt8 := [112, 114, 101, 99]
def tkA (a : Al) : List KT := tkL a.words ++ ((if a.prec = [] then [] else [(1, precT), (2, a.prec)]) ++ (if a.has = true then [(9, a.action)] else []))
structure FineA (a : Al) : Prop where
  nest : ∀ x ∈ a.words, nestW 0 x = true
  act : a.has = true ∨ a.action = []
/-- a sign that ends an alternative -/
def Sign (T : List Tok) (k : Nat) : Prop := (tok T k).kind = 6 ∧ (tok T k).text ≠ [40]
theorem Sign.k {T : List Tok} {k q : Nat} (h : Sign T k) (hq : q ≠ 6) : isK T k q = false := by unfold isK; rw [h.1]; simpa using Ne.symm hq
theorem Sign.t {T : List Tok} {k : Nat} (h : Sign T k) : isT T k 6 [40] = false := by unfold isT; simp [h.2]
theorem Sign.p {T : List Tok} {k : Nat} (h : Sign T k) : isT T k 1 precT = false := by unfold isT; rw [h.1]; rfl
theorem say_a {T : List Tok} {a : Al} {k : Nat} (h : At T k (tkA a)) (hs : Sign T (k + (tkA a).length)) (hf : FineA a) : ∃ y, AltR T k (.ok y (k + (tkA a).length)) ∧ plainA y = plainA a := by
  obtain ⟨ws, prec, has, act, whr, at_⟩ := a
  unfold tkA at h hs ⊢
  simp only at h hs ⊢
  rw [at_app, at_app] at h
  rw [List.length_append, List.length_append, ← Nat.add_assoc] at hs ⊢
  obtain ⟨h1, h2, h3⟩ := h
  have hact : has = true ∨ act = [] := hf.act
  by_cases hp : prec = []
  · subst hp
    simp only [if_true, List.length_nil, Nat.add_zero, Nat.zero_add] at h2 h3 hs ⊢
    cases has with
    | false =>
      simp only [Bool.false_eq_true, if_false, List.length_nil, Nat.add_zero] at h3 hs ⊢
      obtain ⟨ys, hy, hb⟩ := say_l ws [] k h1 hs.t (hs.k (by decide)) hf.nest
      have hpl : precL T (k + (tkL ws).length) = .ok [] (k + (tkL ws).length) := by unfold precL; rw [show isT T _ 1 [112, 114, 101, 99] = false from hs.p]; rfl
      have hal := AltR.ok hy hpl
      unfold actL at hal
      rw [hs.k (q := 9) (by decide)] at hal
      refine ⟨_, hal, ?_⟩
      have : act = [] := by simpa using hact
      simp [plainA, hb, this]
    | true =>
      simp only [if_true, List.length_singleton, At] at h3 hs ⊢
      have h9 := h3.1
      obtain ⟨ys, hy, hb⟩ := say_l ws [] k h1 (by rw [isT_of h9]; rfl) (by rw [isK_of h9]; rfl) hf.nest
      have hpl : precL T (k + (tkL ws).length) = .ok [] (k + (tkL ws).length) := by unfold precL; rw [isT_of h9]; rfl
      have hal := AltR.ok hy hpl
      unfold actL at hal
      rw [isK_of h9, show decide ((9 : Nat) = 9) = true from rfl, if_pos rfl] at hal
      refine ⟨_, hal, ?_⟩
      simp [plainA, hb, h9.2]
  · simp only [if_neg hp, List.length_cons, List.length_nil, Nat.zero_add, At] at h2 h3 hs ⊢
    obtain ⟨g1, g2, _⟩ := h2
    obtain ⟨ys, hy, hb⟩ := say_l ws [] k h1 (by rw [isT_of g1]; decide) (by rw [isK_of g1]; decide) hf.nest
    have hpl : precL T (k + (tkL ws).length) = .ok prec (k + (tkL ws).length + 2) := by
      unfold precL
      rw [isT_of g1, show (decide (1 = 1) && decide (precT = [112, 114, 101, 99])) = true from rfl, if_pos rfl, isK_of g2, show decide (2 = 2) = true from rfl, if_pos rfl, g2.2]
    have hal := AltR.ok hy hpl
    unfold actL at hal
    cases has with
    | false =>
      simp only [Bool.false_eq_true, if_false, List.length_nil, Nat.add_zero] at h3 hs ⊢
      rw [hs.k (q := 9) (by decide)] at hal
      refine ⟨_, hal, ?_⟩
      have : act = [] := by simpa using hact
      simp [plainA, hb, this]
    | true =>
      simp only [if_true, List.length_singleton, At] at h3 hs ⊢
      have h9 := h3.1
      rw [isK_of h9, show decide ((9 : Nat) = 9) = true from rfl, if_pos rfl] at hal
      refine ⟨_, hal, ?_⟩
      simp [plainA, hb, h9.2]
def tkAs (l : List Al) : List KT := l.flatMap fun a => (6, [124]) :: tkA a
theorem as_head {T : List Tok} {k : Nat} : ∀ (l : List Al), At T k (tkAs l) → Sign T (k + (tkAs l).length) → Sign T k
  | [], _, h => h
  | a :: l, h, _ => by
    rw [show tkAs (a :: l) = (6, [124]) :: (tkA a ++ tkAs l) from rfl, At] at h
    exact ⟨h.1.1, by rw [h.1.2]; decide⟩
theorem say_as {T : List Tok} : ∀ (l acc : List Al) (k : Nat), At T k (tkAs l) → Sign T (k + (tkAs l).length) → isT T (k + (tkAs l).length) 6 [124] = false → (∀ a ∈ l, FineA a) → ∃ ys, AltsR T k acc (.ok (acc ++ ys) (k + (tkAs l).length)) ∧ ys.map plainA = l.map plainA
  | [], acc, k, _, _, h2, _ => ⟨[], by rw [List.append_nil]; exact .stop h2, rfl⟩
  | a :: l, acc, k, h, hs, h2, hf => by
    have e : tkAs (a :: l) = (6, [124]) :: (tkA a ++ tkAs l) := rfl
    have el : k + (tkAs (a :: l)).length = k + 1 + (tkA a).length + (tkAs l).length := by rw [e]; simp; omega
    rw [e, At, at_app] at h
    rw [el] at hs h2 ⊢
    obtain ⟨y, hy, by1⟩ := say_a h.2.1 (as_head l h.2.2 hs) (hf a (List.mem_cons_self ..))
    obtain ⟨ys, hys, by2⟩ := say_as l (acc ++ [y]) (k + 1 + (tkA a).length) h.2.2 hs h2 fun z hz => hf z (List.mem_cons_of_mem _ hz)
    refine ⟨y :: ys, ?_, by simp [by1, by2]⟩
    have := AltsR.next (by rw [isT_of h.1]; rfl) hy hys
    simpa using this
def tkNs : List (List UInt8) → List KT
  | [] => [(6, [41])]
  | p :: ps => (6, [44]) :: (2, p) :: tkNs ps
def tkN : List (List UInt8) → List KT
  | [] => []
  | p :: ps => (6, [40]) :: (2, p) :: tkNs ps
theorem say_ns {T : List Tok} : ∀ (l acc : List (List UInt8)) (k : Nat), At T k (tkNs l) → NamesR T k acc (.ok (acc ++ l) (k + (tkNs l).length - 1)) ∧ isT T (k + (tkNs l).length - 1) 6 [41] = true ∧ 1 ≤ (tkNs l).length
  | [], acc, k, h => by
    rw [tkNs, At] at h
    refine ⟨?_, ?_, by simp [tkNs]⟩
    · rw [List.append_nil, tkNs]; exact .stop (by rw [isT_of h.1]; decide)
    · show isT T k 6 [41] = true
      rw [isT_of h.1]; rfl
  | p :: l, acc, k, h => by
    rw [tkNs, At, At] at h
    obtain ⟨h1, h2, h3⟩ := say_ns l (acc ++ [p]) (k + 2) h.2.2
    have e : k + (tkNs (p :: l)).length - 1 = k + 2 + (tkNs l).length - 1 := by rw [tkNs]; simp; omega
    rw [e]
    refine ⟨?_, h2, by simp [tkNs]⟩
    have := NamesR.next (T := T) (k := k) (acc := acc) (by rw [isT_of h.1]; rfl) (by rw [isK_of h.2.1]; rfl) (by rw [h.2.1.2]; exact h1)
    simpa using this
theorem say_p {T : List Tok} {k : Nat} : ∀ (l : List (List UInt8)), At T k (tkN l) → isT T (k + (tkN l).length) 6 [40] = false → ParamsR T k (.ok l (k + (tkN l).length))
  | [], _, h => .none h
  | p :: l, h, _ => by
    rw [tkN, At, At] at h
    obtain ⟨h1, h2, h3⟩ := say_ns l [p] (k + 2) h.2.2
    have e : k + (tkN (p :: l)).length = k + 2 + (tkNs l).length - 1 + 1 := by rw [tkN]; simp; omega
    rw [e]
    exact .whole (by rw [isT_of h.1]; rfl) (by rw [isK_of h.2.1]; rfl) (by rw [h.2.1.2]; exact h1) h2
structure FineR (r : Ru) : Prop where
  some : r.alts ≠ []
  alts : ∀ a ∈ r.alts, FineA a
def tkAlts : List Al → List KT
  | [] => []
  | a :: l => tkA a ++ tkAs l
def tkR (r : Ru) : List KT := (2, r.name) :: (tkN r.params ++ ((6, [58]) :: (tkAlts r.alts ++ [(6, [59])])))
theorem say_r {T : List Tok} {r : Ru} {k : Nat} (h : At T k (tkR r)) (hf : FineR r) : ∃ y, RuleR T k (.ok y (k + (tkR r).length)) ∧ plainR y = plainR r := by
  obtain ⟨nm, ps, alts, at_⟩ := r
  cases alts with
  | nil => exact absurd rfl hf.some
  | cons a l =>
    unfold tkR at h ⊢
    simp only [tkAlts] at h ⊢
    rw [At, at_app, At, at_app, at_app] at h
    obtain ⟨h0, h1, h2, ⟨h3, h4⟩, h5⟩ := h
    simp only [At] at h5
    have hsem := h5.1
    rw [show k + 1 + (tkN ps).length + 1 + (tkA a ++ tkAs l).length = k + 1 + (tkN ps).length + 1 + (tkA a).length + (tkAs l).length by simp; omega] at hsem
    have hs : Sign T (k + 1 + (tkN ps).length + 1 + (tkA a).length + (tkAs l).length) := ⟨hsem.1, by rw [hsem.2]; decide⟩
    have hp := say_p ps h1 (by rw [isT_of h2]; decide)
    obtain ⟨y, hy, by1⟩ := say_a h3 (as_head l h4 hs) (hf.alts a (List.mem_cons_self ..))
    obtain ⟨ys, hys, by2⟩ := say_as l [y] _ h4 hs (by rw [isT_of hsem]; decide) fun z hz => hf.alts z (List.mem_cons_of_mem _ hz)
    have hr := RuleR.whole (T := T) (k := k) (by rw [isK_of h0]; rfl) hp (by rw [isT_of h2]; rfl) hy hys (by rw [isT_of hsem]; rfl)
    refine ⟨_, by rw [show k + ((2, nm) :: (tkN ps ++ (6, [58]) :: (tkA a ++ tkAs l ++ [(6, [59])]))).length = k + 1 + (tkN ps).length + 1 + (tkA a).length + (tkAs l).length + 1 by simp; omega]; exact hr, ?_⟩
    simp [plainR, by1, by2, h0.2]
def typeT : List UInt8 := [116, 121, 112, 101]
def tokenT : List UInt8 := [116, 111, 107, 101, 110]
def tkTy (t : List UInt8) : List KT := if t = [] then [] else [(6, [60]), (2, t), (6, [62])]
def tkM (l : List (List UInt8)) : List KT := l.map fun n => (2, n)
def tkD (d : De) : List KT := (1, d.kind) :: (tkTy d.type ++ (tkM d.names ++ [(6, [59])]))
structure FineD (d : De) : Prop where
  prec : d.kind ≠ precT
  some : d.names ≠ []
  ty : d.kind = typeT → d.type ≠ []
  no : d.type ≠ [] → d.kind = typeT ∨ d.kind = tokenT
theorem names_len {T : List Tok} : ∀ (l : List (List UInt8)) (k : Nat), At T k (tkM l) → l = [] ∨ k + l.length ≤ T.length
  | [], _, _ => .inl rfl
  | n :: l, k, h => by
    right
    have e : tkM (n :: l) = (2, n) :: tkM l := rfl
    rw [e, At] at h
    have hk : k < T.length := by
      rcases Nat.lt_or_ge k T.length with h1 | h1
      · exact h1
      · have := h.1.1
        rw [tok_ge h1] at this
        exact absurd (show (0 : Nat) = 2 from this) (by decide)
    rcases names_len l (k + 1) h.2 with rfl | h2
    · simp only [List.length_cons, List.length_nil]; omega
    · simp only [List.length_cons]; omega
theorem say_m {T : List Tok} : ∀ (l acc : List (List UInt8)) (k m : Nat), At T k (tkM l) → l.length ≤ m → isK T (k + l.length) 2 = false → namesL T m k acc = (acc ++ l, k + l.length)
  | [], acc, k, 0, _, _, _ => by simp [namesL]
  | [], acc, k, m + 1, _, _, h => by
    rw [namesL, show isK T k 2 = false from h]; simp
  | n :: l, acc, k, 0, _, h, _ => by simp at h
  | n :: l, acc, k, m + 1, h, hm, hk => by
    have e : tkM (n :: l) = (2, n) :: tkM l := rfl
    rw [e, At] at h
    rw [namesL, isK_of h.1, show decide ((2 : Nat) = 2) = true from rfl, if_pos rfl, h.1.2, say_m l (acc ++ [n]) (k + 1) m h.2 (by simpa using hm) (by rw [show k + 1 + l.length = k + (n :: l).length by simp; omega]; exact hk)]
    simp; omega
theorem say_d {T : List Tok} {d : De} {k : Nat} (h : At T k (tkD d)) (hf : FineD d) : ∃ y, declL T k = .ok y (k + (tkD d).length) ∧ plainD y = plainD d := by
  obtain ⟨kd, ty, ns, at_⟩ := d
  have hns : ns ≠ [] := hf.some
  unfold tkD at h ⊢
  simp only at h ⊢
  rw [At, at_app, at_app] at h
  obtain ⟨h0, h1, h2, h3⟩ := h
  simp only [At] at h3
  cases ns with
  | nil => exact absurd rfl hns
  | cons n l =>
    have e : tkM (n :: l) = (2, n) :: tkM l := rfl
    rw [e, At] at h2
    have hty : typeL T kd (k + 1) = .ok ty (k + 1 + (tkTy ty).length) := by
      unfold typeL
      by_cases ht : ty = []
      · subst ht
        have hk : ¬ kd = typeT := fun e => hf.ty e rfl
        have h60 : isT T (k + 1) 6 [60] = false := by
          have := h2.1
          simp only [tkTy, if_true, List.length_nil, Nat.add_zero] at this
          rw [isT_of this]; rfl
        rw [if_neg (fun e => e.elim hk (fun e => by rw [h60] at e; cases e.2))]
        simp [tkTy]
      · simp only [tkTy, if_neg ht, At] at h1
        obtain ⟨g1, g2, g3, _⟩ := h1
        have h60 : isT T (k + 1) 6 [60] = true := by rw [isT_of g1]; rfl
        rw [if_pos ((hf.no ht).elim .inl (fun e => .inr ⟨e, h60⟩)), h60, if_neg (by decide), isK_of g2, if_neg (by simp), isT_of g3, if_neg (by simp), g2.2]
        simp [tkTy, ht]
    have hlen : k + 1 + (tkM (n :: l)).length = k + 1 + 1 + l.length := by simp [tkM]; omega
    have h59 : (tok T (k + 1 + (tkTy ty).length + 1 + l.length)).kind = 6 ∧ (tok T (k + 1 + (tkTy ty).length + 1 + l.length)).text = [59] := by
      have := h3.1
      rwa [show k + 1 + (tkTy ty).length + (tkM (n :: l)).length = k + 1 + (tkTy ty).length + 1 + l.length by simp [tkM]; omega] at this
    have hm := say_m l [n] (k + 1 + (tkTy ty).length + 1) T.length h2.2 (by
      rcases names_len l _ h2.2 with rfl | h
      · simp
      · omega) (by rw [isK_of h59]; decide)
    refine ⟨⟨kd, ty, n :: l, (tok T k).at_⟩, ?_, rfl⟩
    unfold declL
    rw [if_neg (by rw [h0.2]; exact hf.prec), h0.2, hty]
    simp only
    rw [isK_of h2.1, if_neg (by simp), h2.1.2, hm]
    simp only
    rw [isT_of h59, if_neg (by simp)]
    simp [tkM]; omega
end Go.Proofs.Ytelpkldlkpoioaa.WrB
