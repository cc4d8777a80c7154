/- A text's bytes, as they are written, and that these are its tokens. Plain. -/
import Derived.Test.YtelpkldlkpoioaaWrC
namespace Go.Proofs.Ytelpkldlkpoioaa.WrD
open Go.Proofs.Ytelpkldlkpoioaa.Lexy Go.Proofs.Ytelpkldlkpoioaa.Ready Go.Proofs.Ytelpkldlkpoioaa.WrA Go.Proofs.Ytelpkldlkpoioaa.WrB Go.Proofs.Ytelpkldlkpoioaa.WrC

/-- a name -/
structure NameL (s : List UInt8) : Prop where
  head : ∃ c r, s = c :: r ∧ letN c.toNat = true
  all : ∀ c ∈ s, ldN c.toNat = true
  len : s.length ≤ 40
/-- no letter, no digit begins it -/
def NL (x : List UInt8) : Prop := ∀ c, x.head? = some c → ldN c.toNat = false
/-- these bytes are these tokens, whatever stands behind -/
def Lx (l : List UInt8) (ks : List KT) : Prop := ∀ x a, ∃ ts, bare ts = ks ∧ lexA (l ++ x) 0 a = Lexy.ahead ts (lexA x 0 (a + l.length))
/-- .. if no letter, no digit stands behind -/
def LxN (l : List UInt8) (ks : List KT) : Prop := ∀ x a, NL x → ∃ ts, bare ts = ks ∧ lexA (l ++ x) 0 a = Lexy.ahead ts (lexA x 0 (a + l.length))
def Hd (m : List UInt8) : Prop := ∃ c r, m = c :: r ∧ ldN c.toNat = false
theorem Hd.nl {m : List UInt8} (h : Hd m) (x : List UInt8) : NL (m ++ x) := by
  obtain ⟨c, r, rfl, hc⟩ := h
  intro d hd
  have : c = d := by simpa using hd
  rw [← this]; exact hc
theorem ahead_app (ts us : List Tok) (r : Res) : Lexy.ahead (ts ++ us) r = Lexy.ahead ts (Lexy.ahead us r) := by unfold Lexy.ahead; rw [List.foldr_append]
theorem bare_app (ts us : List Tok) : bare (ts ++ us) = bare ts ++ bare us := by unfold bare; rw [List.map_append]
theorem Lx.n {l : List UInt8} {ks : List KT} (h : Lx l ks) : LxN l ks := fun x a _ => h x a
theorem Lx.nil : Lx [] [] := fun _ _ => ⟨[], rfl, rfl⟩
theorem Lx.app {l m : List UInt8} {ks js : List KT} (h : Lx l ks) (k : Lx m js) : Lx (l ++ m) (ks ++ js) := fun x a => by
  obtain ⟨ts, h1, h2⟩ := h (m ++ x) a
  obtain ⟨us, k1, k2⟩ := k x (a + l.length)
  exact ⟨ts ++ us, by rw [bare_app, h1, k1], by rw [List.append_assoc, h2, k2, ahead_app, List.length_append, Nat.add_assoc]⟩
theorem Lx.appN {l m : List UInt8} {ks js : List KT} (h : Lx l ks) (k : LxN m js) : LxN (l ++ m) (ks ++ js) := fun x a hx => by
  obtain ⟨ts, h1, h2⟩ := h (m ++ x) a
  obtain ⟨us, k1, k2⟩ := k x (a + l.length) hx
  exact ⟨ts ++ us, by rw [bare_app, h1, k1], by rw [List.append_assoc, h2, k2, ahead_app, List.length_append, Nat.add_assoc]⟩
theorem LxN.app {l m : List UInt8} {ks js : List KT} (h : LxN l ks) (k : Lx m js) (hm : Hd m) : Lx (l ++ m) (ks ++ js) := fun x a => by
  obtain ⟨ts, h1, h2⟩ := h (m ++ x) a (hm.nl x)
  obtain ⟨us, k1, k2⟩ := k x (a + l.length)
  exact ⟨ts ++ us, by rw [bare_app, h1, k1], by rw [List.append_assoc, h2, k2, ahead_app, List.length_append, Nat.add_assoc]⟩
theorem LxN.appN {l m : List UInt8} {ks js : List KT} (h : LxN l ks) (k : LxN m js) (hm : Hd m) : LxN (l ++ m) (ks ++ js) := fun x a hx => by
  obtain ⟨ts, h1, h2⟩ := h (m ++ x) a (hm.nl x)
  obtain ⟨us, k1, k2⟩ := k x (a + l.length) hx
  exact ⟨ts ++ us, by rw [bare_app, h1, k1], by rw [List.append_assoc, h2, k2, ahead_app, List.length_append, Nat.add_assoc]⟩
theorem let_ld {n : Nat} (h : letN n = true) : wsN n = false ∧ n ≠ 47 := by
  simp only [letN, Bool.or_eq_true, Bool.and_eq_true, decide_eq_true_eq] at h
  refine ⟨?_, by omega⟩
  unfold wsN
  simp only [Bool.or_eq_false_iff, decide_eq_false_iff_not]
  omega
theorem com_not {c : UInt8} {r : List UInt8} (h : c.toNat ≠ 47) : comL (c :: r) = false := by
  cases r <;> simp [comL, h]
theorem lx_name {s : List UInt8} (h : NameL s) : LxN s [(2, s)] := fun x a hx => by
  obtain ⟨c, r, rfl, hc⟩ := h.head
  have h2 := let_ld hc
  have hrun := runL_len (c :: r) x h.all hx
  refine ⟨[⟨2, c :: r, a⟩], rfl, ?_⟩
  have ht : tokL (c :: r ++ x) = .good 2 (c :: r) (c :: r).length := by
    rw [List.cons_append] at hrun ⊢
    unfold tokL
    simp only [hc, if_true, hrun]
    rw [if_neg (by have := h.len; omega)]
    congr 1
    show ((c :: r) ++ x).take (c :: r).length = c :: r
    exact List.take_left' rfl
  have hd : (r ++ x).drop r.length = x := List.drop_left' rfl
  rw [List.cons_append] at ht ⊢
  rw [lexA_tok _ _ (by simp) (by simpa using h2.1) (com_not h2.2), ht]
  simp only [List.length_cons, List.drop_succ_cons, hd]
  rfl
theorem sign_facts {c : UInt8} (h : signN c.toNat = true) : letN c.toNat = false ∧ c.toNat ≠ 37 ∧ c.toNat ≠ 123 ∧ wsN c.toNat = false ∧ c.toNat ≠ 47 := by
  simp only [signN, Bool.or_eq_true, decide_eq_true_eq] at h
  refine ⟨?_, by omega, by omega, ?_, by omega⟩
  · unfold letN
    simp only [Bool.or_eq_false_iff, Bool.and_eq_false_iff, decide_eq_false_iff_not]
    omega
  · unfold wsN
    simp only [Bool.or_eq_false_iff, decide_eq_false_iff_not]
    omega
theorem lx_sign {c : UInt8} (h : signN c.toNat = true) : Lx [c] [(6, [c])] := fun x a => by
  obtain ⟨h1, h2, h3, h4, h5⟩ := sign_facts h
  refine ⟨[⟨6, [c], a⟩], rfl, ?_⟩
  have ht : tokL (c :: x) = .good 6 [c] 1 := by
    unfold tokL
    simp only [h1, h2, h3, h, Bool.false_eq_true, if_false, if_true]
  show lexA (c :: x) 0 a = _
  rw [lexA_tok _ _ (by simp) (by simpa using h4) (com_not h5), ht]
  rfl
theorem lx_ws {c : UInt8} (h : wsN c.toNat = true) : Lx [c] [] := fun x a => by
  refine ⟨[], rfl, ?_⟩
  show lexA (c :: x) 0 a = _
  rw [lexA_ws _ _ (by simp) (by simpa using h)]
  rfl
theorem lx_two : Lx [37, 37] [(6, [37, 37])] := fun x a => by
  refine ⟨[⟨6, [37, 37], a⟩], rfl, ?_⟩
  have ht : tokL (37 :: 37 :: x) = .good 6 [37, 37] 2 := by
    unfold tokL; dsimp only
    rw [if_neg (by decide), if_pos (by decide), if_pos (by rfl)]
  show lexA (37 :: 37 :: x) 0 a = _
  rw [lexA_tok _ _ (by simp) (by rfl) (by rfl), ht]
  rfl
theorem words_ld {w : List UInt8} (h : w ∈ wordsL) : (∀ c ∈ w, ldN c.toNat = true) ∧ w.head?.map (·.toNat) ≠ some 37 ∧ w ≠ [] := by
  simp only [wordsL, List.mem_cons, List.not_mem_nil, or_false] at h
  rcases h with rfl | rfl | rfl | rfl | rfl | rfl | rfl <;> exact ⟨by decide, by decide, by decide⟩
theorem lx_word {w : List UInt8} (h : w ∈ wordsL) : LxN (37 :: w) [(1, w)] := fun x a hx => by
  obtain ⟨h1, h2, h3⟩ := words_ld h
  have hrun := runL_len w x h1 hx
  have hh : (w ++ x).head?.map (·.toNat) ≠ some 37 := by
    cases w with
    | nil => exact absurd rfl h3
    | cons c r => simpa using h2
  refine ⟨[⟨1, w, a⟩], rfl, ?_⟩
  have ht : tokL (37 :: (w ++ x)) = .good 1 w (w.length + 1) := by
    unfold tokL; dsimp only
    rw [if_neg (by decide), if_pos (by decide), if_neg hh, hrun, List.take_left' rfl, if_pos h]
  show lexA (37 :: (w ++ x)) 0 a = _
  rw [lexA_tok _ _ (by simp) (by rfl) (com_not (by decide)), ht]
  simp only [List.drop_succ_cons]
  rw [List.drop_left' rfl]
  rfl
theorem lx_act {s : List UInt8} (h : Inner s) : Lx (123 :: (s ++ [125])) [(9, s)] := fun x a => by
  refine ⟨[⟨9, s, a⟩], rfl, ?_⟩
  have := lexA_action s x a h
  rw [show 123 :: (s ++ [125]) ++ x = 123 :: (s ++ 125 :: x) by simp, this]
  show (lexA x 0 (a + s.length + 2)).cons ⟨9, s, a⟩ = (lexA x 0 (a + (123 :: (s ++ [125])).length)).cons ⟨9, s, a⟩
  congr 2
  simp; omega
/-! ### What is written -/
mutual
def wrW : Wd → List UInt8
  | .mk n xs _ => n ++ wrP xs
def wrP : List Wd → List UInt8
  | [] => []
  | x :: xs => 40 :: (wrW x ++ wrWs xs)
def wrWs : List Wd → List UInt8
  | [] => [41]
  | x :: xs => 44 :: 32 :: (wrW x ++ wrWs xs)
end
mutual
def namedW : Wd → Prop
  | .mk n xs _ => NameL n ∧ namedWs xs
def namedWs : List Wd → Prop
  | [] => True
  | x :: xs => namedW x ∧ namedWs xs
end
theorem ws_hd : ∀ xs : List Wd, Hd (wrWs xs)
  | [] => by rw [wrWs]; exact ⟨41, [], rfl, by decide⟩
  | x :: xs => by rw [wrWs]; exact ⟨44, _, rfl, by decide⟩
mutual
theorem lx_w : ∀ x : Wd, namedW x → LxN (wrW x) (tkW x)
  | .mk n [] _, h => by
    rw [namedW] at h
    rw [wrW, wrP, tkW, tkP, List.append_nil]
    exact lx_name h.1
  | .mk n (x :: xs) _, h => by
    rw [namedW, namedWs] at h
    rw [wrW, wrP, tkW, tkP]
    have h1 : Lx (40 :: (wrW x ++ wrWs xs)) ((6, [40]) :: (tkW x ++ tkWs xs)) := Lx.app (lx_sign (c := 40) (by decide)) ((lx_w x h.2.1).app (lx_ws' xs h.2.2) (ws_hd xs))
    exact ((lx_name h.1).app h1 ⟨40, _, rfl, by decide⟩).n
theorem lx_ws' : ∀ xs : List Wd, namedWs xs → Lx (wrWs xs) (tkWs xs)
  | [], _ => by rw [wrWs, tkWs]; exact lx_sign (c := 41) (by decide)
  | x :: xs, h => by
    rw [namedWs] at h
    rw [wrWs, tkWs]
    exact Lx.app (l := [44]) (ks := [(6, [44])]) (lx_sign (c := 44) (by decide)) (Lx.app (l := [32]) (ks := []) (lx_ws (c := 32) (by decide)) ((lx_w x h.1).app (lx_ws' xs h.2) (ws_hd xs)))
end
structure LH (l : List UInt8) (ks : List KT) : Prop where
  lx : Lx l ks
  hd : Hd l
theorem LH.blank {c : UInt8} (hc : wsN c.toNat = true) {m : List UInt8} {js : List KT} (h : Lx m js) : LH (c :: m) js :=
  ⟨Lx.app (l := [c]) (ks := []) (lx_ws hc) h, ⟨c, m, rfl, (ws_ld hc).1⟩⟩
theorem LH.sign {c : UInt8} (hc : signN c.toNat = true) (hl : ldN c.toNat = false) {m : List UInt8} {js : List KT} (h : Lx m js) : LH (c :: m) ((6, [c]) :: js) :=
  ⟨Lx.app (l := [c]) (ks := [(6, [c])]) (lx_sign hc) h, ⟨c, m, rfl, hl⟩⟩
theorem LxN.then {l m : List UInt8} {ks js : List KT} (h : LxN l ks) (k : LH m js) : Lx (l ++ m) (ks ++ js) := h.app k.lx k.hd
end Go.Proofs.Ytelpkldlkpoioaa.WrD
