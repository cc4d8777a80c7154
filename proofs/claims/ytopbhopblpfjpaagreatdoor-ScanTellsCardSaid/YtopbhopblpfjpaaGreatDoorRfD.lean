/- The document's scanner, walked whole: it tells of any source what the scanner tells. -/
import Derived.Test.YtopbhopblpfjpaaGreatDoorRfU
import Derived.Test.YtopbhopblpfjpaaGreatDoorScanL
namespace Go.Proofs.YtopbhopblpfjpaaGreatDoor.RfD
open Go.RowKit Go.Proofs.YtopbhopblpfjpaaGreatDoor.Lexy Go.Proofs.YtopbhopblpfjpaaGreatDoor.Heap Go.Proofs.YtopbhopblpfjpaaGreatDoor.Base Go.Proofs.YtopbhopblpfjpaaGreatDoor.Scany Go.Proofs.YtopbhopblpfjpaaGreatDoor.ScanL Go.Proofs.YtopbhopblpfjpaaGreatDoor.RfA Go.Proofs.YtopbhopblpfjpaaGreatDoor.RfB Go.Proofs.YtopbhopblpfjpaaGreatDoor.RfC Go.Proofs.YtopbhopblpfjpaaGreatDoor.RfN Go.Proofs.YtopbhopblpfjpaaGreatDoor.RfT Go.Proofs.YtopbhopblpfjpaaGreatDoor.RfU

/-- a token, whole -/
theorem token_r {s : ByteArray} {a : Nat} {w : World} (hs : s.size ≤ 1000000) (ha : a < s.size) :
    Calls Tryz.prog 22 #[.string s, .int .i64 (a : Int)] w (TokR s a w) := by
  cases hl : letN (byteAt s a) with
  | true =>
    obtain ⟨r, hr⟩ : ∃ r, runL (rest s a) = r := ⟨_, rfl⟩
    obtain ⟨X, hX⟩ : ∃ X, X = s.extract a (a + r) := ⟨_, rfl⟩
    have hrl := run_le s a; rw [hr] at hrl
    have hXb : X = bs ((rest s a).take r) := by rw [hX]; exact bs_extract s a r (by omega)
    obtain ⟨n1, _, _, n4⟩ := name_bytes ha hl hr hXb
    have hT := ScanF.tok_name ha hl
    rw [hr, ← n4] at hT
    by_cases hw : X.data.toList ∈ wordsS
    · obtain ⟨w1, w2, w3⟩ := words_ok _ hw
      have hlen : X.size = X.data.toList.length := by simp
      rw [if_pos hw, n4] at hT
      exact token_name_W hs ha hl hr hX (by rw [decide_eq_true w1, decide_eq_true (by omega)]; rfl) (decide_eq_false w3) (decide_eq_true hw) hT
    · rw [if_neg hw] at hT
      by_cases hN : X.data.toList ≠ [95] ∧ r ≤ 40
      · by_cases hf : X.data.toList ∈ foreignS
        · rw [if_pos (.inr (.inr hf))] at hT
          exact token_name_F hs ha hl hr hX (by rw [decide_eq_true hN.1, decide_eq_true (by omega)]; rfl) (decide_eq_true hf) (decide_eq_false hw) hT
        · rw [if_neg (by rintro (h | h | h) <;> first | exact hN.1 h | exact hf h | omega), n4] at hT
          exact token_name_G hs ha hl hr hX (by rw [decide_eq_true hN.1, decide_eq_true (by omega)]; rfl) (decide_eq_false hf) (decide_eq_false hw) hT
      · have hn : X.data.toList = [95] ∨ 40 < r := by
          by_cases h95 : X.data.toList = [95]
          · exact .inl h95
          · exact .inr (by rcases Nat.lt_or_ge 40 r with h | h; · exact h
                           · exact absurd ⟨h95, h⟩ hN)
        rw [if_pos (by rcases hn with h | h; · exact .inl h
                       · exact .inr (.inl h))] at hT
        refine token_name_N hs ha hl hr hX ?_ (decide_eq_false hw) hT
        rcases hn with h | h
        · rw [decide_eq_false (fun hc => hc h)]; rfl
        · rw [decide_eq_false (p := X.size ≤ 40) (by omega), Bool.and_false]
  | false =>
    cases hd : digN (byteAt s a) with
    | true =>
      cases hb : numBad (rest s a) with
      | false => exact token_digit_good hs ha hl hd hb
      | true => exact token_digit_bad hs ha hl hd hb
    | false =>
      by_cases h34 : byteAt s a = 34
      · cases hb : strL (rest s (a + 1)) 0 with
        | none => exact token_text_bad hs ha hl hd h34 hb
        | some x => exact token_text_good hs ha hl hd h34 hb
      by_cases h36 : byteAt s a = 36
      · cases hb : dolL (rest s (a + 1)) with
        | none => exact token_dollar_bad hs ha hl hd h36 hb
        | some x => exact token_dollar_good hs ha hl hd h36 hb
      by_cases ho : firstL oddS (rest s a) ≠ []
      · exact token_sign_odd hs ha hl hd h34 h36 ho
      by_cases hn : firstL signsS (rest s a) = []
      · exact token_sign_none hs ha hl hd h34 h36 ho hn
      · exact token_sign_good hs ha hl hd h34 h36 ho hn

/-! may a line end? -/
theorem strs_new2 (w : World) (O : Obj) (T : TypeId) (L : List (List UInt8)) : IsStrs ((w.alloc O).alloc (.cells (L.map fun x => Value.string (bs x)).toArray T)) (w.heap.size + 1) L := by
  have := strs_new (w.alloc O) T L
  rwa [show (w.alloc O).heap.size = w.heap.size + 1 by simp] at this
def endW : List (List UInt8) := [[98, 114, 101, 97, 107], [99, 111, 110, 116, 105, 110, 117, 101], [114, 101, 116, 117, 114, 110], [116, 114, 117, 101], [102, 97, 108, 115, 101]]
def endG : List (List UInt8) := [[41], [93], [125]]
theorem ends_nil {a : Option Addr} {c : Nat} {w : World} :
    Calls Tryz.prog 21 #[.slice a 0 c] w fun e w' => e = .returned (.bool false) ∧ Below w.heap.size w w' := by
  go_enter Tryz.func21, Tryz.ntmps21
  go_wp2
  go_ret
  exact ⟨rfl, Below.refl _ _⟩
theorem ends_one {w : World} {g c m k : Nat} {t : List UInt8} {p : Int} {v : Bool} (hm : m ≤ 1000000) (c0 : w.cell? ⟨g, m * 3, none⟩ = some (.int .u8 (k : Int))) (c1 : w.cell? ⟨g, m * 3 + 1, none⟩ = some (.string (bs t))) (c2 : w.cell? ⟨g, m * 3 + 2, none⟩ = some (.int .i64 p))
    (hv : (if k = 1 then decide (t ∈ endW) else if k = 6 then decide (t ∈ endG) else true) = v) :
    Calls Tryz.prog 21 #[.slice (some ⟨g, 0, none⟩) (m + 1) c] w fun e w' => e = .returned (.bool v) ∧ Below w.heap.size w w' := by
  have k1 : (0 : Int) ≤ (m : Int) + 1 - 1 := by omega
  have k2 : (m : Int) + 1 - 1 < (m : Int) + 1 := by omega
  have k3 : ((m : Int) + 1 - 1).toNat = m := by omega
  have k4 : ¬ ((m : Int) + 1 = 0) := by omega
  have k5 : ((m : Int) + 1 == 0) = false := beq_eq_false_iff_ne.2 k4
  have HB : ∀ o : Obj, Below w.heap.size w (w.alloc o) := fun o => (Below.refl _ _).alloc (Nat.le_refl _) _
  have HBB := Lib.hid HB; clear HB
  by_cases h1 : k = 1
  · rw [if_pos h1] at hv
    have e1 : ((k : Int) == 1) = true := by rw [h1]; rfl
    have HV := Lib.hid (show decide ((bs t).data.toList ∈ endW) = v by rw [bs_list]; exact hv)
    have HL := Lib.hid (show endW.length ≤ 1000 by decide); have HN := Lib.hid (show endW.length = 5 from rfl)
    clear h1 hv
    go_enter Tryz.func21, Tryz.ntmps21
    go_wp2_with (go_at_call 34; go_must (refine (among_is (strs_new2 w _ _ endW) HL.out HN.out HV.out).mono ?_); rintro e w' ⟨rfl, rfl⟩)
    go_ret
    exact ⟨rfl, two_below _ _ _⟩
  · rw [if_neg h1] at hv
    have e1 : ((k : Int) == 1) = false := beq_eq_false_iff_ne.2 (by omega)
    by_cases h6 : k = 6
    · rw [if_pos h6] at hv
      have e6 : ((k : Int) == 6) = true := by rw [h6]; rfl
      have HV := Lib.hid (show decide ((bs t).data.toList ∈ endG) = v by rw [bs_list]; exact hv)
      have HL := Lib.hid (show endG.length ≤ 1000 by decide); have HN := Lib.hid (show endG.length = 3 from rfl)
      clear h1 hv h6
      go_enter Tryz.func21, Tryz.ntmps21
      go_wp2_with (go_at_call 34; go_must (refine (among_is (strs_new2 w _ _ endG) HL.out HN.out HV.out).mono ?_); rintro e w' ⟨rfl, rfl⟩)
      go_ret
      exact ⟨rfl, two_below _ _ _⟩
    · rw [if_neg h6] at hv
      have e6 : ((k : Int) == 6) = false := beq_eq_false_iff_ne.2 (by omega)
      have HV := Lib.hid hv
      clear h1 hv h6
      go_enter Tryz.func21, Tryz.ntmps21
      go_wp2
      go_ret
      exact ⟨ret_bool HV.out, HBB.out _⟩
/-- .. of tokens that are owned -/
theorem ends_is {w : World} {base : Nat} {l : Value} {d : List Tok} {v : Bool} (ho : w.ownsRow base 50 3 l d.length (cellsT d)) (hd : d.length ≤ 1000000) (hv : endsS d.getLast? = v) :
    Calls Tryz.prog 21 #[l] w fun e w' => e = .returned (.bool v) ∧ Below w.heap.size w w' := by
  rcases Nat.eq_zero_or_pos d.length with h0 | h0
  · obtain rfl : d = [] := List.eq_nil_of_length_eq_zero h0
    subst hv
    obtain ⟨a, c, rfl⟩ : ∃ a c, l = .slice a 0 c := by
      rcases ho.2 with ⟨h, _⟩ | ⟨g, cap, cur, h, _⟩
      · exact ⟨none, 0, h⟩
      · exact ⟨_, _, h⟩
    exact ends_nil
  · obtain ⟨g, cap, rfl, _, _, _, _, ht⟩ := toks_of_own ho h0
    obtain ⟨m, hm⟩ : ∃ m, d.length = m + 1 := ⟨d.length - 1, by omega⟩
    obtain ⟨c0, c1, c2⟩ := ht m (by omega)
    rw [hm]
    refine ends_one (by omega) c0 c1 c2 ?_
    have hl : d.getLast? = some (tk d m) := by
      rw [List.getLast?_eq_getElem?, hm, Nat.add_sub_cancel]
      unfold tk
      rw [List.getD_eq_getElem?_getD, List.getElem?_eq_getElem (show m < d.length by omega)]; rfl
    rw [hl] at hv
    exact hv

/-! step by step -/
theorem sc_ws {s : ByteArray} {k : Nat} {last : Option Tok} (h : k < s.size) (hc : byteAt s k = 9 ∨ byteAt s k = 13 ∨ byteAt s k = 32) : scanA (rest s k) 0 k last = scanA (rest s (k + 1)) 0 (k + 1) last := by
  obtain ⟨c, e1, e2⟩ := rest_cons h
  rw [e1, scanA_ws c _ k last (by omega)]
theorem sc_nl_t {s : ByteArray} {k : Nat} {d : List Tok} (h : k < s.size) (hc : byteAt s k = 10) (he : endsS d.getLast? = true) : app d (scanA (rest s k) 0 k d.getLast?) = app (d ++ [⟨6, [59], k⟩]) (scanA (rest s (k + 1)) 0 (k + 1) (d ++ [Tok.mk 6 [59] k]).getLast?) := by
  obtain ⟨c, e1, e2⟩ := rest_cons h
  rw [e1, scanA_nl_t c _ k _ (by omega) he, app_cons]; simp
theorem sc_nl_f {s : ByteArray} {k : Nat} {last : Option Tok} (h : k < s.size) (hc : byteAt s k = 10) (he : endsS last = false) : scanA (rest s k) 0 k last = scanA (rest s (k + 1)) 0 (k + 1) last := by
  obtain ⟨c, e1, e2⟩ := rest_cons h
  rw [e1, scanA_nl_f c _ k last (by omega) he]
theorem sc_com {s : ByteArray} {k : Nat} {last : Option Tok} (h : k < s.size) (hc : comL (rest s k) = true) : scanA (rest s k) 0 k last = scanA (rest s (k + overL (rest s k))) 0 (k + overL (rest s k)) last := by
  obtain ⟨c, e1, e2⟩ := rest_cons h
  have := rest_drop s k (overL (rest s k))
  rw [← this]
  rw [e1] at hc ⊢
  exact scanA_com c _ k last hc
theorem sc_tok {s : ByteArray} {k : Nat} {d : List Tok} (h : k < s.size) (h1 : byteAt s k ≠ 9) (h2 : byteAt s k ≠ 10) (h3 : byteAt s k ≠ 13) (h4 : byteAt s k ≠ 32) (hc : comL (rest s k) = false) :
    app d (scanA (rest s k) 0 k d.getLast?) = match tokS (rest s k) with | .bad e => .bad e k | .good kk t n => app (d ++ [⟨kk, t, k⟩]) (scanA (rest s (k + n)) 0 (k + n) (d ++ [Tok.mk kk t k]).getLast?) := by
  obtain ⟨c, e1, e2⟩ := rest_cons h
  have hdr : ∀ n, rest s (k + n) = (c :: rest s (k + 1)).drop n := fun n => by rw [← e1, rest_drop]
  rw [e1] at hc ⊢
  rw [scanA_tok c _ k _ (by omega) (by omega) hc]
  cases ht : tokS (c :: rest s (k + 1)) with
  | bad e => rfl
  | good kk t n => simp only; rw [app_cons, hdr n]; simp

/-- the two results -/
theorem res_r {w : World} {q : Nat} {v f0 f1 : Value} {tmps : Array Value} (hq : w.heap[q]? = some (.cells #[f0, f1] 26 (0, 0)))
    (h2 : tmps[2]?.getD undef = v) (h3 : tmps[3]?.getD undef = .pointer (some ⟨q, 0, none⟩)) : (results Tryz.f7 tmps).run Tryz.prog w = .ok (.tuple #[v, .agg #[f0, f1]]) w := by
  obtain ⟨b1, b2, _, _⟩ := cells2 hq
  simp [results, Tryz.results7, go_sem, h2, h3, b1, b2]
theorem tokens_long_r {s : ByteArray} {w : World} (hs : s.size ≤ 140737488351232) (hl : 65536 < s.size) :
    Calls Tryz.prog 7 #[.string s] w (TokensPost s w) := by
  have ht : toksS s.data.toList = .bad 3 0 := by unfold toksS; rw [if_pos (by simpa using hl)]
  have HT := Lib.hid ht; clear ht
  go_enter Tryz.func7, Tryz.ntmps7
  go_wp2
  try simp only [Exit.inBlock, Exit.then]
  refine bodyPost_ret (res_r (heap_alloc_new w _) rfl rfl) rfl ?_
  unfold TokensPost
  rw [HT.out]
  exact ⟨(Below.refl _ _).alloc (Nat.le_refl _) _, rfl⟩
theorem token_ok {s : ByteArray} {a k n : Nat} {t : List UInt8} {w : World} (hs : s.size ≤ 1000000) (ha : a < s.size) (h : tokS (rest s a) = .good k t n) :
    Calls Tryz.prog 22 #[.string s, .int .i64 (a : Int)] w fun e w' => e = .returned (.tuple #[.agg #[.int .u8 (k : Int), .string (bs t), .int .i64 (a : Int)], .int .i64 ((a + n : Nat) : Int), .int .i64 0]) ∧ Below w.heap.size w w' :=
  (token_r hs ha).mono fun e w' hp => by unfold TokR at hp; rw [h] at hp; exact ⟨hp.2, hp.1⟩
theorem token_no {s : ByteArray} {a x : Nat} {w : World} (hs : s.size ≤ 1000000) (ha : a < s.size) (h : tokS (rest s a) = .bad x) :
    Calls Tryz.prog 22 #[.string s, .int .i64 (a : Int)] w fun e w' => e = .returned (.tuple #[.agg #[.int .u8 0, .string { data := #[] }, .int .i64 0], .int .i64 0, .int .i64 (x : Int)]) ∧ Below w.heap.size w w' :=
  (token_r hs ha).mono fun e w' hp => by unfold TokR at hp; rw [h] at hp; exact ⟨hp.2, hp.1⟩
end Go.Proofs.YtopbhopblpfjpaaGreatDoor.RfD
