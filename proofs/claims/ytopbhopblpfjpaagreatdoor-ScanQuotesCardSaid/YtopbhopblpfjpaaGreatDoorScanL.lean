/- The scanner, walked whole. -/
import Derived.Test.YtopbhopblpfjpaaGreatDoorScanK
namespace Go.Proofs.YtopbhopblpfjpaaGreatDoor.ScanL
open Go.RowKit Go.Proofs.YtopbhopblpfjpaaGreatDoor.Lexy Go.Proofs.YtopbhopblpfjpaaGreatDoor.Heap Go.Proofs.YtopbhopblpfjpaaGreatDoor.Base Go.Proofs.YtopbhopblpfjpaaGreatDoor.Scany Go.Proofs.YtopbhopblpfjpaaGreatDoor.ScanA Go.Proofs.YtopbhopblpfjpaaGreatDoor.ScanB Go.Proofs.YtopbhopblpfjpaaGreatDoor.ScanC Go.Proofs.YtopbhopblpfjpaaGreatDoor.ScanD Go.Proofs.YtopbhopblpfjpaaGreatDoor.ScanE Go.Proofs.YtopbhopblpfjpaaGreatDoor.ScanF Go.Proofs.YtopbhopblpfjpaaGreatDoor.ScanG Go.Proofs.YtopbhopblpfjpaaGreatDoor.ScanH Go.Proofs.YtopbhopblpfjpaaGreatDoor.ScanI Go.Proofs.YtopbhopblpfjpaaGreatDoor.ScanJ Go.Proofs.YtopbhopblpfjpaaGreatDoor.ScanK

/-- what the lexer tells -/
def TokensPost (s : ByteArray) (w : World) (e : Ending) (w' : World) : Prop :=
  Below w.heap.size w w' ∧ match toksS s.data.toList with
    | .bad x p => e = .returned (.tuple #[.slice none 0 0, .agg #[.int .i64 (x : Int), .int .i64 (p : Int)]])
    | .good l => ∃ v, e = .returned (.tuple #[v, .agg #[.int .i64 0, .int .i64 0]]) ∧ w'.ownsRow w.heap.size 50 3 v l.length (cellsT l)

theorem app_nil (r : Res) : app [] r = r := by cases r <;> rfl
theorem app_app (d e : List Tok) (r : Res) : app d (app e r) = app (d ++ e) r := by cases r <;> simp [app]
theorem tokS_ok {l : List UInt8} {k n : Nat} {t : List UInt8} (h : tokS l = .good k t n) (a : Nat) : okT ⟨k, t, a⟩ := by
  intro hk
  have hk : k = 6 := hk
  subst hk
  show t ∈ signsS
  cases l with
  | nil => simp [tokS] at h
  | cons c r =>
    simp only [tokS] at h
    split at h
    · split at h
      · cases h
      · split at h <;> cases h
    · split at h
      · split at h
        · cases h
        · split at h <;> cases h
      · split at h
        · split at h <;> cases h
        · split at h
          · split at h <;> cases h
          · split at h
            · cases h
            · split at h
              · cases h
              · rename_i h5
                have := (firstL_pre signsS (c :: r) h5).1
                cases h
                exact this
/-- the fault of the token that begins here, if there is one -/
def badS : List UInt8 → Option Nat
  | [] => none
  | c :: r => if c.toNat = 10 ∨ c.toNat = 32 ∨ c.toNat = 9 ∨ c.toNat = 13 then none else if comL (c :: r) then none else match tokS (c :: r) with | .bad x => some x | .good _ _ _ => none
theorem badS_some {l : List UInt8} {x : Nat} (h : badS l = some x) (a : Nat) (last : Option Tok) : ∃ c r, l = c :: r ∧ c.toNat ≠ 10 ∧ c.toNat ≠ 32 ∧ c.toNat ≠ 9 ∧ c.toNat ≠ 13 ∧ comL l = false ∧ tokS l = .bad x ∧ scanA l 0 a last = .bad x a := by
  cases l with
  | nil => simp [badS] at h
  | cons c r =>
    simp only [badS] at h
    split at h
    · cases h
    · rename_i h1
      split at h
      · cases h
      · rename_i h2
        cases ht : tokS (c :: r) with
        | good k t n => rw [ht] at h; cases h
        | bad y =>
          rw [ht] at h; cases h
          refine ⟨c, r, rfl, by omega, by omega, by omega, by omega, by simpa using h2, rfl, ?_⟩
          rw [scanA_tok c r a last (by omega) (by omega) (by simpa using h2), ht]
theorem badS_none {c : UInt8} {r : List UInt8} (h : badS (c :: r) = none) (h1 : ¬ (c.toNat = 10 ∨ c.toNat = 32 ∨ c.toNat = 9 ∨ c.toNat = 13)) (h2 : comL (c :: r) = false) : ∃ k t n, tokS (c :: r) = .good k t n := by
  simp only [badS, if_neg h1, h2] at h
  cases ht : tokS (c :: r) with
  | good k t n => exact ⟨k, t, n, rfl⟩
  | bad y => rw [ht] at h; simp at h
/-- a token, by the scanner's step -/
theorem one_tok {b B0 H : Nat} {s : ByteArray} {a n : Nat} {l : Value} {xs : List Value} {w : World} (hG : Gl w H) (hHb : H ≤ b) (hr : Sc w b s a l) (hs : s.size ≤ 1000000) (ha : a < s.size) (hown : w.ownsRow B0 50 3 l n xs) (hn : n ≤ 1000000) (hbB : b < B0) (hB : B0 ≤ w.heap.size)
    (h10 : byteAt s a ≠ 10) (h32 : byteAt s a ≠ 32) (h9 : byteAt s a ≠ 9) (h13 : byteAt s a ≠ 13) (hcm : comL (rest s a) = false) :
    Calls Tryz.prog 19 #[.pointer (some ⟨b, 0, none⟩)] w (TokPost b B0 s a n xs w) := by
  by_cases h47 : byteAt s a = 47
  · refine one_tok_b hG hHb hr hs ha hown hn hbB hB rfl h47 rfl ?_
    intro e
    rw [com_rest, h47, e] at hcm
    simp at hcm
  · exact one_tok_a hG hHb hr hs ha hown hn hbB hB rfl h10 h32 h9 h13 h47
theorem one_bad {b B0 H x : Nat} {s : ByteArray} {a n : Nat} {l : Value} {xs : List Value} {w : World} (hG : Gl w H) (hHb : H ≤ b) (hr : Sc w b s a l) (hs : s.size ≤ 1000000) (ha : a < s.size) (hown : w.ownsRow B0 50 3 l n xs) (hn : n ≤ 1000000) (hbB : b < B0) (hB : B0 ≤ w.heap.size)
    (hx : badS (rest s a) = some x) :
    Calls Tryz.prog 19 #[.pointer (some ⟨b, 0, none⟩)] w fun e w' => e = .panicked (thrown x) ∧ KpB b B0 w w' := by
  obtain ⟨c, r, h1, h2, h3, h4, h5, h6, h7, h8⟩ := badS_some hx a none
  obtain ⟨c', h9, h10⟩ := rest_cons ha
  have hcc : c' = c := by rw [h9] at h1; cases h1; rfl
  subst hcc
  refine (one_tok hG hHb hr hs ha hown hn hbB hB (by omega) (by omega) (by omega) (by omega) h6).mono ?_
  intro e w' hp
  unfold TokPost at hp
  rw [h7] at hp
  exact hp
/-- one step that is no fault -/
theorem one_good {b B0 H : Nat} {s : ByteArray} {k : Nat} {l : Value} {d : List Tok} {w : World} (hG : Gl w H) (hHb : H ≤ b) (hr : Sc w b s k l) (hs : s.size ≤ 1000000) (hk : k < s.size) (hown : w.ownsRow B0 50 3 l d.length (cellsT d)) (hok : ∀ t, d.getLast? = some t → okT t) (hn : d.length ≤ 1000000) (hbB : b < B0) (hB : B0 ≤ w.heap.size)
    (hx : badS (rest s k) = none) :
    Calls Tryz.prog 19 #[.pointer (some ⟨b, 0, none⟩)] w fun e w' => e = .returned (.tuple #[]) ∧ KpB b B0 w w' ∧ ∃ k' l' dd, k < k' ∧ k' ≤ s.size ∧ dd.length ≤ 1 ∧
      scanA (rest s k) 0 k d.getLast? = app dd (scanA (rest s k') 0 k' (d ++ dd).getLast?) ∧ (∀ t, (d ++ dd).getLast? = some t → okT t) ∧ Sc w' b s k' l' ∧ w'.ownsRow B0 50 3 l' (d ++ dd).length (cellsT (d ++ dd)) := by
  obtain ⟨c, h1, h2⟩ := rest_cons hk
  by_cases h10 : c.toNat = 10
  · cases he : endsS d.getLast? with
    | true =>
      refine (one_nl_t hG hHb hr hs hk hown hok hn hbB hB he (h2.trans h10)).mono ?_
      rintro e w' ⟨rfl, hk2, l', hr2, ho2⟩
      refine ⟨rfl, hk2, k + 1, l', [⟨6, [59], k⟩], by omega, by omega, by simp, ?_, ?_, hr2, ho2⟩
      · rw [h1, scanA_nl_t _ _ _ _ h10 he]
        rw [← app_nil (Res.cons _ _), app_cons]; simp
      · intro t ht
        simp at ht; subst ht
        intro _; show [59] ∈ signsS; decide
    | false =>
      refine (one_nl_f hG hHb hr hs hk hown hok hn hbB hB he (h2.trans h10)).mono ?_
      rintro e w' ⟨rfl, hk2, hr2, ho2⟩
      exact ⟨rfl, hk2, k + 1, l, [], by omega, by omega, by simp, by rw [h1, scanA_nl_f _ _ _ _ h10 he, app_nil, List.append_nil], by simpa using hok, hr2, by simpa using ho2⟩
  · by_cases h32 : c.toNat = 32
    · refine (one_ws32 hr hs hk hown hbB (h2.trans h32)).mono ?_
      rintro e w' ⟨rfl, hk2, hr2, ho2⟩
      exact ⟨rfl, hk2, k + 1, l, [], by omega, by omega, by simp, by rw [h1, scanA_ws _ _ _ _ (.inl h32), app_nil, List.append_nil], by simpa using hok, hr2, by simpa using ho2⟩
    · by_cases h9 : c.toNat = 9
      · refine (one_ws9 hr hs hk hown hbB (h2.trans h9)).mono ?_
        rintro e w' ⟨rfl, hk2, hr2, ho2⟩
        exact ⟨rfl, hk2, k + 1, l, [], by omega, by omega, by simp, by rw [h1, scanA_ws _ _ _ _ (.inr (.inl h9)), app_nil, List.append_nil], by simpa using hok, hr2, by simpa using ho2⟩
      · by_cases h13 : c.toNat = 13
        · refine (one_ws13 hr hs hk hown hbB (h2.trans h13)).mono ?_
          rintro e w' ⟨rfl, hk2, hr2, ho2⟩
          exact ⟨rfl, hk2, k + 1, l, [], by omega, by omega, by simp, by rw [h1, scanA_ws _ _ _ _ (.inr (.inr h13)), app_nil, List.append_nil], by simpa using hok, hr2, by simpa using ho2⟩
        · cases hcm : comL (rest s k) with
          | true =>
            have hov := overL_pos _ hcm
            have hol := overL_le (rest s k)
            rw [rest_len] at hol
            have hb : byteAt s k = 47 ∧ byteAt s (k + 1) = 47 := by
              have := hcm
              rw [com_rest] at this
              simpa using this
            refine (one_com hr hs hk hown hbB hb.1 hb.2).mono ?_
            rintro e w' ⟨rfl, hk2, hr2, ho2⟩
            refine ⟨rfl, hk2, k + overL (rest s k), l, [], by omega, by omega, by simp, ?_, by simpa using hok, hr2, by simpa using ho2⟩
            have hc := scanA_com c (rest s (k + 1)) k d.getLast? (by rw [← h1]; exact hcm)
            rw [← h1, rest_drop] at hc
            rw [hc, app_nil, List.append_nil]
          | false =>
            have hx2 := hx
            rw [h1] at hx2
            obtain ⟨kk, t, n, ht⟩ := badS_none hx2 (by omega) (by rw [← h1]; exact hcm)
            rw [← h1] at ht
            have hnl := tokS_le _ _ _ _ ht
            rw [rest_len] at hnl
            refine (one_tok hG hHb hr hs hk hown hn hbB hB (by omega) (by omega) (by omega) (by omega) hcm).mono ?_
            intro e w' hp
            unfold TokPost at hp
            rw [ht] at hp
            obtain ⟨rfl, l', hr2, ho2, hk2⟩ := hp
            refine ⟨rfl, hk2, k + n, l', [⟨kk, t, k⟩], by omega, by omega, by simp, ?_, ?_, hr2, ?_⟩
            · have hc := scanA_tok c (rest s (k + 1)) k d.getLast? h10 (by omega) (by rw [← h1]; exact hcm)
              rw [← h1, ht] at hc
              rw [hc]
              simp only
              rw [← app_nil (Res.cons _ _), app_cons, rest_drop]; simp
            · intro t' ht'
              simp at ht'; subst ht'
              exact tokS_ok ht k
            · rw [cellsT_snoc, List.length_append]; exact ho2

/-- what a line's end puts in -/
def endD (d : List Tok) (a : Nat) : List Tok := if endsS d.getLast? then [⟨6, [59], a⟩] else []
theorem end_all {b B0 H : Nat} {s : ByteArray} {a : Nat} {l : Value} {d : List Tok} {w : World} (hG : Gl w H) (hHb : H ≤ b) (hr : Sc w b s a l) (hown : w.ownsRow B0 50 3 l d.length (cellsT d)) (hok : ∀ t, d.getLast? = some t → okT t) (hn : d.length ≤ 1000000) (hbB : b < B0) (hB : B0 ≤ w.heap.size) :
    Calls Tryz.prog 20 #[.pointer (some ⟨b, 0, none⟩)] w fun e w' => e = .returned (.tuple #[]) ∧ KpB b B0 w w' ∧ ∃ l', Sc w' b s a l' ∧ w'.ownsRow B0 50 3 l' (d ++ endD d a).length (cellsT (d ++ endD d a)) := by
  cases he : endsS d.getLast? with
  | true =>
    refine (end_yes hG hHb hr hown hok hn hbB hB he).mono ?_
    rintro e w' ⟨h1, h2, l', h3, h4⟩
    exact ⟨h1, h2, l', h3, by simpa [endD, he] using h4⟩
  | false =>
    refine (end_no hG hHb hr hown hok hn hbB hB he).mono ?_
    rintro e w' ⟨h1, h2, h3, h4⟩
    exact ⟨h1, h2, l, h3, by simpa [endD, he] using h4⟩
theorem scanA_end (a : Nat) (d : List Tok) : app d (scanA [] 0 a d.getLast?) = .good ((d ++ endD d a) ++ [⟨7, [], a⟩]) := by
  unfold endD
  cases he : endsS d.getLast? <;> simp [scanA, he, app]

theorem own_base {w : World} {base base' e size : Nat} {l : Value} {n : Nat} {xs : List Value} (h : w.ownsRow base e size l n xs) (hb : base' ≤ base) : w.ownsRow base' e size l n xs :=
  ⟨h.1, h.2.imp id fun ⟨g, cap, cur, hv, hg, r⟩ => ⟨g, cap, cur, hv, Nat.le_trans hb hg, r⟩⟩
/-- the two results, read out of their variables -/
theorem res_tokens {w : World} {H q : Nat} {v f0 f1 : Value} {tmps : Array Value} (hH : w.heap[H]? = some (.cells #[v] 23 (0, 0))) (hq : w.heap[q]? = some (.cells #[f0, f1] 26 (0, 0)))
    (h2 : tmps[2]?.getD undef = .pointer (some ⟨H, 0, none⟩)) (h3 : tmps[3]?.getD undef = .pointer (some ⟨q, 0, none⟩)) : (results Tryz.f6 tmps).run Tryz.prog w = .ok (.tuple #[v, .agg #[f0, f1]]) w := by
  obtain ⟨a1, _⟩ := cells1 hH
  obtain ⟨b1, b2, _, _⟩ := cells2 hq
  simp [results, Tryz.results6, go_sem, h2, h3, a1, b1, b2]

theorem tokens_long {s : ByteArray} {w : World} (hs : s.size ≤ 140737488351232) (hl : 65536 < s.size) :
    Calls Tryz.prog 6 #[.string s] w (TokensPost s w) := by
  have ht : toksS s.data.toList = .bad 3 0 := by unfold toksS; rw [if_pos (by simpa using hl)]
  have HT := Lib.hid ht; clear ht
  go_enter_defers Tryz.func6, Tryz.ntmps6
  go_wp2
  have hb := ((Below.refl w.heap.size w).alloc (Nat.le_refl _) (.cells #[.slice none 0 0] 23)).alloc (by simp) (.cells #[.int .i64 3, .int .i64 0] 26)
  refine ⟨.tuple #[.slice none 0 0, .agg #[.int .i64 3, .int .i64 0]], by simp [results, Tryz.results6, go_sem], hb, ?_⟩
  rw [HT.out]; rfl

set_option maxRecDepth 100000 in
set_option maxHeartbeats 4000000 in
theorem tokens_short {s : ByteArray} {w : World} (hs : s.size ≤ 65536) (hG : Gl w w.heap.size) :
    Calls Tryz.prog 6 #[.string s] w (TokensPost s w) := by
  have hmf : ∀ (fn : Fn) (first cap : Array Value) (w : World), (Instr.makeFunc fn first cap).run Tryz.prog w = .ok (.func fn first cap) w := fun _ _ _ _ => rfl
  go_enter_defers Tryz.func6, Tryz.ntmps6
  go_wp2_with fail
  have hW1 : ((((w.alloc (.cells #[.slice none 0 0] 23)).alloc (.cells #[.int .i64 0, .int .i64 0] 26)).alloc (.cells #[.string s, .int .i64 0, .slice none 0 0] 44)).alloc (.cells #[.int .i64 0] 3)).heap[w.heap.size]? = some (.cells #[.slice none 0 0] 23 (0, 0)) := by
    rw [Below.heap_alloc _ _ _ (by simp <;> omega), Below.heap_alloc _ _ _ (by simp <;> omega), Below.heap_alloc _ _ _ (by simp <;> omega)]; exact heap_alloc_new w _
  have hW2 : ((((w.alloc (.cells #[.slice none 0 0] 23)).alloc (.cells #[.int .i64 0, .int .i64 0] 26)).alloc (.cells #[.string s, .int .i64 0, .slice none 0 0] 44)).alloc (.cells #[.int .i64 0] 3)).heap[w.heap.size + 1]? = some (.cells #[.int .i64 0, .int .i64 0] 26 (0, 0)) := by
    rw [Below.heap_alloc _ _ _ (by simp <;> omega), Below.heap_alloc _ _ _ (by simp <;> omega)]
    have := heap_alloc_new (w.alloc (.cells #[.slice none 0 0] 23)) (.cells #[.int .i64 0, .int .i64 0] 26)
    simpa using this
  have hW3 : Sc ((((w.alloc (.cells #[.slice none 0 0] 23)).alloc (.cells #[.int .i64 0, .int .i64 0] 26)).alloc (.cells #[.string s, .int .i64 0, .slice none 0 0] 44)).alloc (.cells #[.int .i64 0] 3)) (w.heap.size + 1 + 1) s 0 (.slice none 0 0) := by
    show ((((w.alloc (.cells #[.slice none 0 0] 23)).alloc (.cells #[.int .i64 0, .int .i64 0] 26)).alloc (.cells #[.string s, .int .i64 0, .slice none 0 0] 44)).alloc (.cells #[.int .i64 0] 3)).heap[w.heap.size + 1 + 1]? = _
    rw [Below.heap_alloc _ _ _ (by simp)]
    have := heap_alloc_new ((w.alloc (.cells #[.slice none 0 0] 23)).alloc (.cells #[.int .i64 0, .int .i64 0] 26)) (.cells #[.string s, .int .i64 0, .slice none 0 0] 44)
    simpa using this
  have hW4 : ((((w.alloc (.cells #[.slice none 0 0] 23)).alloc (.cells #[.int .i64 0, .int .i64 0] 26)).alloc (.cells #[.string s, .int .i64 0, .slice none 0 0] 44)).alloc (.cells #[.int .i64 0] 3)).heap[w.heap.size + 1 + 1 + 1]? = some (.cells #[.int .i64 0] 3 (0, 0)) := by
    have := heap_alloc_new (((w.alloc (.cells #[.slice none 0 0] 23)).alloc (.cells #[.int .i64 0, .int .i64 0] 26)).alloc (.cells #[.string s, .int .i64 0, .slice none 0 0] 44)) (.cells #[.int .i64 0] 3)
    simpa using this
  have hW5 : Below w.heap.size w ((((w.alloc (.cells #[.slice none 0 0] 23)).alloc (.cells #[.int .i64 0, .int .i64 0] 26)).alloc (.cells #[.string s, .int .i64 0, .slice none 0 0] 44)).alloc (.cells #[.int .i64 0] 3)) := ((((Below.refl w.heap.size w).alloc (Nat.le_refl _) _).alloc (by simp <;> omega) _).alloc (by simp <;> omega) _).alloc (by simp <;> omega) _
  have hW6 : w.heap.size + 1 + 1 + 1 < ((((w.alloc (.cells #[.slice none 0 0] 23)).alloc (.cells #[.int .i64 0, .int .i64 0] 26)).alloc (.cells #[.string s, .int .i64 0, .slice none 0 0] 44)).alloc (.cells #[.int .i64 0] 3)).heap.size := by simp
  have o1 : w.heap.size < w.heap.size + 1 := by omega
  have o2 : w.heap.size + 1 < w.heap.size + 1 + 1 := by omega
  have o3 : w.heap.size + 1 + 1 < w.heap.size + 1 + 1 + 1 := by omega
  have HH := Lib.hid (show w.heap.size = w.heap.size from rfl)
  have hpost : ∀ e w', TokensPost s w e w' → TokensPost s w e w' := fun _ _ h => h
  generalize ((((w.alloc (.cells #[.slice none 0 0] 23)).alloc (.cells #[.int .i64 0, .int .i64 0] 26)).alloc (.cells #[.string s, .int .i64 0, .slice none 0 0] 44)).alloc (.cells #[.int .i64 0] 3)) = W at *
  generalize hH : w.heap.size = H at *
  generalize H + 1 = q at *
  generalize q + 1 = b at *
  generalize b + 1 = g at *
  clear HH
  have HH := Lib.hid hH; clear hH
  have hbg : b ≠ g := by omega
  have hgb : g ≠ b := by omega
  go_loopg [] s.size (fun gk wr => ∃ (k : Nat) (l : Value) (d : List Tok), k ≤ s.size ∧ gk = s.size - k ∧ scanA (rest s 0) 0 0 none = app d (scanA (rest s k) 0 k d.getLast?) ∧ d.length ≤ k ∧ (∀ t, d.getLast? = some t → okT t) ∧ Sc wr b s k l ∧ wr.ownsRow (g + 1) 50 3 l d.length (cellsT d) ∧
    wr.heap[H]? = some (.cells #[.slice none 0 0] 23 (0, 0)) ∧ wr.heap[q]? = some (.cells #[.int .i64 0, .int .i64 0] 26 (0, 0)) ∧ (∃ x : Int, wr.heap[g]? = some (.cells #[.int .i64 x] 3 (0, 0))) ∧ g < wr.heap.size ∧ Below H w wr)
  case atStart => exact ⟨0, .slice none 0 0, [], by omega, by omega, by simp [app]; cases scanA (rest s 0) 0 0 none <;> rfl, by simp, by simp, hW3, World.ownsRow_nil _ _ _ _, hW1, hW2, ⟨0, hW4⟩, hW6, hW5⟩
  case round =>
    clear hW1 hW2 hW3 hW4 hW5 hW6
    obtain ⟨k, l, d, hk2, rfl, hsp, hdk, hok, hrk, hown, hr1, hr2, ⟨x, hr3⟩, hgs, hbel⟩ := hrel
    have hGr := hG.below hbel
    have HS := Lib.hid hsp; have HO := Lib.hid hok; clear hsp hok hG
    obtain ⟨y1, y2⟩ := cells1 hr3
    have R1 := Lib.hid hr1; have R2 := Lib.hid hr2; have R3 := Lib.hid hr3; clear hr1 hr2 hr3
    have c0 := hrk.c0; have c1 := hrk.c1; have f1 := hrk.fr 1
    have ng : l.ownBlock ≠ some g := fun e => by have := (hown.lt _ e).1; omega
    have nb : l.ownBlock ≠ some b := fun e => by have := (hown.lt _ e).1; omega
    by_cases hlt : k < s.size
    case neg =>
      obtain rfl : s.size = k := by omega
      have j2 : decide (s.size < s.size) = false := by simp
      have hfin : toksS s.data.toList = .good ((d ++ endD d s.size) ++ [⟨7, [], s.size⟩]) := by
        unfold toksS
        rw [if_neg (by simp; omega), ← rest_zero, HS.out, (rest_nil (Nat.le_refl _)).1]
        exact scanA_end _ _
      have HFIN := Lib.hid hfin; clear hfin
      have HGR := Lib.hid hGr; clear hGr
      go_wp2
      go_region
      go_wp2_with fail
      refine (end_all (B0 := g + 1) (HGR.out.drewN 1) (by omega) (hrk.drewN 1) (own_drewN hown 1) HO.out (by omega) (by omega) hgs).mono ?_
      rintro e w2 ⟨rfl, hk2', l', hr2, ho2⟩
      have hnL : (d ++ endD d s.size).length ≤ 1000000 := by have : (endD d s.size).length ≤ 1 := by (unfold endD; split <;> simp)
                                                             simp; omega
      have z0 : w2.heap[H]? = _ := (hk2'.block H (by simp; omega) (by omega) (by omega)).trans R1.out
      have zq : w2.heap[q]? = _ := (hk2'.block q (by simp; omega) (by omega) (by omega)).trans R2.out
      have z9 : Below H w w2 := (hbel.drewN 1).trans (hk2'.below (by omega) (by omega) (by simp; omega))
      have z8 : g + 1 ≤ w2.heap.size := Nat.le_trans hgs hk2'.size
      clear hrk hown R1 R2 R3 hbel y1 y2 c0 c1 f1 HGR hk2' ng nb
      generalize d ++ endD d s.size = L at *
      have c1 := hr2.c1; have c2 := hr2.c2
      have hbw := hr2.lt
      have e1 : ∀ o, (w2.alloc o).cell? ⟨b, 1, none⟩ = some (.int .i64 (s.size : Int)) := fun o => (World.cell?_alloc_past _ _ _ hbw).trans c1
      have e2 : ∀ o, (w2.alloc o).cell? ⟨b, 2, none⟩ = some l' := fun o => (World.cell?_alloc_past _ _ _ hbw).trans c2
      obtain ⟨z1, z2⟩ := cells1 z0
      obtain ⟨z3, z4, z5, z6⟩ := cells2 zq
      have Z0 := Lib.hid z0; have ZQ := Lib.hid zq; clear z0 zq
      have nH : ¬ some H = l'.ownBlock := fun e => by have := (ho2.lt _ e.symm).1; omega
      have nq : ¬ some q = l'.ownBlock := fun e => by have := (ho2.lt _ e.symm).1; omega
      have hHs : H < w2.heap.size := by omega
      have hqs : q < w2.heap.size := by omega
      obtain ⟨i0, hi0, hz0, hz1, hz2⟩ := info_parts tokInfo
      go_wp2
      refine wp_region_noPanic ?_
      go_region_law (((refine step_append_lies _ (by rfl) _ _ _ (by rfl) (g + 1) 50 i0 _ 3 32 Tryz.underlying23 hi0 hz0 hz1 hz2 rfl (by omega) l' L.length (cellsT L) (by rfl) ((ho2.alloc _).drew) ⟨w2.heap.size, 0, none⟩ 1 1 [.int .u8 7, .string { data := #[] }, .int .i64 (s.size : Int)] (by rfl) (by rfl) (World.news_of_block (cs := #[.int .u8 7, .string { data := #[] }, .int .i64 (s.size : Int)]) (t := 50) (fr := (0, 0)) (heap_alloc_new w2 _)) (by simp [Value.oneCell']) (by omega) (by unfold maxLen; omega) (by omega) (by simp; omega) (w2.heap.size + 1) (by simp) ?_; intro gg cap w1 hown1 hgrow hat hlt2; have a1 : w1.cell? ⟨H, 0, none⟩ = some (.slice none 0 0) := (by rw [hgrow.cell_far _ (by simp; omega) nH]; exact (World.cell?_alloc_past _ _ _ hHs).trans z1); have a2 : w1.frozen? ⟨H, 0, none⟩ = false := (by rw [hgrow.frozen_far _ (by simp; omega) nH]; exact (World.frozen?_of_block (Below.heap_alloc _ _ _ hHs)).trans z2); have a3 : w1.cell? ⟨q, 0, none⟩ = some (.int .i64 0) := (by rw [hgrow.cell_far _ (by simp; omega) nq]; exact (World.cell?_alloc_past _ _ _ hqs).trans z3); have a4 : w1.cell? ⟨q, 1, none⟩ = some (.int .i64 0) := (by rw [hgrow.cell_far _ (by simp; omega) nq]; exact (World.cell?_alloc_past _ _ _ hqs).trans z4); have a5 : w1.frozen? ⟨q, 0, none⟩ = false := (by rw [hgrow.frozen_far _ (by simp; omega) nq]; exact (World.frozen?_of_block (Below.heap_alloc _ _ _ hqs)).trans z5); have a6 : w1.frozen? ⟨q, 1, none⟩ = false := (by rw [hgrow.frozen_far _ (by simp; omega) nq]; exact (World.frozen?_of_block (Below.heap_alloc _ _ _ hqs)).trans z6))))
      all_goals
        refine NoPanic.normal ?_
        try go_wp2
        have w1H : w1.heap[H]? = some (.cells #[.slice none 0 0] 23 (0, 0)) := ((hgrow.block H (by simp; omega) nH).trans (Below.heap_alloc _ _ _ hHs)).trans Z0.out
        have w1q : w1.heap[q]? = some (.cells #[.int .i64 0, .int .i64 0] 26 (0, 0)) := ((hgrow.block q (by simp; omega) nq).trans (Below.heap_alloc _ _ _ hqs)).trans ZQ.out
        have hqH : q ≠ H := by omega
        have hHq : H ≠ q := by omega
        have f1 := heap_setCell_same w1 H 0 _ _ (.slice (some ⟨gg, 0, none⟩) (L.length + 1) cap) w1H
        have f2 : (w1.setCell ⟨H, 0, none⟩ (.slice (some ⟨gg, 0, none⟩) (L.length + 1) cap)).heap[q]? = _ := (Below.heap_setCell _ _ _ _ hqH).trans w1q
        have f3 := heap_setCell_same _ q 0 _ _ (.int .i64 0) f2
        have f4 := heap_setCell_same _ q 1 _ _ (.int .i64 0) f3
        have f5 := ((Below.heap_setCell _ ⟨q, 1, none⟩ (.int .i64 0) H hHq).trans (Below.heap_setCell _ ⟨q, 0, none⟩ (.int .i64 0) H hHq)).trans f1
        have hbf : Below H w w1 := (((z9.alloc (by omega) (.cells #[.int .u8 7, .string { data := #[] }, .int .i64 (s.size : Int)] 50))).drew).grown hgrow (by simp; omega) (fun j hj => by have := (ho2.lt _ hj).1; omega)
        have hgH : (Value.slice (some ⟨gg, 0, none⟩) (L.length + 1) cap).ownBlock ≠ some H := by have := (hown1.lt gg rfl).1; simp [Value.ownBlock]; omega
        have hgq : (Value.slice (some ⟨gg, 0, none⟩) (L.length + 1) cap).ownBlock ≠ some q := by have := (hown1.lt gg rfl).1; simp [Value.ownBlock]; omega
        have hof := own_base (own_set (own_set (own_set hown1 hgH 0 (.slice (some ⟨gg, 0, none⟩) (L.length + 1) cap)) hgq 0 (.int .i64 0)) hgq 1 (.int .i64 0)) (show H ≤ g + 1 by omega)
        refine leaves_cons (f := 18) (args := #[.pointer (some ⟨g, 0, none⟩), .pointer (some ⟨H, 0, none⟩), .pointer (some ⟨q, 0, none⟩)]) (by simp) (by simp [go_sem]) ?_
        refine (catch_idle _ _ _ _).mono ?_
        rintro e u' w3 ⟨rfl, rfl, rfl⟩
        refine ⟨_, res_tokens f5 f4 rfl rfl, ?_⟩
        unfold TokensPost
        rw [HFIN.out, HH.out]
        refine ⟨((hbf.setCell (by simp) _).setCell (by simp; omega) _).setCell (by simp; omega) _, _, rfl, ?_⟩
        rw [cellsT_snoc, List.length_append]
        exact hof
    case pos =>
      have j1 : (k : Int) < (s.size : Int) := by omega
      have HGR := Lib.hid hGr; clear hGr
      go_wp2
      go_region
      go_wp2_with fail
      have x1 : Sc ((wr.setCell ⟨g, 0, none⟩ (.int .i64 (k : Int))).drew) b s k l := (hrk.other hbg 0 _).drewN 1
      have x2 : World.ownsRow ((wr.setCell ⟨g, 0, none⟩ (.int .i64 (k : Int))).drew) (g + 1) 50 3 l d.length (cellsT d) := own_drewN (own_set hown ng 0 _) 1
      have x3 : ((wr.setCell ⟨g, 0, none⟩ (.int .i64 (k : Int))).drew).heap[H]? = _ := (Below.heap_setCell _ _ _ _ (by simp; omega)).trans R1.out
      have x4 : ((wr.setCell ⟨g, 0, none⟩ (.int .i64 (k : Int))).drew).heap[q]? = _ := (Below.heap_setCell _ _ _ _ (by simp; omega)).trans R2.out
      have x5 : ((wr.setCell ⟨g, 0, none⟩ (.int .i64 (k : Int))).drew).heap[g]? = some (.cells #[.int .i64 (k : Int)] 3 (0, 0)) := heap_setCell_same wr g 0 _ _ _ R3.out
      have x6 : g < ((wr.setCell ⟨g, 0, none⟩ (.int .i64 (k : Int))).drew).heap.size := by simpa [World.setCell] using hgs
      have x7 : Below H w ((wr.setCell ⟨g, 0, none⟩ (.int .i64 (k : Int))).drew) := (hbel.setCell (by simp; omega) _).drew
      have x8 : Gl ((wr.setCell ⟨g, 0, none⟩ (.int .i64 (k : Int))).drew) H := HGR.out.below (((Below.refl H wr).setCell (by simp; omega) _).drew)
      generalize ((wr.setCell ⟨g, 0, none⟩ (.int .i64 (k : Int))).drew) = W2 at *
      clear hrk hown R1 R2 R3 hgs hbel y1 y2 c0 c1 f1 HGR
      cases hbad : badS (rest s k) with
      | none =>
        refine (one_good (B0 := g + 1) x8 (by omega) x1 (by omega) hlt x2 HO.out (by omega) (by omega) x6 hbad).mono ?_
        rintro e w2 ⟨rfl, hk2', k', l', dd, hk3, hk4, hdd, hsc, hok', hr2, ho2⟩
        have HSC := Lib.hid hsc; have HOK := Lib.hid hok'; clear hsc hok'
        go_wp2
        go_roundg (s.size - k')
        case measure => omega
        case rel =>
          refine ⟨k', l', d ++ dd, by omega, rfl, ?_, by simp; omega, HOK.out, hr2, ho2, (hk2'.block H (by omega) (by omega) (by omega)).trans x3, (hk2'.block q (by omega) (by omega) (by omega)).trans x4, ⟨_, (hk2'.block g x6 (by omega) (by omega)).trans x5⟩, Nat.lt_of_lt_of_le x6 hk2'.size,
              x7.trans (hk2'.below (by omega) (by omega) (by omega))⟩
          rw [HS.out, HSC.out, app_app]
      | some x =>
        have HB := Lib.hid hbad
        refine (one_bad (B0 := g + 1) x8 (by omega) x1 (by omega) hlt x2 (by omega) (by omega) x6 hbad).mono ?_
        rintro e w2 ⟨rfl, hk2'⟩
        have hfin : toksS s.data.toList = .bad x k := by
          obtain ⟨_, _, _, _, _, _, _, _, _, h8⟩ := badS_some HB.out k d.getLast?
          unfold toksS
          rw [if_neg (by simp; omega), ← rest_zero, HS.out, h8]; rfl
        refine leaves_cons (f := 18) (args := #[.pointer (some ⟨g, 0, none⟩), .pointer (some ⟨H, 0, none⟩), .pointer (some ⟨q, 0, none⟩)]) (by simp) (by simp [go_sem]) ?_
        refine (catch_thrown (B := H) ((hk2'.block g x6 (by omega) (by omega)).trans x5) ((hk2'.block H (by omega) (by omega) (by omega)).trans x3) ((hk2'.block q (by omega) (by omega) (by omega)).trans x4) (by omega) (by omega) (by omega) (Nat.le_refl _) (by omega)).mono ?_
        rintro e u' w3 ⟨rfl, rfl, h1, h2, h3⟩
        refine ⟨_, res_tokens h1 h2 rfl rfl, ?_⟩
        unfold TokensPost
        rw [hfin, HH.out]
        exact ⟨(x7.trans (hk2'.below (by omega) (by omega) (by omega))).trans h3, rfl⟩

/-- THE SCANNER: what it tells of any source -/
theorem tokens_any {s : ByteArray} {w : World} (hs : s.size ≤ 140737488351232) (hG : Gl w w.heap.size) :
    Calls Tryz.prog 6 #[.string s] w (TokensPost s w) := by
  by_cases h : s.size ≤ 65536
  · exact tokens_short h hG
  · exact tokens_long hs (by omega)
end Go.Proofs.YtopbhopblpfjpaaGreatDoor.ScanL
