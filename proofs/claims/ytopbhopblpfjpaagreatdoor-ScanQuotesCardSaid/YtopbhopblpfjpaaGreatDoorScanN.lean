/- The law's small helpers over the scanner, walked: fault, texts, awake. -/
import Derived.Test.YtopbhopblpfjpaaGreatDoorScanM
namespace Go.Proofs.YtopbhopblpfjpaaGreatDoor.ScanN
open Go.RowKit Go.Proofs.YtopbhopblpfjpaaGreatDoor.Lexy Go.Proofs.YtopbhopblpfjpaaGreatDoor.Heap Go.Proofs.YtopbhopblpfjpaaGreatDoor.Base Go.Proofs.YtopbhopblpfjpaaGreatDoor.Scany Go.Proofs.YtopbhopblpfjpaaGreatDoor.ScanA Go.Proofs.YtopbhopblpfjpaaGreatDoor.ScanB Go.Proofs.YtopbhopblpfjpaaGreatDoor.ScanC Go.Proofs.YtopbhopblpfjpaaGreatDoor.ScanD Go.Proofs.YtopbhopblpfjpaaGreatDoor.ScanE Go.Proofs.YtopbhopblpfjpaaGreatDoor.ScanH Go.Proofs.YtopbhopblpfjpaaGreatDoor.ScanI Go.Proofs.YtopbhopblpfjpaaGreatDoor.ScanL Go.Proofs.YtopbhopblpfjpaaGreatDoor.ScanM

theorem scanA_ne (l : List UInt8) : ∀ k a last ts, scanA l k a last = .good ts → 0 < ts.length := by
  induction l with
  | nil =>
    intro k a last ts h
    cases k with
    | zero => simp only [scanA] at h; split at h <;> (cases h; simp)
    | succ k => simp only [scanA] at h; split at h <;> (cases h; simp)
  | cons c r ih =>
    intro k a last ts h
    cases k with
    | succ k => simp only [scanA] at h; exact ih _ _ _ _ h
    | zero =>
      simp only [scanA] at h
      split at h
      · split at h
        · cases hx : scanA r 0 (a + 1) (some ⟨6, [59], a⟩) with
          | bad x p => rw [hx] at h; cases h
          | good m => rw [hx] at h; cases h; simp
        · exact ih _ _ _ _ h
      · split at h
        · exact ih _ _ _ _ h
        · split at h
          · exact ih _ _ _ _ h
          · split at h
            · cases h
            · rename_i k t n _
              cases hx : scanA r (n - 1) (a + 1) (some ⟨k, t, a⟩) with
              | bad x p => rw [hx] at h; cases h
              | good m => rw [hx] at h; cases h; simp
theorem toks_ne {s : List UInt8} {l : List Tok} (h : toksS s = .good l) : 0 < l.length := by
  unfold toksS at h
  split at h
  · cases h
  · exact scanA_ne _ _ _ _ _ h
theorem tokens_bad {s : ByteArray} {w : World} {x p : Nat} (hs : s.size ≤ 140737488351232) (hG : Gl w w.heap.size) (ht : toksS s.data.toList = .bad x p) :
    Calls Tryz.prog 6 #[.string s] w fun e w' => e = .returned (.tuple #[.slice none 0 0, .agg #[.int .i64 (x : Int), .int .i64 (p : Int)]]) ∧ Below w.heap.size w w' :=
  (tokens_any hs hG).mono fun e w' h => by unfold TokensPost at h; rw [ht] at h; exact ⟨h.2, h.1⟩
theorem tokens_good {s : ByteArray} {w : World} {l : List Tok} (hs : s.size ≤ 140737488351232) (hG : Gl w w.heap.size) (ht : toksS s.data.toList = .good l) :
    Calls Tryz.prog 6 #[.string s] w fun e w' => ∃ g cap, e = .returned (.tuple #[.slice (some ⟨g, 0, none⟩) l.length cap, .agg #[.int .i64 0, .int .i64 0]]) ∧ w.heap.size ≤ g ∧ g < w'.heap.size ∧ l.length ≤ cap ∧ cap ≤ maxLen ∧ IsToks w' g l ∧ Below w.heap.size w w' :=
  (tokens_any hs hG).mono fun e w' h => by
    unfold TokensPost at h; rw [ht] at h
    obtain ⟨hb, v, rfl, hown⟩ := h
    obtain ⟨g, cap, rfl, h1, h2, h3, h4, h5⟩ := toks_of_own hown (toks_ne ht)
    exact ⟨g, cap, rfl, h1, h2, h3, h4, h5, hb⟩
theorem _root_.Go.Proofs.YtopbhopblpfjpaaGreatDoor.ScanB.Gl.up {w : World} {H H' : Nat} (h : Gl w H) (hH : H ≤ H') : Gl w H' := ⟨⟨Nat.lt_of_lt_of_le h.1.1 hH, Nat.lt_of_lt_of_le h.1.2 hH⟩, h.2⟩
theorem _root_.Go.Proofs.YtopbhopblpfjpaaGreatDoor.ScanB.Gl.at {w w' : World} (h : Gl w w.heap.size) (hb : Below w.heap.size w w') : Gl w' w'.heap.size := (h.below hb).up hb.size

set_option maxHeartbeats 1000000 in
theorem fault_any {s : ByteArray} {w : World} {x p : Nat} (hs : s.size ≤ 140737488351232) (hG : Gl w w.heap.size) (ht : toksS s.data.toList = .bad x p) :
    Calls Tryz.prog 17 #[.string s, .int .i64 (x : Int), .int .i64 (p : Int)] w fun e w' => e = .returned (.bool true) ∧ Below w.heap.size w w' := by
  have HT := Lib.hid ht; clear ht
  go_enter Tryz.func17, Tryz.ntmps17
  go_wp2_with (go_at_call 6; refine (tokens_bad hs hG HT.out).mono ?_; rintro e w1 ⟨rfl, hb⟩)
  go_ret
  exact ⟨rfl, hb.alloc hb.size _⟩
/-- texts, a blank behind each -/
def textsL (l : List Tok) : List UInt8 := l.flatMap fun t => t.text ++ [32]
theorem texts_take (l : List Tok) (k : Nat) (hk : k < l.length) : textsL (l.take (k + 1)) = textsL (l.take k) ++ ((tk l k).text ++ [32]) := by
  have e : l.take (k + 1) = l.take k ++ [tk l k] := by
    rw [List.take_succ_eq_append_getElem hk]
    congr 2
    simp [tk, List.getD_eq_getElem?_getD, List.getElem?_eq_getElem hk]
  rw [e]; simp [textsL]
theorem bs_app (a b : List UInt8) : bs a ++ bs b = bs (a ++ b) := by
  apply ByteArray.ext; simp [bs]
set_option maxHeartbeats 1000000 in
theorem texts_any {s : ByteArray} {w : World} {l : List Tok} (hs : s.size ≤ 140737488351232) (hG : Gl w w.heap.size) (ht : toksS s.data.toList = .good l) (hl : l.length ≤ 1000) (hx : ∀ k, (textsL (l.take k)).length ≤ 1000000) :
    Calls Tryz.prog 16 #[.string s] w fun e w' => e = .returned (.string (bs (textsL l))) ∧ Below w.heap.size w w' := by
  have HT := Lib.hid ht; clear ht
  have HX := Lib.hid hx; clear hx
  go_enter Tryz.func16, Tryz.ntmps16
  go_wp2_with (go_at_call 6; refine (tokens_good hs hG HT.out).mono ?_; rintro e w1 ⟨g, cap, rfl, hg1, hg2, hg3, hg4, hg5, hb⟩)
  have hz := hb.size
  have hB := hb.alloc hz (.cells #[.int .i64 0, .int .i64 0] 26)
  have hT : IsToks (w1.alloc (.cells #[.int .i64 0, .int .i64 0] 26)) g l := hg5.below ((Below.refl w1.heap.size w1).alloc (Nat.le_refl _) _) hg2
  obtain ⟨z3, z4, z5, z6⟩ := cells2 (heap_alloc_new w1 (.cells #[.int .i64 0, .int .i64 0] 26))
  clear hb hg5 hG
  generalize w1.alloc (.cells #[.int .i64 0, .int .i64 0] 26) = W at *
  generalize w1.heap.size = F at *
  have HTK := Lib.hid hT; clear hT
  go_loopg [5, 6] l.length (fun gk o i wr => ∃ (k n : Nat) (X : ByteArray), k ≤ l.length ∧ gk = l.length - k ∧ X = bs (textsL (l.take k)) ∧ o = .string X ∧ i = .int .i64 (k : Int) ∧ wr = W.drewN n)
  case atStart => exact ⟨0, 0, { data := #[] }, by omega, by omega, rfl, rfl, rfl, rfl⟩
  case round =>
    obtain ⟨k, n, X, hk, rfl, hX, rfl, rfl, rfl⟩ := hrel
    by_cases hlt : k < l.length
    · obtain ⟨a1, a2, a3⟩ := HTK.out k hlt
      have j0 : (0 : Int) ≤ (k : Int) := by omega
      have j1 : (k : Int) < (l.length : Int) := by omega
      have hn := texts_take l k hlt
      have hlen := HX.out (k + 1)
      have hXl : X.size ≤ 1000000 := by rw [hX, bs_size]; exact HX.out k
      have hel : (bs (tk l k).text).size ≤ 1000000 := by rw [bs_size]; rw [hn] at hlen; simp at hlen; omega
      obtain ⟨Y, hcat⟩ : ∃ Y, X ++ bs (tk l k).text = Y := ⟨_, rfl⟩
      obtain ⟨Z, hcat2⟩ : ∃ Z, Y ++ { data := #[32] } = Z := ⟨_, rfl⟩
      have hYl : Y.size ≤ 2000000 := by rw [← hcat]; simp; omega
      have hZ : Z = bs (textsL (l.take (k + 1))) := by
        rw [← hcat2, ← hcat, hX, hn, ← bs_app, ← bs_app]
        rw [ByteArray.append_assoc]; rfl
      have HZ := Lib.hid hZ
      clear hX hlen hn hZ
      go_wp2
      go_roundg (l.length - (k + 1))
      case measure => omega
      case rel => exact ⟨k + 1, n, Z, by omega, rfl, HZ.out, rfl, by go_num, rfl⟩
    · obtain rfl : k = l.length := by omega
      have hnl : ¬ ((l.length : Int) < (l.length : Int)) := by omega
      have HXX := Lib.hid hX; clear hX
      go_wp2
      go_ret
      exact ⟨ret_str (by rw [HXX.out, List.take_length]), hB.drewN n⟩
theorem texts_le (l : List Tok) (k : Nat) : (textsL (l.take k)).length ≤ (textsL l).length := by
  have : textsL l = textsL (l.take k) ++ textsL (l.drop k) := by unfold textsL; rw [← List.flatMap_append, List.take_append_drop]
  rw [this]; simp
theorem texts_0 {w : World} (hG : Gl w w.heap.size) : Calls Tryz.prog 16 #[.string { data := #[120, 32, 58, 61, 32, 49, 46, 53, 10, 125] }] w fun e w' => e = .returned (.string { data := #[120, 32, 58, 61, 32, 49, 46, 53, 32, 59, 32, 125, 32, 59, 32, 32] }) ∧ Below w.heap.size w w' :=
  texts_any (s := { data := #[120, 32, 58, 61, 32, 49, 46, 53, 10, 125] }) (l := [⟨2, [120], 0⟩, ⟨6, [58, 61], 2⟩, ⟨4, [49, 46, 53], 5⟩, ⟨6, [59], 8⟩, ⟨6, [125], 9⟩, ⟨6, [59], 10⟩, ⟨7, [], 10⟩]) (by decide) hG (by decide +kernel) (by decide) (fun k => Nat.le_trans (texts_le _ k) (by decide))
theorem texts_1 {w : World} (hG : Gl w w.heap.size) : Calls Tryz.prog 16 #[.string { data := #[34, 97, 92, 120, 52, 49, 34] }] w fun e w' => e = .returned (.string { data := #[97, 65, 32, 59, 32, 32] }) ∧ Below w.heap.size w w' :=
  texts_any (s := { data := #[34, 97, 92, 120, 52, 49, 34] }) (l := [⟨5, [97, 65], 0⟩, ⟨6, [59], 7⟩, ⟨7, [], 7⟩]) (by decide) hG (by decide +kernel) (by decide) (fun k => Nat.le_trans (texts_le _ k) (by decide))
theorem texts_2 {w : World} (hG : Gl w w.heap.size) : Calls Tryz.prog 16 #[.string { data := #[36, 36, 32, 61, 32, 36, 49, 50] }] w fun e w' => e = .returned (.string { data := #[36, 32, 61, 32, 49, 50, 32, 59, 32, 32] }) ∧ Below w.heap.size w w' :=
  texts_any (s := { data := #[36, 36, 32, 61, 32, 36, 49, 50] }) (l := [⟨8, [36], 0⟩, ⟨6, [61], 3⟩, ⟨8, [49, 50], 5⟩, ⟨6, [59], 8⟩, ⟨7, [], 8⟩]) (by decide) hG (by decide +kernel) (by decide) (fun k => Nat.le_trans (texts_le _ k) (by decide))
theorem fault_0 {w : World} (hG : Gl w w.heap.size) : Calls Tryz.prog 17 #[.string { data := #[48, 48, 55] }, .int .i64 101, .int .i64 0] w fun e w' => e = .returned (.bool true) ∧ Below w.heap.size w w' :=
  fault_any (s := { data := #[48, 48, 55] }) (x := 101) (p := 0) (by decide) hG (by decide +kernel)
theorem fault_1 {w : World} (hG : Gl w w.heap.size) : Calls Tryz.prog 17 #[.string { data := #[97, 32, 60, 45, 32, 98] }, .int .i64 101, .int .i64 2] w fun e w' => e = .returned (.bool true) ∧ Below w.heap.size w w' :=
  fault_any (s := { data := #[97, 32, 60, 45, 32, 98] }) (x := 101) (p := 2) (by decide) hG (by decide +kernel)
theorem fault_2 {w : World} (hG : Gl w w.heap.size) : Calls Tryz.prog 17 #[.string { data := #[103, 111] }, .int .i64 101, .int .i64 0] w fun e w' => e = .returned (.bool true) ∧ Below w.heap.size w w' :=
  fault_any (s := { data := #[103, 111] }) (x := 101) (p := 0) (by decide) hG (by decide +kernel)
theorem fault_3 {w : World} (hG : Gl w w.heap.size) : Calls Tryz.prog 17 #[.string { data := #[97, 32, 38, 32, 98] }, .int .i64 100, .int .i64 2] w fun e w' => e = .returned (.bool true) ∧ Below w.heap.size w w' :=
  fault_any (s := { data := #[97, 32, 38, 32, 98] }) (x := 100) (p := 2) (by decide) hG (by decide +kernel)
theorem below_tr {w w1 w2 : World} (h : Below w.heap.size w w1) (k : Below w1.heap.size w1 w2) : Below w.heap.size w w2 := h.trans (k.mono h.size)
set_option maxHeartbeats 1000000 in
theorem awake_any {w : World} (hG : Gl w w.heap.size) :
    Calls Tryz.prog 5 #[] w fun e w' => e = .returned (.bool true) ∧ Below w.heap.size w w' := by
  go_enter Tryz.func5, Tryz.ntmps5
  go_wp2_with (first | (go_at_call 17; (with_reducible refine (fault_3 hG6).mono ?_); rintro e w7 ⟨rfl, hb7⟩; have hG7 := hG6.at hb7) | (go_at_call 17; (with_reducible refine (fault_2 hG5).mono ?_); rintro e w6 ⟨rfl, hb6⟩; have hG6 := hG5.at hb6) | (go_at_call 16; (with_reducible refine (texts_2 hG4).mono ?_); rintro e w5 ⟨rfl, hb5⟩; have hG5 := hG4.at hb5) | (go_at_call 17; (with_reducible refine (fault_1 hG3).mono ?_); rintro e w4 ⟨rfl, hb4⟩; have hG4 := hG3.at hb4) | (go_at_call 17; (with_reducible refine (fault_0 hG2).mono ?_); rintro e w3 ⟨rfl, hb3⟩; have hG3 := hG2.at hb3) | (go_at_call 16; (with_reducible refine (texts_1 hG1).mono ?_); rintro e w2 ⟨rfl, hb2⟩; have hG2 := hG1.at hb2) | (go_at_call 16; (with_reducible refine (texts_0 hG).mono ?_); rintro e w1 ⟨rfl, hb1⟩; have hG1 := hG.at hb1))
  go_ret
  exact ⟨rfl, below_tr (below_tr (below_tr (below_tr (below_tr (below_tr hb1 hb2) hb3) hb4) hb5) hb6) hb7⟩
end Go.Proofs.YtopbhopblpfjpaaGreatDoor.ScanN
