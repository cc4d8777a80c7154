/- The lexer's tokens, walked. -/
import Derived.Test.YtghebacphjglbaaGreatLexC
import Derived.Test.YtghebacphjglbaaGreatLexPlain
import Derived.Test.YtghebacphjglbaaGreatShelf
import Derived.Deep.CutBlock
import Derived.Deep.DeepCutAuto
import Derived.Deep.RegionHeld3
import Derived.Deep.AppendLies
import Derived.Deep.RegionLaw
namespace Go.Proofs.YtghebacphjglbaaGreat.LexD
open Go.RowKit Go.Proofs.YtghebacphjglbaaGreat.Lexy Go.Proofs.YtghebacphjglbaaGreat.LexA Go.Proofs.YtghebacphjglbaaGreat.LexB Go.Proofs.YtghebacphjglbaaGreat.LexC

/-- a list of bytes as a string -/
def bs (l : List UInt8) : ByteArray := ⟨l.toArray⟩
theorem bs_extract (s : ByteArray) (a n : Nat) (_h : a + n ≤ s.size) : s.extract a (a + n) = bs ((rest s a).take n) := by
  apply ByteArray.ext
  unfold bs rest
  apply Array.ext'
  simp [ByteArray.data_extract]

/-- a token that is being made: its cells -/
def Tk (w : World) (T : Nat) (kind : Nat) (text : ByteArray) (at_ : Nat) : Prop :=
  w.heap[T]? = some (.cells #[.int .u8 (kind : Int), .string text, .int .i64 (at_ : Int)] 121 (0, 0))
theorem Tk.c0 {w : World} {T k : Nat} {t : ByteArray} {a : Nat} (h : Tk w T k t a) : w.cell? ⟨T, 0, none⟩ = some (.int .u8 (k : Int)) := by simp [World.cell?, (show w.heap[T]? = _ from h)]
theorem Tk.c1 {w : World} {T k : Nat} {t : ByteArray} {a : Nat} (h : Tk w T k t a) : w.cell? ⟨T, 1, none⟩ = some (.string t) := by simp [World.cell?, (show w.heap[T]? = _ from h)]
theorem Tk.c2 {w : World} {T k : Nat} {t : ByteArray} {a : Nat} (h : Tk w T k t a) : w.cell? ⟨T, 2, none⟩ = some (.int .i64 (a : Int)) := by simp [World.cell?, (show w.heap[T]? = _ from h)]
theorem Tk.fr {w : World} {T k : Nat} {t : ByteArray} {a : Nat} (h : Tk w T k t a) (i : Nat) : w.frozen? ⟨T, i, none⟩ = false := by simp [World.frozen?, (show w.heap[T]? = _ from h)]
theorem Tk.lt {w : World} {T k : Nat} {t : ByteArray} {a : Nat} (h : Tk w T k t a) : T < w.heap.size := (Array.getElem?_eq_some_iff.1 (show w.heap[T]? = _ from h)).1
theorem Tk.kept {w w' : World} {T k : Nat} {t : ByteArray} {a : Nat} {row : Option Nat} (h : Tk w T k t a) (g : w.grownBy w' row) (hr : some T ≠ row) : Tk w' T k t a := (g.block T h.lt hr).trans h
theorem Tk.drewN {w : World} {T k : Nat} {t : ByteArray} {a : Nat} (h : Tk w T k t a) (n : Nat) : Tk (w.drewN n) T k t a := h
theorem Tk.set0 {w : World} {T k : Nat} {t : ByteArray} {a : Nat} (h : Tk w T k t a) {x : Int} {k' : Nat} (hx : x = (k' : Int)) : Tk (w.setCell ⟨T, 0, none⟩ (.int .u8 x)) T k' t a := by
  subst hx; exact heap_setCell_same w T 0 _ _ _ h
theorem Tk.set1 {w : World} {T k : Nat} {t : ByteArray} {a : Nat} (h : Tk w T k t a) (t' : ByteArray) : Tk (w.setCell ⟨T, 1, none⟩ (.string t')) T k t' a :=
  heap_setCell_same w T 1 _ _ _ h
theorem Tk.other {w : World} {T k : Nat} {t : ByteArray} {a : Nat} (h : Tk w T k t a) {b : Nat} (hb : T ≠ b) (i : Nat) (v : Value) : Tk (w.setCell ⟨b, i, none⟩ v) T k t a :=
  (Below.heap_setCell _ _ _ _ hb).trans h
theorem _root_.Go.Proofs.YtghebacphjglbaaGreat.LexA.Rd.other {w : World} {b : Nat} {s : ByteArray} {a : Nat} {l : Value} {o : Int} (h : Rd w b s a l o) {T : Nat} (hb : b ≠ T) (i : Nat) (v : Value) : Rd (w.setCell ⟨T, i, none⟩ v) b s a l o :=
  (Below.heap_setCell _ _ _ _ hb).trans h

theorem own_set {w : World} {base e size : Nat} {l : Value} {n : Nat} {xs : List Value} (h : w.ownsRow base e size l n xs) {T : Nat} (hT : l.ownBlock ≠ some T) (i : Nat) (v : Value) : (w.setCell ⟨T, i, none⟩ v).ownsRow base e size l n xs :=
  h.kept (grown_set w ⟨T, i, none⟩ v) (.inr hT)
theorem own_drewN {w : World} {base e size : Nat} {l : Value} {n : Nat} {xs : List Value} (h : w.ownsRow base e size l n xs) (k : Nat) : (w.drewN k).ownsRow base e size l n xs := h
theorem head_rest (s : ByteArray) (k v : Nat) (hv : v ≠ 0) : ((rest s k).head?.map (·.toNat)) = some v ↔ byteAt s k = v := by
  by_cases h : k < s.size
  · obtain ⟨c, h1, h2⟩ := rest_cons h
    rw [h1, h2]; simp
  · rw [(rest_nil (s := s) (a := k) (by omega)).1, (rest_nil (s := s) (a := k) (by omega)).2]; simp; omega
theorem tok_letter {s : ByteArray} {a : Nat} (ha : a < s.size) (hl : letN (byteAt s a) = true) : tokL (rest s a) = if 40 < runL (rest s a) then .bad 101 else .good 2 ((rest s a).take (runL (rest s a))) (runL (rest s a)) := by
  obtain ⟨c, h1, h2⟩ := rest_cons ha
  rw [h1]; rw [h2] at hl; simp only [tokL, hl, if_true]
theorem tok_pct2 {s : ByteArray} {a : Nat} (ha : a < s.size) (h37 : byteAt s a = 37) (h2 : byteAt s (a + 1) = 37) : tokL (rest s a) = .good 6 [37, 37] 2 := by
  obtain ⟨c, e1, e2⟩ := rest_cons ha
  have hc : c.toNat = 37 := by omega
  have hl : letN 37 = false := by decide
  rw [e1]; simp only [tokL, hc, hl, Bool.false_eq_true, if_false, if_true]
  rw [if_pos ((head_rest s (a + 1) 37 (by omega)).2 h2)]
theorem tok_pct1 {s : ByteArray} {a : Nat} (ha : a < s.size) (h37 : byteAt s a = 37) (h2 : byteAt s (a + 1) ≠ 37) :
    tokL (rest s a) = if (rest s (a + 1)).take (runL (rest s (a + 1))) ∈ wordsL then .good 1 ((rest s (a + 1)).take (runL (rest s (a + 1)))) (runL (rest s (a + 1)) + 1) else .bad 101 := by
  obtain ⟨c, e1, e2⟩ := rest_cons ha
  have hc : c.toNat = 37 := by omega
  have hl : letN 37 = false := by decide
  rw [e1]; simp only [tokL, hc, hl, Bool.false_eq_true, if_false, if_true]
  rw [if_neg (fun h => h2 ((head_rest s (a + 1) 37 (by omega)).1 h))]
theorem tok_brace {s : ByteArray} {a : Nat} (ha : a < s.size) (h : byteAt s a = 123) :
    (aEnd s (a + 1) 1 = none → tokL (rest s a) = .bad 101) ∧ ∀ n, aEnd s (a + 1) 1 = some n → a + 2 ≤ n ∧ n ≤ s.size ∧ tokL (rest s a) = .good 9 ((rest s (a + 1)).take (n - 1 - (a + 1))) (n - a) := by
  obtain ⟨c, e1, e2⟩ := rest_cons ha
  have hc : c.toNat = 123 := by omega
  have hl : letN 123 = false := by decide
  unfold aEnd
  rw [e1]
  cases hq : autoL (rest s (a + 1)) 1 0 with
  | none => exact ⟨fun _ => by simp only [tokL, hc, hl, Bool.false_eq_true, if_false, Nat.reduceEqDiff, if_true, hq], fun n hn => by simp at hn⟩
  | some m =>
    refine ⟨fun hn => by simp at hn, fun n hn => ?_⟩
    simp only [Option.map_some, Option.some.injEq] at hn
    have := autoL_le _ _ _ _ hq
    rw [rest_len] at this
    refine ⟨by omega, by omega, ?_⟩
    simp only [tokL, hc, hl, Bool.false_eq_true, if_false, Nat.reduceEqDiff, if_true, hq]
    congr 2 <;> omega
theorem tok_sign {s : ByteArray} {a : Nat} (ha : a < s.size) (h1 : letN (byteAt s a) = false) (h2 : byteAt s a ≠ 37) (h3 : byteAt s a ≠ 123) (h4 : signN (byteAt s a) = true) : tokL (rest s a) = .good 6 ((rest s a).take 1) 1 := by
  obtain ⟨c, e1, e2⟩ := rest_cons ha
  rw [e2] at h1 h2 h3 h4
  rw [e1]; simp [tokL, h1, h2, h3, h4]
theorem tok_else {s : ByteArray} {a : Nat} (ha : a < s.size) (h1 : letN (byteAt s a) = false) (h2 : byteAt s a ≠ 37) (h3 : byteAt s a ≠ 123) (h4 : signN (byteAt s a) = false) : tokL (rest s a) = .bad 100 := by
  obtain ⟨c, e1, e2⟩ := rest_cons ha
  rw [e2] at h1 h2 h3 h4
  rw [e1]; simp [tokL, h1, h2, h3, h4]

/-- what the search for a sign answers -/
theorem index_sign {n : Nat} {w : World} (hn : n < 256) :
    Calls Tryz.prog 113 #[.string { data := #[58, 59, 124, 40, 41, 44, 60, 62] }, .int .u8 (n : Int)] w fun e w' => ∃ i : Int, (0 ≤ i ↔ signN n = true) ∧ -1 ≤ i ∧ e = .returned (.int .i64 i) ∧ w = w' := by
  refine (Tryz.strings_IndexByte _ _ w).mono ?_
  rintro e w' ⟨rfl, rfl⟩
  exact ⟨_, by rw [Int.toNat_natCast]; exact sign_index n hn, Lib.indexByte_ge _ _, rfl, rfl⟩

theorem index_t {n : Nat} {w : World} (hn : n < 256) (h : signN n = true) :
    Calls Tryz.prog 113 #[.string { data := #[58, 59, 124, 40, 41, 44, 60, 62] }, .int .u8 (n : Int)] w fun e w' => ∃ i : Int, 0 ≤ i ∧ e = .returned (.int .i64 i) ∧ w = w' :=
  (index_sign hn).mono fun _ _ ⟨i, h1, _, h3, h4⟩ => ⟨i, h1.2 h, h3, h4⟩
theorem index_f {n : Nat} {w : World} (hn : n < 256) (h : signN n = false) :
    Calls Tryz.prog 113 #[.string { data := #[58, 59, 124, 40, 41, 44, 60, 62] }, .int .u8 (n : Int)] w fun e w' => ∃ i : Int, i < 0 ∧ e = .returned (.int .i64 i) ∧ w = w' :=
  (index_sign hn).mono fun _ _ ⟨i, h1, _, h3, h4⟩ => ⟨i, Int.not_le.1 (fun hi => by rw [h1.1 hi] at h; cases h), h3, h4⟩
theorem action_ok {b : Nat} {s : ByteArray} {a n : Nat} {l : Value} {w : World} (hr : Rd w b s a l 0) (hs : s.size ≤ 1000000) (ha : a < s.size) (h : aEnd s (a + 1) 1 = some n) {x : ByteArray} (hx : s.extract (a + 1) (n - 1) = x) :
    Calls Tryz.prog 112 #[.pointer (some ⟨b, 0, none⟩)] w fun e w' => e = .returned (.string x) ∧ Rd w' b s n l 0 ∧ w.grownBy w' (some b) :=
  (action_any hr hs ha).mono fun e w' hq => by unfold ActPost at hq; rw [h] at hq; simp only at hq; rw [hx] at hq; exact hq
theorem action_bad {b : Nat} {s : ByteArray} {a : Nat} {l : Value} {w : World} (hr : Rd w b s a l 0) (hs : s.size ≤ 1000000) (ha : a < s.size) (h : aEnd s (a + 1) 1 = none) :
    Calls Tryz.prog 112 #[.pointer (some ⟨b, 0, none⟩)] w fun e w' => e = .panicked (thrown 101) ∧ w.grownBy w' (some b) :=
  (action_any hr hs ha).mono fun e w' hq => by unfold ActPost at hq; rw [h] at hq; exact hq

/-- a slice of one new byte as a string -/
theorem run_one {w : World} {H : Nat} (hH : w.heap.size = H) (n : Nat) (x : ByteArray) (hx : Go.strOfNums [(n : Int)] = x) :
    (convert 45 9 (.slice (some ⟨H, 0, none⟩) 1 1)).run Tryz.prog (w.alloc (.cells #[.int .u8 (n : Int)] 5)).drew = .ok (.string x) (w.alloc (.cells #[.int .u8 (n : Int)] 5)).drew := by
  subst hx hH
  refine run_convert_bytes_arg _ 45 5 Tryz.underlying45 Tryz.underlying5 w.heap.size 0 1 1 [(n : Int)] rfl ?_ 9 Tryz.underlying9
  intro i hi
  obtain rfl : i = 0 := by omega
  have h0 : (w.alloc (.cells #[.int .u8 (n : Int)] 5)).heap[w.heap.size]? = some (.cells #[.int .u8 (n : Int)] 5) := heap_alloc_new w _
  exact cell_of_row (w.alloc (.cells #[.int .u8 (n : Int)] 5)) w.heap.size 0 #[.int .u8 (n : Int)] 5 (0, 0) h0
theorem one_byte {s : ByteArray} {a : Nat} (ha : a < s.size) : Go.strOfNums [(byteAt s a : Int)] = bs ((rest s a).take 1) := by
  obtain ⟨c, e1, e2⟩ := rest_cons ha
  rw [e1, e2]
  apply ByteArray.ext
  apply Array.ext'
  rw [strOfNums_data]; simp [bs]

theorem ld_ne (c : UInt8) (h : ldN c.toNat = true) : c ≠ 32 := by intro e; subst e; exact absurd h (by decide)
/-- what the search for a word answers -/
theorem contains_word {t : ByteArray} {m : Int} {w : World} (ht : ∀ c ∈ t.data.toList, ldN c.toNat = true) (hm : w.cell? ⟨0, 0, none⟩ = some (.int .i64 m)) :
    Calls Tryz.prog 111 #[.string ⟨wordsText.toArray⟩, .string ⟨(32 :: (t.data.toList ++ [32])).toArray⟩] w fun e w' => e = .returned (.bool (decide (t.data.toList ∈ wordsL))) ∧ w = w' := by
  refine (Tryz.strings_Contains _ _ m w (by decide) hm).mono ?_
  rintro e w' ⟨rfl, rfl⟩
  exact ⟨by rw [← contains_words _ fun c hc => ld_ne c (ht c hc)], rfl⟩

theorem contains_x {x : ByteArray} {m : Int} {w : World} (ht : ∀ c ∈ x.data.toList, ldN c.toNat = true) (hm : w.cell? ⟨0, 0, none⟩ = some (.int .i64 m)) {B : Bool} (hB : decide (x.data.toList ∈ wordsL) = B) :
    Calls Tryz.prog 111 #[.string { data := #[32, 116, 111, 107, 101, 110, 32, 116, 121, 112, 101, 32, 108, 101, 102, 116, 32, 114, 105, 103, 104, 116, 32, 110, 111, 110, 97, 115, 115, 111, 99, 32, 115, 116, 97, 114, 116, 32, 112, 114, 101, 99, 32] },
      .string (({ data := #[32] } : ByteArray) ++ x ++ { data := #[32] })] w fun e w' => e = .returned (.bool B) ∧ w = w' := by
  have e1 : (({ data := #[32] } : ByteArray) ++ x ++ { data := #[32] }) = ⟨(32 :: (x.data.toList ++ [32])).toArray⟩ := by
    apply ByteArray.ext; apply Array.ext'; simp
  rw [e1]
  have := contains_word ht hm
  rwa [hB] at this
theorem bs_list (l : List UInt8) : (bs l).data.toList = l := by simp [bs]
theorem bs_toList (l : List UInt8) : (bs l).toList = l := by unfold bs; exact ByteArray.toList_mk l
theorem bs_size (l : List UInt8) : (bs l).size = l.length := by simp [bs, ByteArray.size]

/-- only block b, and blocks from B0 on, have turned -/
structure KpB (b B0 : Nat) (w w' : World) : Prop where
  os : w'.os = w.os
  tape : w'.tape = w.tape
  output : w'.output = w.output
  size : w.heap.size ≤ w'.heap.size
  block : ∀ k, k < w.heap.size → k ≠ b → k < B0 → w'.heap[k]? = w.heap[k]?
theorem KpB.refl (b B0 : Nat) (w : World) : KpB b B0 w w := ⟨rfl, rfl, rfl, Nat.le_refl _, fun _ _ _ _ => rfl⟩
theorem KpB.trans {b B0 : Nat} {w w1 w2 : World} (h : KpB b B0 w w1) (k : KpB b B0 w1 w2) : KpB b B0 w w2 :=
  ⟨k.os.trans h.os, k.tape.trans h.tape, k.output.trans h.output, Nat.le_trans h.size k.size, fun i hi hb hB => (k.block i (Nat.lt_of_lt_of_le hi h.size) hb hB).trans (h.block i hi hb hB)⟩
theorem KpB.grown {b B0 : Nat} {w w1 w2 : World} {r : Option Nat} (h : KpB b B0 w w1) (g : w1.grownBy w2 r) (hr : ∀ k, r = some k → k = b ∨ B0 ≤ k) : KpB b B0 w w2 :=
  h.trans ⟨g.os, g.tape, g.output, g.size, fun i hi hb hB => g.block i hi (fun e => by rcases hr i e.symm with h | h <;> omega)⟩
theorem KpB.set {b B0 : Nat} {w w1 : World} (h : KpB b B0 w w1) {p : Addr} (v : Value) (hp : p.block = b ∨ B0 ≤ p.block) : KpB b B0 w (w1.setCell p v) :=
  h.grown (grown_set w1 p v) (fun k hk => by simp at hk; omega)
theorem KpB.drewN {b B0 : Nat} {w w1 : World} (h : KpB b B0 w w1) (n : Nat) : KpB b B0 w (w1.drewN n) := h.grown (grown_drewN w1 n none) (by simp)
theorem KpB.alloc {b B0 : Nat} {w w1 : World} (h : KpB b B0 w w1) (o : Obj) : KpB b B0 w (w1.alloc o) := h.grown (World.grownBy_alloc w1 o none) (by simp)
theorem KpB.grb {b B0 : Nat} {w w1 w2 : World} (h : KpB b B0 w w1) (g : w1.grownBy w2 (some b)) : KpB b B0 w w2 := h.grown g (fun k hk => by simp at hk; omega)
theorem KpB.below {b B0 B : Nat} {w w1 : World} (h : KpB b B0 w w1) (hb : B ≤ b) (hB : B ≤ B0) (hw : B ≤ w.heap.size) : Below B w w1 :=
  ⟨h.os, h.tape, h.output, h.size, fun k hk => h.block k (by omega) (by omega) (by omega)⟩
theorem KpB.cell {b B0 : Nat} {w w1 : World} (h : KpB b B0 w w1) {p : Addr} {v : Value} (hc : w.cell? p = some v) (hb : p.block ≠ b) (hB : p.block < B0) : w1.cell? p = some v :=
  (World.cell?_of_block (h.block p.block (World.block_lt_of_cell? w p hc) hb hB)).trans hc

theorem name_x {b : Nat} {s : ByteArray} {a : Nat} {l : Value} {o : Int} {w : World} (hr : Rd w b s a l o) (hs : s.size ≤ 1000000) (ha : a ≤ s.size) :
    Calls Tryz.prog 109 #[.pointer (some ⟨b, 0, none⟩)] w fun e w' =>
      ∃ x, x = bs ((rest s a).take (runL (rest s a))) ∧ x.size = runL (rest s a) ∧ e = .returned (.string x) ∧ Rd w' b s (a + runL (rest s a)) l o ∧ w.grownBy w' (some b) := by
  refine (name_any hr hs ha).mono ?_
  rintro e w' ⟨rfl, h1, h2⟩
  have hle := run_le s a
  refine ⟨_, bs_extract s a _ (by omega), ?_, rfl, h1, h2⟩
  simp; omega

/-- the token that begins with this byte -/
theorem tok_cons {s : ByteArray} {a : Nat} (h : a < s.size) : ∃ c, rest s a = c :: rest s (a + 1) ∧ byteAt s a = c.toNat := rest_cons h

theorem tokInfo : (Tryz.prog.info? 121).map (fun i => (i.zero, i.size, i.bytes)) = some (some (.agg #[.int .u8 0, .string { data := #[] }, .int .i64 0]), 3, 32) := by kernel_rfl

/-- what comes of a token -/
def TokPost (b B0 : Nat) (s : ByteArray) (a c : Nat) (xs : List Value) (w : World) (e : Ending) (w' : World) : Prop :=
  match tokL (rest s a) with
  | .bad x => e = .panicked (thrown x) ∧ KpB b B0 w w'
  | .good k t n => e = .returned (.tuple #[]) ∧ ∃ l', Rd w' b s (a + n) l' 0 ∧ w'.ownsRow B0 121 3 l' (c + 1) (xs ++ [.int .u8 (k : Int), .string (bs t), .int .i64 (a : Int)]) ∧ KpB b B0 w w'
theorem TokPost.bad {b B0 : Nat} {s : ByteArray} {a c x : Nat} {xs : List Value} {w w' : World} {y : Int} (h : tokL (rest s a) = .bad x) (hy : y = (x : Int)) (k : KpB b B0 w w') : TokPost b B0 s a c xs w (.panicked (thrown y)) w' := by
  unfold TokPost; rw [h, hy]; exact ⟨rfl, k⟩

set_option maxRecDepth 100000 in
set_option maxHeartbeats 2000000 in
theorem token_any {b B0 : Nat} {s : ByteArray} {a c : Nat} {l : Value} {xs : List Value} {m : Int} {w : World} (hr : Rd w b s a l 0) (hs : s.size ≤ 1000000) (ha : a < s.size)
    (hown : w.ownsRow B0 121 3 l c xs) (hc : c ≤ 1000000) (hbB : b < B0) (hB : B0 ≤ w.heap.size) (hb0 : 0 < b) (hm : w.cell? ⟨0, 0, none⟩ = some (.int .i64 m)) :
    Calls Tryz.prog 98 #[.pointer (some ⟨b, 0, none⟩)] w (TokPost b B0 s a c xs w) := by
  have hb := hr.lt
  have hTb : w.heap.size ≠ b := by omega
  have hbT : b ≠ w.heap.size := by omega
  have hTB : B0 ≤ w.heap.size := hB
  have hlb : l.ownBlock ≠ some b := fun e => by have := (hown.lt _ e).1; omega
  have hlT : l.ownBlock ≠ some w.heap.size := fun e => by have := (hown.lt _ e).2; omega
  have hg0 := (KpB.refl b B0 w).alloc (.cells #[.int .u8 0, .string { data := #[] }, .int .i64 (a : Int)] 121)
  have ho0 := hown.alloc (.cells #[.int .u8 0, .string { data := #[] }, .int .i64 (a : Int)] 121)
  have hR : Rd (w.alloc (.cells #[.int .u8 0, .string { data := #[] }, .int .i64 (a : Int)] 121)) b s a l 0 := hr.kept (World.grownBy_alloc w _ none) (by simp)
  have hT : Tk (w.alloc (.cells #[.int .u8 0, .string { data := #[] }, .int .i64 (a : Int)] 121)) w.heap.size 0 { data := #[] } a := heap_alloc_new w _
  have c1 := hr.c1
  go_enter Tryz.func98, Tryz.ntmps98
  go_upto_block 0 with (go_at_call 95; (with_reducible refine (now0 hR hs (by omega)).mono ?_); rintro e w' ⟨rfl, n1, rfl⟩)
  clear c1 hr hb hB
  have hwt : w.heap.size < (w.alloc (.cells #[.int .u8 0, .string { data := #[] }, .int .i64 (a : Int)] 121)).heap.size := by simp
  generalize w.alloc (.cells #[.int .u8 0, .string { data := #[] }, .int .i64 (a : Int)] 121) = W0 at *
  generalize w.heap.size = T at *
  replace hR := hR.drewN n1
  replace hT := hT.drewN n1
  replace hg0 := hg0.drewN n1
  have ho1 : (W0.drewN n1).ownsRow B0 121 3 l c xs := ho0
  clear ho0
  have hwt1 : T < (W0.drewN n1).heap.size := hwt
  clear hwt
  have hm1 := hg0.cell hm (by simp; omega) (by simp; omega)
  clear hm
  generalize W0.drewN n1 = W at *
  clear W0
  obtain ⟨ch, hch, hcb⟩ := tok_cons ha
  have hlt256 := byteAt_lt s a
  have HCH := Lib.hid hch; clear hch
  have HCB := Lib.hid hcb; clear hcb
  go_cut [] (fun wx => ∃ k t n, tokL (rest s a) = .good k t n ∧ Rd wx b s (a + n) l 0 ∧ Tk wx T k (bs t) a ∧ wx.ownsRow B0 121 3 l c xs ∧ KpB b B0 w wx)
  case first =>
    by_cases hl : letN (byteAt s a) = true
    · have htk := tok_letter ha hl
      have HL := Lib.hid hl; clear hl
      by_cases h40 : 40 < runL (rest s a)
      · rw [if_pos h40] at htk
        have HT := Lib.hid htk; clear htk
        go_wp2_with (first | (go_at_call 108; refine (letter_t HL.out).mono ?_; rintro e w' ⟨rfl, rfl⟩) | (go_at_call 109; refine (name_x hR hs (by omega)).mono ?_; rintro e w1 ⟨x, hx, hxs, rfl, hr1, hg1⟩; have HX := Lib.hid hx; clear hx; have hx40 : (40 : Int) < (x.size : Int) := (by omega); have HXS := Lib.hid hxs; clear hxs; have hT1 := hT.kept hg1 (by simpa using hTb); have t0 := hT1.c0; have t1 := hT1.c1; have f0 := hT1.fr 0; have f1 := hT1.fr 1) | (go_at_call 110; refine (no_any _ _).mono ?_; rintro e w' ⟨rfl, rfl⟩))
        refine ⟨rfl, TokPost.bad HT.out rfl ?_⟩
        exact (((hg0.grb hg1).set _ (by simp; omega)).set _ (by simp; omega))
      · rw [if_neg h40] at htk
        have HT := Lib.hid htk; clear htk
        go_wp2_with (first | (go_at_call 108; refine (letter_t HL.out).mono ?_; rintro e w' ⟨rfl, rfl⟩) | (go_at_call 109; refine (name_x hR hs (by omega)).mono ?_; rintro e w1 ⟨x, hx, hxs, rfl, hr1, hg1⟩; have HX := Lib.hid hx; clear hx; have hx40 : (x.size : Int) ≤ (40 : Int) := (by omega); have HXS := Lib.hid hxs; clear hxs; have hT1 := hT.kept hg1 (by simpa using hTb); have t0 := hT1.c0; have t1 := hT1.c1; have f0 := hT1.fr 0; have f1 := hT1.fr 1) | (go_at_call 110; refine (no_any _ _).mono ?_; rintro e w' ⟨rfl, rfl⟩))
        go_meet
        refine ⟨_, _, _, HT.out, (hr1.other hbT 0 _).other hbT 1 _, ?_, own_set (own_set (ho1.kept hg1 (.inr hlb)) hlT 0 _) hlT 1 _, (((hg0.grb hg1).set _ (by simp; omega)).set _ (by simp; omega))⟩
        rw [← HX.out]; exact (hT1.set0 (k' := 2) rfl).set1 _
    have hl' : letN (byteAt s a) = false := by simpa using hl
    clear hl
    have HL := Lib.hid hl'; clear hl'
    by_cases h37 : byteAt s a = 37
    · have e37 : ((byteAt s a : Int) == 37) = true := by rw [h37]; rfl
      by_cases h2 : byteAt s (a + 1) = 37
      · have e2 : ((byteAt s (a + 1) : Int) == 37) = true := by rw [h2]; rfl
        have HT := Lib.hid (tok_pct2 ha h37 h2); clear h2 h37
        have t0 := hT.c0; have t1 := hT.c1; have f0 := hT.fr 0; have f1 := hT.fr 1
        have c1 := hR.c1; have r1 := hR.fr 1
        go_wp2_with (first | (go_at_call 108; refine (letter_f HL.out).mono ?_; rintro e w' ⟨rfl, rfl⟩) | (go_at_call 95; (with_reducible refine (now1 hR hs (by omega)).mono ?_); rintro e w' ⟨rfl, n1, rfl⟩) | (go_at_call 110; refine (no_any _ _).mono ?_; rintro e w' ⟨rfl, rfl⟩))
        go_meet
        refine ⟨_, _, _, HT.out, (((hR.drewN _).other hbT 0 _).other hbT 1 _).set1 (by omega), ?_, own_set (own_set (own_set (own_drewN ho1 _) hlT 0 _) hlT 1 _) hlb 1 _, ((((hg0.drewN _).set _ (by simp; omega)).set _ (by simp; omega)).set _ (by simp))⟩
        exact (((hT.drewN _).set0 (k' := 6) rfl).set1 _).other hTb 1 _
      · have e2 : ((byteAt s (a + 1) : Int) == 37) = false := beq_eq_false_iff_ne.2 (by omega)
        have htk := tok_pct1 ha h37 h2
        clear h2 h37
        have c1 := hR.c1; have r1 := hR.fr 1
        have hrl := run_le s (a + 1)
        have hsz : s.size - (a + 1) ≤ 1000000 := by omega
        by_cases h0 : runL (rest s (a + 1)) = 0
        · rw [h0, List.take_zero, if_neg (by decide)] at htk
          have HT := Lib.hid htk; clear htk
          have H0 := Lib.hid h0; clear h0
          go_wp2_with (first | (go_at_call 108; refine (letter_f HL.out).mono ?_; rintro e w' ⟨rfl, rfl⟩) | (go_at_call 95; (with_reducible refine (now1 hR hs (by omega)).mono ?_); rintro e w' ⟨rfl, n1, rfl⟩) | (go_at_call 109; refine (name_x ((hR.drewN _).set1 (a' := a + 1) (by simp)) hs (by omega)).mono ?_; rintro e w1 ⟨x, hx, hxs, rfl, hr1, hg1⟩; have hxe : x.toList.isEmpty = true := (by rw [hx, H0.out, bs_toList]; rfl); have HX := Lib.hid hx; clear hx; have hxb : x.size ≤ 1000000 := (by omega); have HXS := Lib.hid hxs; clear hxs; have hT1 := ((hT.drewN _).other hTb 1 _).kept hg1 (by simpa using hTb); have t0 := hT1.c0; have t1 := hT1.c1; have f0 := hT1.fr 0; have f1 := hT1.fr 1; have hgk := ((hg0.drewN _).set _ (by simp)).grb hg1) | (go_at_call 110; refine (no_any _ _).mono ?_; rintro e w' ⟨rfl, rfl⟩))
          exact ⟨rfl, TokPost.bad HT.out rfl ((hgk.set _ (by simp; omega)).set _ (by simp; omega))⟩
        · have hne : ((rest s (a + 1)).take (runL (rest s (a + 1)))).isEmpty = false := by
            have := take_runL_len (rest s (a + 1))
            cases hh : (rest s (a + 1)).take (runL (rest s (a + 1))) with
            | nil => rw [hh] at this; simp at this; omega
            | cons => rfl
          have HNE := Lib.hid hne; clear hne h0
          have hgk0 : ∀ n1, KpB b B0 W ((W.drewN n1).setCell ⟨b, 1, none⟩ (.int .i64 ((a : Int) + 1))) := fun n1 => ((KpB.refl b B0 W).drewN n1).set _ (by simp)
          by_cases hin : (rest s (a + 1)).take (runL (rest s (a + 1))) ∈ wordsL
          · rw [if_pos hin] at htk
            have HT := Lib.hid htk; clear htk
            have HIN := Lib.hid hin; clear hin
            go_wp2_with (first | (go_at_call 108; refine (letter_f HL.out).mono ?_; rintro e w' ⟨rfl, rfl⟩) | (go_at_call 95; (with_reducible refine (now1 hR hs (by omega)).mono ?_); rintro e w' ⟨rfl, n1, rfl⟩) | (go_at_call 109; refine (name_x ((hR.drewN _).set1 (a' := a + 1) (by simp)) hs (by omega)).mono ?_; rintro e w1 ⟨x, hx, hxs, rfl, hr1, hg1⟩; have hxe : x.toList.isEmpty = false := (by rw [hx, bs_toList]; exact HNE.out); have HX := Lib.hid hx; clear hx; have hxb : x.size ≤ 1000000 := (by omega); have HXS := Lib.hid hxs; clear hxs; have hT1 := ((hT.drewN _).other hTb 1 _).kept hg1 (by simpa using hTb); have t0 := hT1.c0; have t1 := hT1.c1; have f0 := hT1.fr 0; have f1 := hT1.fr 1; have hgk := ((hg0.drewN _).set _ (by simp)).grb hg1) | (go_at_call 111; refine (contains_x (x := x) (m := m) ?_ ?_ (B := true) ?_).mono ?_; (rw [HX.out, bs_list]; exact runL_all _); exact (((KpB.refl b B0 w1).set (p := ⟨T, 0, none⟩) _ (by simp; omega)).set (p := ⟨T, 1, none⟩) _ (by simp; omega)).cell (((hgk0 _).grb hg1).cell hm1 (by simp; omega) (by simp; omega)) (by simp; omega) (by simp; omega); (rw [HX.out, bs_list]; simpa using HIN.out); rintro e w' ⟨rfl, rfl⟩) | (go_at_call 110; refine (no_any _ _).mono ?_; rintro e w' ⟨rfl, rfl⟩))
            go_meet
            refine ⟨_, _, _, HT.out, ?_, ?_, own_set (own_set ((own_set (own_drewN ho1 _) hlb 1 _).kept hg1 (.inr hlb)) hlT 0 _) hlT 1 _, ((hgk.set _ (by simp; omega)).set _ (by simp; omega))⟩
            · rw [show a + (runL (rest s (a + 1)) + 1) = a + 1 + runL (rest s (a + 1)) from by omega]; exact (hr1.other hbT 0 _).other hbT 1 _
            · rw [← HX.out]; exact (hT1.set0 (k' := 1) rfl).set1 _
          · rw [if_neg hin] at htk
            have HT := Lib.hid htk; clear htk
            have HIN := Lib.hid hin; clear hin
            go_wp2_with (first | (go_at_call 108; refine (letter_f HL.out).mono ?_; rintro e w' ⟨rfl, rfl⟩) | (go_at_call 95; (with_reducible refine (now1 hR hs (by omega)).mono ?_); rintro e w' ⟨rfl, n1, rfl⟩) | (go_at_call 109; refine (name_x ((hR.drewN _).set1 (a' := a + 1) (by simp)) hs (by omega)).mono ?_; rintro e w1 ⟨x, hx, hxs, rfl, hr1, hg1⟩; have hxe : x.toList.isEmpty = false := (by rw [hx, bs_toList]; exact HNE.out); have HX := Lib.hid hx; clear hx; have hxb : x.size ≤ 1000000 := (by omega); have HXS := Lib.hid hxs; clear hxs; have hT1 := ((hT.drewN _).other hTb 1 _).kept hg1 (by simpa using hTb); have t0 := hT1.c0; have t1 := hT1.c1; have f0 := hT1.fr 0; have f1 := hT1.fr 1; have hgk := ((hg0.drewN _).set _ (by simp)).grb hg1) | (go_at_call 111; refine (contains_x (x := x) (m := m) ?_ ?_ (B := false) ?_).mono ?_; (rw [HX.out, bs_list]; exact runL_all _); exact (((KpB.refl b B0 w1).set (p := ⟨T, 0, none⟩) _ (by simp; omega)).set (p := ⟨T, 1, none⟩) _ (by simp; omega)).cell (((hgk0 _).grb hg1).cell hm1 (by simp; omega) (by simp; omega)) (by simp; omega) (by simp; omega); (rw [HX.out, bs_list]; simpa using HIN.out); rintro e w' ⟨rfl, rfl⟩) | (go_at_call 110; refine (no_any _ _).mono ?_; rintro e w' ⟨rfl, rfl⟩))
            exact ⟨rfl, TokPost.bad HT.out rfl ((hgk.set _ (by simp; omega)).set _ (by simp; omega))⟩
    have e37 : ((byteAt s a : Int) == 37) = false := beq_eq_false_iff_ne.2 (by omega)
    by_cases h123 : byteAt s a = 123
    · have e123 : ((byteAt s a : Int) == 123) = true := by rw [h123]; rfl
      have htk := tok_brace ha h123
      clear h37 h123
      cases hq : aEnd s (a + 1) 1 with
      | none =>
        have HT := Lib.hid (htk.1 hq); clear htk
        have HQ := Lib.hid hq; clear hq
        go_wp2_with (first | (go_at_call 108; refine (letter_f HL.out).mono ?_; rintro e w' ⟨rfl, rfl⟩) | (go_at_call 112; refine (action_bad hR hs ha HQ.out).mono ?_; rintro e w1 ⟨rfl, hg1⟩))
        exact ⟨rfl, TokPost.bad HT.out rfl (hg0.grb hg1)⟩
      | some n =>
        have htk2 := htk.2 n hq
        have hn1 := htk2.1; have hn2 := htk2.2.1
        have HT := Lib.hid htk2.2.2; clear htk htk2
        have HQ := Lib.hid hq; clear hq
        have hex := bs_extract s (a + 1) (n - 1 - (a + 1)) (by omega)
        rw [show a + 1 + (n - 1 - (a + 1)) = n - 1 from by omega] at hex
        have HX := Lib.hid hex; clear hex
        go_wp2_with (first | (go_at_call 108; refine (letter_f HL.out).mono ?_; rintro e w' ⟨rfl, rfl⟩) | (go_at_call 112; refine (action_ok hR hs ha HQ.out HX.out).mono ?_; rintro e w1 ⟨rfl, hr1, hg1⟩; have hT1 := hT.kept hg1 (by simpa using hTb); have t0 := hT1.c0; have t1 := hT1.c1; have f0 := hT1.fr 0; have f1 := hT1.fr 1))
        go_meet
        refine ⟨_, _, _, HT.out, ?_, ?_, own_set (own_set (ho1.kept hg1 (.inr hlb)) hlT 0 _) hlT 1 _, (((hg0.grb hg1).set _ (by simp; omega)).set _ (by simp; omega))⟩
        · rw [show a + (n - a) = n from by omega]; exact (hr1.other hbT 0 _).other hbT 1 _
        · exact (hT1.set0 (k' := 9) rfl).set1 _
    have e123 : ((byteAt s a : Int) == 123) = false := beq_eq_false_iff_ne.2 (by omega)
    by_cases hsg : signN (byteAt s a) = true
    · have HL2 := HL.out
      have HT := Lib.hid (tok_sign ha HL2 h37 h123 hsg); clear HL2 h37 h123
      have HS := Lib.hid hsg; clear hsg
      have t0 := hT.c0; have t1 := hT.c1; have f0 := hT.fr 0; have f1 := hT.fr 1
      have c1 := hR.c1; have r1 := hR.fr 1
      go_wp2_with (first | (go_at_call 108; refine (letter_f HL.out).mono ?_; rintro e w' ⟨rfl, rfl⟩) | (go_at_call 113; refine (index_t hlt256 HS.out).mono ?_; rintro e w' ⟨i, hi1, rfl, rfl⟩))
      have v1 := run_one (w := W) rfl (byteAt s a) _ (one_byte ha)
      have v2 := run_one (w := W.setCell ⟨T, 0, none⟩ (.int .u8 6)) (H := W.heap.size) (by simp [World.setCell]) (byteAt s a) _ (one_byte ha)
      have hR1 : Rd (((W.setCell ⟨T, 0, none⟩ (.int .u8 6)).setCell ⟨T, 1, none⟩ (.string (bs ((rest s a).take 1)))).alloc (.cells #[.int .u8 (byteAt s a : Int)] 5)).drew b s a l 0 := (((hR.other hbT 0 _).other hbT 1 _).kept (World.grownBy_alloc _ (.cells #[.int .u8 (byteAt s a : Int)] 5) none) (by simp)).drewN 1
      have hT1 : Tk (((W.setCell ⟨T, 0, none⟩ (.int .u8 6)).setCell ⟨T, 1, none⟩ (.string (bs ((rest s a).take 1)))).alloc (.cells #[.int .u8 (byteAt s a : Int)] 5)).drew T 6 (bs ((rest s a).take 1)) a := (((hT.set0 (k' := 6) rfl).set1 _).kept (World.grownBy_alloc _ (.cells #[.int .u8 (byteAt s a : Int)] 5) none) (by simp)).drewN 1
      have ho2 : World.ownsRow (((W.setCell ⟨T, 0, none⟩ (.int .u8 6)).setCell ⟨T, 1, none⟩ (.string (bs ((rest s a).take 1)))).alloc (.cells #[.int .u8 (byteAt s a : Int)] 5)).drew B0 121 3 l c xs := own_drewN ((own_set (own_set ho1 hlT 0 _) hlT 1 _).alloc _) 1
      have hg1 : KpB b B0 w (((W.setCell ⟨T, 0, none⟩ (.int .u8 6)).setCell ⟨T, 1, none⟩ (.string (bs ((rest s a).take 1)))).alloc (.cells #[.int .u8 (byteAt s a : Int)] 5)).drew := (((hg0.set _ (by simp; omega)).set _ (by simp; omega)).alloc _).drewN 1
      go_region
      generalize (((W.setCell ⟨T, 0, none⟩ (.int .u8 6)).setCell ⟨T, 1, none⟩ (.string (bs ((rest s a).take 1)))).alloc (.cells #[.int .u8 (byteAt s a : Int)] 5)).drew = W1 at *
      clear c1 r1 t0 t1 f0 f1 v1 v2 hR hT
      have c1 := hR1.c1; have r1 := hR1.fr 1
      go_wp2
      go_meet
      exact ⟨_, _, _, HT.out, hR1.set1 (by omega), hT1.other hTb 1 _, own_set ho2 hlb 1 _, hg1.set _ (by simp)⟩
    · have hsg' : signN (byteAt s a) = false := by simpa using hsg
      have HL2 := HL.out
      have HT := Lib.hid (tok_else ha HL2 h37 h123 hsg'); clear HL2 h37 h123
      have HS := Lib.hid hsg'; clear hsg hsg'
      go_wp2_with (first | (go_at_call 108; refine (letter_f HL.out).mono ?_; rintro e w' ⟨rfl, rfl⟩) | (go_at_call 110; refine (no_any _ _).mono ?_; rintro e w' ⟨rfl, rfl⟩) | (go_at_call 113; refine (index_f hlt256 HS.out).mono ?_; rintro e w' ⟨i, hi1, rfl, rfl⟩))
      exact ⟨rfl, TokPost.bad HT.out rfl hg0⟩
  case rest =>
    obtain ⟨k, t, n, htok, hR', hT', ho', hg'⟩ := hcut
    have HT := Lib.hid htok; clear htok
    have hTwc := hT'.lt
    have hbwc := hR'.lt
    obtain ⟨i0, hi0, hz0, hz1, hz2⟩ := info_parts tokInfo
    have c2 := hR'.c2; have r2 := hR'.fr 2
    have t0 := hT'.c0; have t1 := hT'.c1; have t2 := hT'.c2
    have rf : ∀ o, (wc.alloc o).frozen? ⟨b, 2, none⟩ = false := fun o => (World.frozen?_of_block (Below.heap_alloc wc o b hbwc)).trans r2
    have hlb' : ¬ some b = l.ownBlock := fun e => hlb e.symm
    have hlT' : ¬ some T = l.ownBlock := fun e => hlT e.symm
    go_wp2_with fail
    have e2 : ∀ o, (wc.alloc o).cell? ⟨b, 2, none⟩ = some l := fun o => (World.cell?_alloc_past _ _ _ hbwc).trans c2
    have q0 : ∀ o, (wc.alloc o).cell? ⟨T, 0, none⟩ = some (.int .u8 (k : Int)) := fun o => (World.cell?_alloc_past _ _ _ hTwc).trans t0
    go_region_law (((refine step_append_lies _ (by rfl) _ _ _ (by rfl) B0 121 i0 _ 3 32 Tryz.underlying115 hi0 hz0 hz1 hz2 rfl (by omega) l c xs (by rfl) ((ho'.alloc _).drew) ⟨wc.heap.size, 0, none⟩ 1 1 [.int .u8 (k : Int), .string (bs t), .int .i64 (a : Int)] (by rfl) (by rfl) (World.news_of_block (cs := #[.int .u8 (k : Int), .string (bs t), .int .i64 (a : Int)]) (t := 121) (fr := (0, 0)) (heap_alloc_new wc _)) (by simp [Value.oneCell']) (by omega) (by unfold maxLen; omega) (by omega) (by simp; omega) (wc.heap.size + 1) (by simp) ?_; intro gg cap w1 hown1 hgrow hat hlt; have c2' : w1.cell? ⟨b, 2, none⟩ = some l := (by rw [hgrow.cell_far _ (by simp; omega) hlb']; exact e2 _); have r2' : w1.frozen? ⟨b, 2, none⟩ = false := (by rw [hgrow.frozen_far _ (by simp; omega) hlb']; exact rf _))))
    all_goals
      go_end0
      have hgk : KpB b B0 w w1 := ((hg'.alloc (.cells #[.int .u8 (k : Int), .string (bs t), .int .i64 (a : Int)] 121)).drewN 1).grown hgrow (fun j hj => .inr (ho'.lt j hj).1)
      have hR1 : Rd w1 b s (a + n) l 0 := ((hR'.kept (World.grownBy_alloc wc (.cells #[.int .u8 (k : Int), .string (bs t), .int .i64 (a : Int)] 121) none) (by simp)).drewN 1).kept hgrow hlb'
      have hgg : gg ≠ b := by have := (hown1.lt gg rfl).1; omega
      unfold TokPost
      rw [HT.out]
      exact ⟨rfl, _, hR1.set2 _, own_set hown1 (by simpa [Value.ownBlock] using hgg) 2 _, hgk.set _ (.inl rfl)⟩
end Go.Proofs.YtghebacphjglbaaGreat.LexD
