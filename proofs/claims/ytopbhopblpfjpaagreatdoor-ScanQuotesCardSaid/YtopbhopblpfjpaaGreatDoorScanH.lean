/- The scanner's tokens, walked. (Printed by scan_h.py.) -/
import Derived.Test.YtopbhopblpfjpaaGreatDoorScanG
import Derived.Deep.CutBlock
import Derived.Deep.DeepCutAuto
import Derived.Deep.RegionHeld3
import Derived.Deep.AppendLies
import Derived.Deep.RegionLaw
namespace Go.Proofs.YtopbhopblpfjpaaGreatDoor.ScanH
open Go.RowKit Go.Proofs.YtopbhopblpfjpaaGreatDoor.Lexy Go.Proofs.YtopbhopblpfjpaaGreatDoor.Heap Go.Proofs.YtopbhopblpfjpaaGreatDoor.Base Go.Proofs.YtopbhopblpfjpaaGreatDoor.Scany Go.Proofs.YtopbhopblpfjpaaGreatDoor.ScanA Go.Proofs.YtopbhopblpfjpaaGreatDoor.ScanB Go.Proofs.YtopbhopblpfjpaaGreatDoor.ScanC Go.Proofs.YtopbhopblpfjpaaGreatDoor.ScanD Go.Proofs.YtopbhopblpfjpaaGreatDoor.ScanE Go.Proofs.YtopbhopblpfjpaaGreatDoor.ScanF Go.Proofs.YtopbhopblpfjpaaGreatDoor.ScanG

/-- a token that is being made: its cells -/
def Tk (w : World) (T : Nat) (kind : Nat) (text : ByteArray) (at_ : Nat) : Prop :=
  w.heap[T]? = some (.cells #[.int .u8 (kind : Int), .string text, .int .i64 (at_ : Int)] 50 (0, 0))

theorem Tk.c0 {w : World} {T k : Nat} {t : ByteArray} {a : Nat} (h : Tk w T k t a) : w.cell? ⟨T, 0, none⟩ = some (.int .u8 (k : Int)) := by simp [World.cell?, (show w.heap[T]? = _ from h)]

theorem Tk.c1 {w : World} {T k : Nat} {t : ByteArray} {a : Nat} (h : Tk w T k t a) : w.cell? ⟨T, 1, none⟩ = some (.string t) := by simp [World.cell?, (show w.heap[T]? = _ from h)]

theorem Tk.c2 {w : World} {T k : Nat} {t : ByteArray} {a : Nat} (h : Tk w T k t a) : w.cell? ⟨T, 2, none⟩ = some (.int .i64 (a : Int)) := by simp [World.cell?, (show w.heap[T]? = _ from h)]

theorem Tk.fr {w : World} {T k : Nat} {t : ByteArray} {a : Nat} (h : Tk w T k t a) (i : Nat) : w.frozen? ⟨T, i, none⟩ = false := by simp [World.frozen?, (show w.heap[T]? = _ from h)]

theorem Tk.lt {w : World} {T k : Nat} {t : ByteArray} {a : Nat} (h : Tk w T k t a) : T < w.heap.size := (Array.getElem?_eq_some_iff.1 (show w.heap[T]? = _ from h)).1

theorem Tk.kept {w w' : World} {T k : Nat} {t : ByteArray} {a : Nat} {row : Option Nat} (h : Tk w T k t a) (g : w.grownBy w' row) (hr : some T ≠ row) : Tk w' T k t a := (g.block T h.lt hr).trans h

theorem Tk.drewN {w : World} {T k : Nat} {t : ByteArray} {a : Nat} (h : Tk w T k t a) (n : Nat) : Tk (w.drewN n) T k t a := h

theorem Tk.set0 {w : World} {T k : Nat} {t : ByteArray} {a : Nat} (h : Tk w T k t a) {x : Int} {k' : Nat} (hx : x = (k' : Int)) : Tk (w.setCell ⟨T, 0, none⟩ (.int .u8 x)) T k' t a := by
  subst hx; exact heap_setCell_same w T 0 _ _ _ h

theorem Tk.set1 {w : World} {T k : Nat} {t : ByteArray} {a : Nat} (h : Tk w T k t a) (t' : ByteArray) : Tk (w.setCell ⟨T, 1, none⟩ (.string t')) T k t' a :=
  heap_setCell_same w T 1 _ _ _ h

theorem Tk.other {w : World} {T k : Nat} {t : ByteArray} {a : Nat} (h : Tk w T k t a) {b : Nat} (hb : T ≠ b) (i : Nat) (v : Value) : Tk (w.setCell ⟨b, i, none⟩ v) T k t a :=
  (Below.heap_setCell _ _ _ _ hb).trans h

/-- only block b, and blocks from B0 on, have turned -/
structure KpB (b B0 : Nat) (w w' : World) : Prop where
  os : w'.os = w.os
  tape : w'.tape = w.tape
  output : w'.output = w.output
  size : w.heap.size ≤ w'.heap.size
  block : ∀ k, k < w.heap.size → k ≠ b → k < B0 → w'.heap[k]? = w.heap[k]?

theorem KpB.refl (b B0 : Nat) (w : World) : KpB b B0 w w := ⟨rfl, rfl, rfl, Nat.le_refl _, fun _ _ _ _ => rfl⟩

theorem KpB.trans {b B0 : Nat} {w w1 w2 : World} (h : KpB b B0 w w1) (k : KpB b B0 w1 w2) : KpB b B0 w w2 :=
  ⟨k.os.trans h.os, k.tape.trans h.tape, k.output.trans h.output, Nat.le_trans h.size k.size, fun i hi hb hB => (k.block i (Nat.lt_of_lt_of_le hi h.size) hb hB).trans (h.block i hi hb hB)⟩

theorem KpB.grown {b B0 : Nat} {w w1 w2 : World} {r : Option Nat} (h : KpB b B0 w w1) (g : w1.grownBy w2 r) (hr : ∀ k, r = some k → k = b ∨ B0 ≤ k) : KpB b B0 w w2 :=
  h.trans ⟨g.os, g.tape, g.output, g.size, fun i hi hb hB => g.block i hi (fun e => by rcases hr i e.symm with h | h <;> omega)⟩

theorem KpB.set {b B0 : Nat} {w w1 : World} (h : KpB b B0 w w1) {p : Addr} (v : Value) (hp : p.block = b ∨ B0 ≤ p.block) : KpB b B0 w (w1.setCell p v) :=
  h.grown (grown_set w1 p v) (fun k hk => by simp at hk; omega)

theorem KpB.drewN {b B0 : Nat} {w w1 : World} (h : KpB b B0 w w1) (n : Nat) : KpB b B0 w (w1.drewN n) := h.grown (grown_drewN w1 n none) (by simp)

theorem KpB.alloc {b B0 : Nat} {w w1 : World} (h : KpB b B0 w w1) (o : Obj) : KpB b B0 w (w1.alloc o) := h.grown (World.grownBy_alloc w1 o none) (by simp)

theorem KpB.grb {b B0 : Nat} {w w1 w2 : World} (h : KpB b B0 w w1) (g : w1.grownBy w2 (some b)) : KpB b B0 w w2 := h.grown g (fun k hk => by simp at hk; omega)

theorem KpB.below {b B0 B : Nat} {w w1 : World} (h : KpB b B0 w w1) (hb : B ≤ b) (hB : B ≤ B0) (hw : B ≤ w.heap.size) : Below B w w1 :=
  ⟨h.os, h.tape, h.output, h.size, fun k hk => h.block k (by omega) (by omega) (by omega)⟩

theorem KpB.cell {b B0 : Nat} {w w1 : World} (h : KpB b B0 w w1) {p : Addr} {v : Value} (hc : w.cell? p = some v) (hb : p.block ≠ b) (hB : p.block < B0) : w1.cell? p = some v :=
  (World.cell?_of_block (h.block p.block (World.block_lt_of_cell? w p hc) hb hB)).trans hc

theorem tokInfo : (Tryz.prog.info? 50).map (fun i => (i.zero, i.size, i.bytes)) = some (some (.agg #[.int .u8 0, .string { data := #[] }, .int .i64 0]), 3, 32) := by kernel_rfl

theorem _root_.Go.Proofs.YtopbhopblpfjpaaGreatDoor.ScanA.Sc.other {w : World} {b : Nat} {s : ByteArray} {a : Nat} {l : Value} (h : Sc w b s a l) {T : Nat} (hb : b ≠ T) (i : Nat) (v : Value) : Sc (w.setCell ⟨T, i, none⟩ v) b s a l :=
  (Below.heap_setCell _ _ _ _ hb).trans h
theorem _root_.Go.Proofs.YtopbhopblpfjpaaGreatDoor.ScanD.PartPost.ok {b : Nat} {s : ByteArray} {a k n : Nat} {t : List UInt8} {l : Value} {w w' : World} {e : Ending} (ht : tokS (rest s a) = .good k t n) (h : PartPost b s a l w e w') : e = .returned (.tuple #[.int .u8 (k : Int), .string (bs t)]) ∧ Sc w' b s (a + n) l ∧ w.grownBy w' (some b) := by
  unfold PartPost at h; rw [ht] at h; exact ⟨h.2.1, h.2.2, h.1⟩
theorem _root_.Go.Proofs.YtopbhopblpfjpaaGreatDoor.ScanD.PartPost.no {b : Nat} {s : ByteArray} {a x : Nat} {l : Value} {w w' : World} {e : Ending} (ht : tokS (rest s a) = .bad x) (h : PartPost b s a l w e w') : e = .panicked (thrown x) ∧ w.grownBy w' (some b) := by
  unfold PartPost at h; rw [ht] at h; exact ⟨h.2, h.1⟩
/-- what comes of a token -/
def TokPost (b B0 : Nat) (s : ByteArray) (a c : Nat) (xs : List Value) (w : World) (e : Ending) (w' : World) : Prop :=
  match tokS (rest s a) with
  | .bad x => e = .panicked (thrown x) ∧ KpB b B0 w w'
  | .good k t n => e = .returned (.tuple #[]) ∧ ∃ l', Sc w' b s (a + n) l' ∧ w'.ownsRow B0 50 3 l' (c + 1) (xs ++ [.int .u8 (k : Int), .string (bs t), .int .i64 (a : Int)]) ∧ KpB b B0 w w'
theorem TokPost.bad {b B0 : Nat} {s : ByteArray} {a c x : Nat} {xs : List Value} {w w' : World} {y : Int} (h : tokS (rest s a) = .bad x) (hy : y = (x : Int)) (k : KpB b B0 w w') : TokPost b B0 s a c xs w (.panicked (thrown y)) w' := by
  unfold TokPost; rw [h, hy]; exact ⟨rfl, k⟩

set_option maxRecDepth 100000 in
set_option maxHeartbeats 4000000 in
theorem token_any {b B0 H : Nat} {s : ByteArray} {a c : Nat} {l : Value} {xs : List Value} {w : World} (hG : Gl w H) (hHb : H ≤ b) (hr : Sc w b s a l) (hs : s.size ≤ 1000000) (ha : a < s.size)
    (hown : w.ownsRow B0 50 3 l c xs) (hc : c ≤ 1000000) (hbB : b < B0) (hB : B0 ≤ w.heap.size) :
    Calls Tryz.prog 31 #[.pointer (some ⟨b, 0, none⟩)] w (TokPost b B0 s a c xs w) := by
  have hb := hr.lt
  have hTb : w.heap.size ≠ b := by omega
  have hbT : b ≠ w.heap.size := by omega
  have hTB : B0 ≤ w.heap.size := hB
  have hHT : H ≤ w.heap.size := by omega
  have hlb : l.ownBlock ≠ some b := fun e => by have := (hown.lt _ e).1; omega
  have hlT : l.ownBlock ≠ some w.heap.size := fun e => by have := (hown.lt _ e).2; omega
  have hg0 := (KpB.refl b B0 w).alloc (.cells #[.int .u8 0, .string { data := #[] }, .int .i64 (a : Int)] 50)
  have ho0 := hown.alloc (.cells #[.int .u8 0, .string { data := #[] }, .int .i64 (a : Int)] 50)
  have hR : Sc (w.alloc (.cells #[.int .u8 0, .string { data := #[] }, .int .i64 (a : Int)] 50)) b s a l := hr.kept (World.grownBy_alloc w _ none) (by simp)
  have hGA : Gl (w.alloc (.cells #[.int .u8 0, .string { data := #[] }, .int .i64 (a : Int)] 50)) H := hG.below ((Below.refl _ _).alloc hHT _)
  have hT : Tk (w.alloc (.cells #[.int .u8 0, .string { data := #[] }, .int .i64 (a : Int)] 50)) w.heap.size 0 { data := #[] } a := heap_alloc_new w _
  have c1 := hr.c1
  obtain ⟨ch, hch⟩ : ∃ x, byteAt s a = x := ⟨_, rfl⟩
  have HCH := Lib.hid hch; clear hch
  go_enter Tryz.func31, Tryz.ntmps31
  go_upto_block 0 with (go_at_call 28; (with_reducible refine (now0 hR hs (by omega) HCH.out).mono ?_); rintro e w' ⟨rfl, n1, rfl⟩)
  clear c1 hr hb hB hG
  have hwt : w.heap.size < (w.alloc (.cells #[.int .u8 0, .string { data := #[] }, .int .i64 (a : Int)] 50)).heap.size := by simp
  generalize w.alloc (.cells #[.int .u8 0, .string { data := #[] }, .int .i64 (a : Int)] 50) = W0 at *
  generalize w.heap.size = T at *
  replace hR := hR.drewN n1
  replace hT := hT.drewN n1
  replace hg0 := hg0.drewN n1
  replace hGA := hGA.drewN n1
  have ho1 : (W0.drewN n1).ownsRow B0 50 3 l c xs := ho0
  clear ho0
  have hwt1 : T < (W0.drewN n1).heap.size := hwt
  clear hwt
  generalize W0.drewN n1 = W at *
  clear W0
  have HG := Lib.hid hGA; clear hGA
  go_cut [] (fun wx => ∃ k t n, tokS (rest s a) = .good k t n ∧ Sc wx b s (a + n) l ∧ Tk wx T k (bs t) a ∧ wx.ownsRow B0 50 3 l c xs ∧ KpB b B0 w wx)
  case first =>
    cases hl : letN ch with
    | true =>
      have HLB := Lib.hid (show letN (byteAt s a) = true by rw [HCH.out]; exact hl)
      have HL := Lib.hid hl; clear hl
      cases htk : tokS (rest s a) with
      | bad x =>
        have HT := Lib.hid htk; clear htk
        go_wp2_with (first | (go_at_call 78; (with_reducible refine (letter_is HL.out).mono ?_); rintro e w' ⟨rfl, rfl⟩) | (go_at_call 80; (with_reducible refine (digit_is HD.out).mono ?_); rintro e w' ⟨rfl, rfl⟩) | (go_at_call 79; refine (name_any HG.out hHb hR hs ha HLB.out).mono ?_; intro e w1 hp; obtain ⟨rfl, hg1⟩ := PartPost.no HT.out hp; clear hp))
        exact ⟨rfl, TokPost.bad HT.out rfl (hg0.grb hg1)⟩
      | good k t n =>
        have HT := Lib.hid htk; clear htk
        go_wp2_with (first | (go_at_call 78; (with_reducible refine (letter_is HL.out).mono ?_); rintro e w' ⟨rfl, rfl⟩) | (go_at_call 80; (with_reducible refine (digit_is HD.out).mono ?_); rintro e w' ⟨rfl, rfl⟩) | (go_at_call 79; refine (name_any HG.out hHb hR hs ha HLB.out).mono ?_; intro e w1 hp; obtain ⟨rfl, hr1, hg1⟩ := PartPost.ok HT.out hp; clear hp; have hT1 := hT.kept hg1 (by simp; omega); have t0 := hT1.c0; have t1 := hT1.c1; have f0 := hT1.fr 0; have f1 := hT1.fr 1))
        go_meet
        exact ⟨_, _, _, HT.out, (hr1.other hbT 0 _).other hbT 1 _, (hT1.set0 (k' := k) rfl).set1 _, own_set (own_set (ho1.kept hg1 (.inr hlb)) hlT 0 _) hlT 1 _, (((hg0.grb hg1).set _ (by simp; omega)).set _ (by simp; omega))⟩
    | false =>
      have HLB := Lib.hid (show letN (byteAt s a) = false by rw [HCH.out]; exact hl)
      have HL := Lib.hid hl; clear hl
      cases hd : digN ch with
      | true =>
        have HDB := Lib.hid (show digN (byteAt s a) = true by rw [HCH.out]; exact hd)
        have HD := Lib.hid hd; clear hd
        cases htk : tokS (rest s a) with
        | bad x =>
          have HT := Lib.hid htk; clear htk
          go_wp2_with (first | (go_at_call 78; (with_reducible refine (letter_is HL.out).mono ?_); rintro e w' ⟨rfl, rfl⟩) | (go_at_call 80; (with_reducible refine (digit_is HD.out).mono ?_); rintro e w' ⟨rfl, rfl⟩) | (go_at_call 81; refine (number_any hR hs ha HDB.out).mono ?_; intro e w1 hp; obtain ⟨rfl, hg1⟩ := PartPost.no HT.out hp; clear hp))
          exact ⟨rfl, TokPost.bad HT.out rfl (hg0.grb hg1)⟩
        | good k t n =>
          have HT := Lib.hid htk; clear htk
          go_wp2_with (first | (go_at_call 78; (with_reducible refine (letter_is HL.out).mono ?_); rintro e w' ⟨rfl, rfl⟩) | (go_at_call 80; (with_reducible refine (digit_is HD.out).mono ?_); rintro e w' ⟨rfl, rfl⟩) | (go_at_call 81; refine (number_any hR hs ha HDB.out).mono ?_; intro e w1 hp; obtain ⟨rfl, hr1, hg1⟩ := PartPost.ok HT.out hp; clear hp; have hT1 := hT.kept hg1 (by simp; omega); have t0 := hT1.c0; have t1 := hT1.c1; have f0 := hT1.fr 0; have f1 := hT1.fr 1))
          go_meet
          exact ⟨_, _, _, HT.out, (hr1.other hbT 0 _).other hbT 1 _, (hT1.set0 (k' := k) rfl).set1 _, own_set (own_set (ho1.kept hg1 (.inr hlb)) hlT 0 _) hlT 1 _, (((hg0.grb hg1).set _ (by simp; omega)).set _ (by simp; omega))⟩
      | false =>
        have HDB := Lib.hid (show digN (byteAt s a) = false by rw [HCH.out]; exact hd)
        have HD := Lib.hid hd; clear hd
        by_cases h34 : ch = 34
        · have e34 : ((ch : Int) == 34) = true := by rw [h34]; rfl
          have H34 := Lib.hid (show byteAt s a = 34 by rw [HCH.out]; exact h34)
          clear h34
          cases htk : tokS (rest s a) with
          | bad x =>
            have HT := Lib.hid htk; clear htk
            go_wp2_with (first | (go_at_call 78; (with_reducible refine (letter_is HL.out).mono ?_); rintro e w' ⟨rfl, rfl⟩) | (go_at_call 80; (with_reducible refine (digit_is HD.out).mono ?_); rintro e w' ⟨rfl, rfl⟩) | (go_at_call 82; refine (text_any hR hs ha H34.out).mono ?_; intro e w1 hp; obtain ⟨rfl, hg1⟩ := PartPost.no HT.out hp; clear hp))
            exact ⟨rfl, TokPost.bad HT.out rfl (hg0.grb hg1)⟩
          | good k t n =>
            have HT := Lib.hid htk; clear htk
            go_wp2_with (first | (go_at_call 78; (with_reducible refine (letter_is HL.out).mono ?_); rintro e w' ⟨rfl, rfl⟩) | (go_at_call 80; (with_reducible refine (digit_is HD.out).mono ?_); rintro e w' ⟨rfl, rfl⟩) | (go_at_call 82; refine (text_any hR hs ha H34.out).mono ?_; intro e w1 hp; obtain ⟨rfl, hr1, hg1⟩ := PartPost.ok HT.out hp; clear hp; have hT1 := hT.kept hg1 (by simp; omega); have t0 := hT1.c0; have t1 := hT1.c1; have f0 := hT1.fr 0; have f1 := hT1.fr 1))
            go_meet
            exact ⟨_, _, _, HT.out, (hr1.other hbT 0 _).other hbT 1 _, (hT1.set0 (k' := k) rfl).set1 _, own_set (own_set (ho1.kept hg1 (.inr hlb)) hlT 0 _) hlT 1 _, (((hg0.grb hg1).set _ (by simp; omega)).set _ (by simp; omega))⟩
        · have e34 : ((ch : Int) == 34) = false := beq_eq_false_iff_ne.2 (by omega)
          have H34 := Lib.hid (show byteAt s a ≠ 34 by rw [HCH.out]; exact h34)
          by_cases h36 : ch = 36
          · have e36 : ((ch : Int) == 36) = true := by rw [h36]; rfl
            have H36 := Lib.hid (show byteAt s a = 36 by rw [HCH.out]; exact h36)
            clear h34 h36
            cases htk : tokS (rest s a) with
            | bad x =>
              have HT := Lib.hid htk; clear htk
              go_wp2_with (first | (go_at_call 78; (with_reducible refine (letter_is HL.out).mono ?_); rintro e w' ⟨rfl, rfl⟩) | (go_at_call 80; (with_reducible refine (digit_is HD.out).mono ?_); rintro e w' ⟨rfl, rfl⟩) | (go_at_call 83; refine (dollar_any hR hs ha H36.out).mono ?_; intro e w1 hp; obtain ⟨rfl, hg1⟩ := PartPost.no HT.out hp; clear hp))
              exact ⟨rfl, TokPost.bad HT.out rfl (hg0.grb hg1)⟩
            | good k t n =>
              have HT := Lib.hid htk; clear htk
              go_wp2_with (first | (go_at_call 78; (with_reducible refine (letter_is HL.out).mono ?_); rintro e w' ⟨rfl, rfl⟩) | (go_at_call 80; (with_reducible refine (digit_is HD.out).mono ?_); rintro e w' ⟨rfl, rfl⟩) | (go_at_call 83; refine (dollar_any hR hs ha H36.out).mono ?_; intro e w1 hp; obtain ⟨rfl, hr1, hg1⟩ := PartPost.ok HT.out hp; clear hp; have hT1 := hT.kept hg1 (by simp; omega); have t0 := hT1.c0; have t1 := hT1.c1; have f0 := hT1.fr 0; have f1 := hT1.fr 1))
              go_meet
              exact ⟨_, _, _, HT.out, (hr1.other hbT 0 _).other hbT 1 _, (hT1.set0 (k' := k) rfl).set1 _, own_set (own_set (ho1.kept hg1 (.inr hlb)) hlT 0 _) hlT 1 _, (((hg0.grb hg1).set _ (by simp; omega)).set _ (by simp; omega))⟩
          · have e36 : ((ch : Int) == 36) = false := beq_eq_false_iff_ne.2 (by omega)
            have H36 := Lib.hid (show byteAt s a ≠ 36 by rw [HCH.out]; exact h36)
            clear h34 h36
            cases htk : tokS (rest s a) with
            | bad x =>
              have HT := Lib.hid htk; clear htk
              go_wp2_with (first | (go_at_call 78; (with_reducible refine (letter_is HL.out).mono ?_); rintro e w' ⟨rfl, rfl⟩) | (go_at_call 80; (with_reducible refine (digit_is HD.out).mono ?_); rintro e w' ⟨rfl, rfl⟩) | (go_at_call 84; refine (sign_any HG.out (by omega) hR hs ha HLB.out HDB.out H34.out H36.out).mono ?_; intro e w1 hp; obtain ⟨rfl, hg1⟩ := PartPost.no HT.out hp; clear hp))
              exact ⟨rfl, TokPost.bad HT.out rfl (hg0.grb hg1)⟩
            | good k t n =>
              have HT := Lib.hid htk; clear htk
              go_wp2_with (first | (go_at_call 78; (with_reducible refine (letter_is HL.out).mono ?_); rintro e w' ⟨rfl, rfl⟩) | (go_at_call 80; (with_reducible refine (digit_is HD.out).mono ?_); rintro e w' ⟨rfl, rfl⟩) | (go_at_call 84; refine (sign_any HG.out (by omega) hR hs ha HLB.out HDB.out H34.out H36.out).mono ?_; intro e w1 hp; obtain ⟨rfl, hr1, hg1⟩ := PartPost.ok HT.out hp; clear hp; have hT1 := hT.kept hg1 (by simp; omega); have t0 := hT1.c0; have t1 := hT1.c1; have f0 := hT1.fr 0; have f1 := hT1.fr 1))
              go_meet
              exact ⟨_, _, _, HT.out, (hr1.other hbT 0 _).other hbT 1 _, (hT1.set0 (k' := k) rfl).set1 _, own_set (own_set (ho1.kept hg1 (.inr hlb)) hlT 0 _) hlT 1 _, (((hg0.grb hg1).set _ (by simp; omega)).set _ (by simp; omega))⟩
  case rest =>
    obtain ⟨k, t, n, htok, hR', hT', ho', hg'⟩ := hcut
    have HT := Lib.hid htok; clear htok
    have hTwc := hT'.lt
    have hbwc := hR'.lt
    obtain ⟨i0, hi0, hz0, hz1, hz2⟩ := info_parts tokInfo
    have c2 := hR'.c2; have r2 := hR'.fr 2
    have t0 := hT'.c0; have t1 := hT'.c1; have t2 := hT'.c2
    have rf : ∀ o, (wc.alloc o).frozen? ⟨b, 2, none⟩ = false := fun o => (World.frozen?_of_block (Below.heap_alloc wc o b hbwc)).trans r2
    have hlb' : ¬ some b = l.ownBlock := fun e => hlb e.symm
    have hlT' : ¬ some T = l.ownBlock := fun e => hlT e.symm
    go_wp2_with fail
    have e2 : ∀ o, (wc.alloc o).cell? ⟨b, 2, none⟩ = some l := fun o => (World.cell?_alloc_past _ _ _ hbwc).trans c2
    have q0 : ∀ o, (wc.alloc o).cell? ⟨T, 0, none⟩ = some (.int .u8 (k : Int)) := fun o => (World.cell?_alloc_past _ _ _ hTwc).trans t0
    go_region_law (((refine step_append_lies _ (by rfl) _ _ _ (by rfl) B0 50 i0 _ 3 32 Tryz.underlying23 hi0 hz0 hz1 hz2 rfl (by omega) l c xs (by rfl) ((ho'.alloc _).drew) ⟨wc.heap.size, 0, none⟩ 1 1 [.int .u8 (k : Int), .string (bs t), .int .i64 (a : Int)] (by rfl) (by rfl) (World.news_of_block (cs := #[.int .u8 (k : Int), .string (bs t), .int .i64 (a : Int)]) (t := 50) (fr := (0, 0)) (heap_alloc_new wc _)) (by simp [Value.oneCell']) (by omega) (by unfold maxLen; omega) (by omega) (by simp; omega) (wc.heap.size + 1) (by simp) ?_; intro gg cap w1 hown1 hgrow hat hlt; have c2' : w1.cell? ⟨b, 2, none⟩ = some l := (by rw [hgrow.cell_far _ (by simp; omega) hlb']; exact e2 _); have r2' : w1.frozen? ⟨b, 2, none⟩ = false := (by rw [hgrow.frozen_far _ (by simp; omega) hlb']; exact rf _))))
    all_goals
      go_end0
      have hgk : KpB b B0 w w1 := ((hg'.alloc (.cells #[.int .u8 (k : Int), .string (bs t), .int .i64 (a : Int)] 50)).drewN 1).grown hgrow (fun j hj => .inr (ho'.lt j hj).1)
      have hR1 : Sc w1 b s (a + n) l := ((hR'.kept (World.grownBy_alloc wc (.cells #[.int .u8 (k : Int), .string (bs t), .int .i64 (a : Int)] 50) none) (by simp)).drewN 1).kept hgrow hlb'
      have hgg : gg ≠ b := by have := (hown1.lt gg rfl).1; omega
      unfold TokPost
      rw [HT.out]
      exact ⟨rfl, _, hR1.set2 _, own_set hown1 (by simpa [Value.ownBlock] using hgg) 2 _, hgk.set _ (.inl rfl)⟩
end Go.Proofs.YtopbhopblpfjpaaGreatDoor.ScanH
