/- The scanner's hexadecimal digits, pairs behind a backslash, walked. (Printed by scan_c.py.) -/
import Derived.Test.YtopbhopblpfjpaaGreatDoorScanB
namespace Go.Proofs.YtopbhopblpfjpaaGreatDoor.ScanC
open Go.RowKit Go.Proofs.YtopbhopblpfjpaaGreatDoor.Lexy Go.Proofs.YtopbhopblpfjpaaGreatDoor.Heap Go.Proofs.YtopbhopblpfjpaaGreatDoor.Base Go.Proofs.YtopbhopblpfjpaaGreatDoor.Scany Go.Proofs.YtopbhopblpfjpaaGreatDoor.ScanA Go.Proofs.YtopbhopblpfjpaaGreatDoor.ScanB


theorem run_checkKey_u8 {P : Program} {kt : TypeId} (hk : P.underlying kt = some (.int .u8)) (e : Bool) (n : Nat) (k : Int) (w : World) : (Instr.checkKey e (n + 1) kt (.int .u8 k)).run P w = .ok () w := by
  simp only [Instr.checkKey, Sem.run_bind, run_underlying hk, Result.andThen]; rfl
theorem run_insert_u8 {P : Program} {t kt et : TypeId} (ht : P.underlying t = some (.map kt et)) (hk : P.underlying kt = some (.int .u8)) (w : World) (r : Nat) (es : Array MapEntry) (c : Nat)
    (k : Int) (v : Value) (hno : Instr.findNow (.int .u8) (.int .u8 k) es.toList 0 = some none) (hr : r = w.heap.size) :
    (Instr.mapUpdate t (.map (some r)) (.int .u8 k) v).run P (w.alloc (.map es c)) = .ok () (w.alloc (.map (es.push ⟨.int .u8 k, v, c⟩) (c + 1))) := by
  subst hr
  have hb : (w.alloc (.map es c)).heap[w.heap.size]? = some (.map es c) := heap_alloc_new w _
  have hs : ((w.alloc (.map es c)).heap.setIfInBounds w.heap.size (.map (es.push ⟨.int .u8 k, v, c⟩) (c + 1))) = (w.alloc (.map (es.push ⟨.int .u8 k, v, c⟩) (c + 1))).heap := by
    show (w.heap.push _).setIfInBounds w.heap.size _ = w.heap.push _
    apply Array.ext_getElem?
    intro i
    simp only [Array.getElem?_setIfInBounds, Array.getElem?_push, Array.size_push]
    by_cases h : i = w.heap.size
    · subst h; simp
    · rw [if_neg (fun e => h e.symm), if_neg h, if_neg h]
  have hck : (Instr.checkKey false 10000 kt (.int .u8 k)).run P (w.alloc (.map es c)) = .ok () (w.alloc (.map es c)) := run_checkKey_u8 hk false 9999 k _
  simp only [Instr.mapUpdate, Sem.run_bind, run_underlying ht, run_underlying hk, Result.andThen, MapKept.run_getObj_map hb, hck, Instr.findKey, hno]
  simp only [Sem.run_pure, setObj, Sem.run, hb]
  show Result.ok () { (w.alloc (.map es c)) with heap := _ } = _
  rw [hs]; rfl

theorem run_lookup_u8 {P : Program} {t kt et : TypeId} (ht : P.underlying t = some (.map kt et)) (hk : P.underlying kt = some (.int .u8)) (w : World) (r : Nat) (es : Array MapEntry) (c : Nat)
    (hb : w.heap[r]? = some (.map es c)) (k : Int) (i : Nat) (v : Value) (hyes : Instr.findNow (.int .u8) (.int .u8 k) es.toList 0 = some (some (i, v))) :
    (Instr.lookup t (.map (some r)) (.int .u8 k) true).run P w = .ok (.tuple #[v, .bool true]) w := by
  have hck : (Instr.checkKey es.isEmpty 10000 kt (.int .u8 k)).run P w = .ok () w := run_checkKey_u8 hk es.isEmpty 9999 k w
  simp only [Instr.lookup, Sem.run_bind, run_underlying ht, run_underlying hk, Result.andThen, MapKept.run_getObj_map hb, Instr.findKey]
  simp [Sem.run_pure, hck, hyes]
theorem run_lookup_u8_no {P : Program} {t kt et : TypeId} (ht : P.underlying t = some (.map kt et)) (hk : P.underlying kt = some (.int .u8)) (w : World) (r : Nat) (es : Array MapEntry) (c : Nat)
    (hb : w.heap[r]? = some (.map es c)) (k : Int) (z : Value) (hz : ∀ w, (zeroValue et).run P w = .ok z w) (hno : Instr.findNow (.int .u8) (.int .u8 k) es.toList 0 = some none) :
    (Instr.lookup t (.map (some r)) (.int .u8 k) true).run P w = .ok (.tuple #[z, .bool false]) w := by
  have hck : (Instr.checkKey es.isEmpty 10000 kt (.int .u8 k)).run P w = .ok () w := run_checkKey_u8 hk es.isEmpty 9999 k w
  simp only [Instr.lookup, Sem.run_bind, run_underlying ht, run_underlying hk, Result.andThen, MapKept.run_getObj_map hb, Instr.findKey]
  simp [Sem.run_pure, Result.andThen, hz, hck, hno]


/-- the pairs -/
def pairsM : Array MapEntry := #[⟨.int .u8 110, .int .u8 10, 0⟩, ⟨.int .u8 116, .int .u8 9, 1⟩, ⟨.int .u8 114, .int .u8 13, 2⟩, ⟨.int .u8 92, .int .u8 92, 3⟩, ⟨.int .u8 34, .int .u8 34, 4⟩]
theorem pairs_any (w : World) : Calls Tryz.prog 25 #[] w fun e w' => e = .returned (.map (some w.heap.size)) ∧ Below w.heap.size w w' ∧ w'.heap[w.heap.size]? = some (.map pairsM 5) := by
  have hmm := @run_makeMap Tryz.prog

  have i1 := run_insert_u8 Tryz.underlying87 Tryz.underlying5 w w.heap.size #[] 0 110 (.int .u8 10) rfl rfl
  have i2 := run_insert_u8 Tryz.underlying87 Tryz.underlying5 w w.heap.size (pairsM.extract 0 1) 1 116 (.int .u8 9) rfl rfl
  have i3 := run_insert_u8 Tryz.underlying87 Tryz.underlying5 w w.heap.size (pairsM.extract 0 2) 2 114 (.int .u8 13) rfl rfl
  have i4 := run_insert_u8 Tryz.underlying87 Tryz.underlying5 w w.heap.size (pairsM.extract 0 3) 3 92 (.int .u8 92) rfl rfl
  have i5 := run_insert_u8 Tryz.underlying87 Tryz.underlying5 w w.heap.size (pairsM.extract 0 4) 4 34 (.int .u8 34) rfl rfl
  simp [pairsM] at i1 i2 i3 i4 i5
  have hm : (w.alloc (.map pairsM 5)).heap[w.heap.size]? = some (.map pairsM 5) := heap_alloc_new w _
  have HF := Lib.hid (show w.alloc (.map pairsM 5) = _ from by unfold pairsM; rfl)
  go_enter Tryz.func25, Tryz.ntmps25
  go_wp2
  go_ret
  rw [← HF.out]
  exact ⟨rfl, (Below.refl _ _).alloc (Nat.le_refl _) _, hm⟩

theorem look_110 {w : World} {m : Nat} (hm : w.heap[m]? = some (.map pairsM 5)) : (Instr.lookup 87 (.map (some m)) (.int .u8 110) true).run Tryz.prog w = .ok (.tuple #[.int .u8 10, .bool true]) w := by
  exact run_lookup_u8 Tryz.underlying87 Tryz.underlying5 w m pairsM 5 hm 110 0 _ rfl
theorem look_116 {w : World} {m : Nat} (hm : w.heap[m]? = some (.map pairsM 5)) : (Instr.lookup 87 (.map (some m)) (.int .u8 116) true).run Tryz.prog w = .ok (.tuple #[.int .u8 9, .bool true]) w := by
  exact run_lookup_u8 Tryz.underlying87 Tryz.underlying5 w m pairsM 5 hm 116 1 _ rfl
theorem look_114 {w : World} {m : Nat} (hm : w.heap[m]? = some (.map pairsM 5)) : (Instr.lookup 87 (.map (some m)) (.int .u8 114) true).run Tryz.prog w = .ok (.tuple #[.int .u8 13, .bool true]) w := by
  exact run_lookup_u8 Tryz.underlying87 Tryz.underlying5 w m pairsM 5 hm 114 2 _ rfl
theorem look_92 {w : World} {m : Nat} (hm : w.heap[m]? = some (.map pairsM 5)) : (Instr.lookup 87 (.map (some m)) (.int .u8 92) true).run Tryz.prog w = .ok (.tuple #[.int .u8 92, .bool true]) w := by
  exact run_lookup_u8 Tryz.underlying87 Tryz.underlying5 w m pairsM 5 hm 92 3 _ rfl
theorem look_34 {w : World} {m : Nat} (hm : w.heap[m]? = some (.map pairsM 5)) : (Instr.lookup 87 (.map (some m)) (.int .u8 34) true).run Tryz.prog w = .ok (.tuple #[.int .u8 34, .bool true]) w := by
  exact run_lookup_u8 Tryz.underlying87 Tryz.underlying5 w m pairsM 5 hm 34 4 _ rfl
theorem look_no {w : World} {m : Nat} (hm : w.heap[m]? = some (.map pairsM 5)) {c : Nat} (h110 : c ≠ 110) (h116 : c ≠ 116) (h114 : c ≠ 114) (h92 : c ≠ 92) (h34 : c ≠ 34) : (Instr.lookup 87 (.map (some m)) (.int .u8 (c : Int)) true).run Tryz.prog w = .ok (.tuple #[.int .u8 0, .bool false]) w := by
  refine run_lookup_u8_no Tryz.underlying87 Tryz.underlying5 w m pairsM 5 hm (c : Int) (.int .u8 0) (fun _ => by kernel_rfl) ?_
  have x110 : ((c : Int) == 110) = false := beq_eq_false_iff_ne.2 (by omega)
  have x116 : ((c : Int) == 116) = false := beq_eq_false_iff_ne.2 (by omega)
  have x114 : ((c : Int) == 114) = false := beq_eq_false_iff_ne.2 (by omega)
  have x92 : ((c : Int) == 92) = false := beq_eq_false_iff_ne.2 (by omega)
  have x34 : ((c : Int) == 34) = false := beq_eq_false_iff_ne.2 (by omega)
  simp only [pairsM, Instr.findNow, Instr.sameNow, if_true, x110, x116, x114, x92, x34] <;> rfl

/-- a byte, small -/
def lowN (n : Nat) : Nat := if 65 ≤ n ∧ n ≤ 70 then n + 32 else n
theorem lower_any {n : Nat} (hn : n < 256) (w : World) : Calls Tryz.prog 170 #[.int .u8 (n : Int)] w fun e w' => e = .returned (.int .u8 (lowN n : Int)) ∧ w = w' := by
  have HN := Lib.hid hn; clear hn
  by_cases h1 : (65 : Int) ≤ (n : Int) <;> by_cases h2 : (n : Int) ≤ 70
  all_goals
    go_enter Tryz.func170, Tryz.ntmps170
    go_wp2
    go_ret
    exact ⟨ret_int (by unfold lowN; have := HN.out; split <;> first | omega | (simp [IntKind.wrap, IntKind.bits, IntKind.signed]; omega)), rfl⟩
/-- what a digit in base 16 says; -1: it is none -/
def hexI (n : Nat) : Int := if hexN n < 16 then (hexN n : Nat) else -1
theorem hex_table : ∀ n : Fin 256, Lib.indexByte ({ data := #[48, 49, 50, 51, 52, 53, 54, 55, 56, 57, 97, 98, 99, 100, 101, 102] } : ByteArray).data.toList ((lowN n.val : Int).toNat.toUInt8) = hexI n.val := by decide +kernel
theorem hex_is {n : Nat} {v : Int} (hn : n < 256) (w : World) (h : hexI n = v) : Calls Tryz.prog 159 #[.int .u8 (n : Int)] w fun e w' => e = .returned (.int .i64 v) ∧ w = w' := by
  have HT := Lib.hid ((hex_table ⟨n, hn⟩).trans h); clear h
  go_enter Tryz.func159, Tryz.ntmps159
  go_wp2_with (first | (go_at_call 170; go_must ((with_reducible refine (lower_any hn _).mono ?_)); rintro e w' ⟨rfl, rfl⟩) | (go_at_call 169; go_must (refine (Tryz.strings_IndexByte _ _ _).mono ?_); rintro e w' ⟨rfl, rfl⟩))
  go_ret
  exact ⟨ret_int HT.out, rfl⟩

theorem head_byte (s : ByteArray) (a : Nat) : ((rest s a).headD 0).toNat = byteAt s a := head_rest0 s a
theorem pair_rest (s : ByteArray) (a : Nat) : pairL (rest s a) =
    if byteAt s a = 110 then some (10, 1) else if byteAt s a = 116 then some (9, 1) else if byteAt s a = 114 then some (13, 1) else if byteAt s a = 92 then some (92, 1) else if byteAt s a = 34 then some (34, 1)
    else if byteAt s a = 120 ∧ hexN (byteAt s (a + 1)) < 16 ∧ hexN (byteAt s (a + 2)) < 16 then some (UInt8.ofNat (16 * hexN (byteAt s (a + 1)) + hexN (byteAt s (a + 2))), 3) else none := by
  by_cases h : a < s.size
  · obtain ⟨c, h1, h2⟩ := rest_cons h
    rw [h1, pairL, h2, rest_drop, head_byte, head_byte]
  · rw [(rest_nil (by omega)).1, (rest_nil (s := s) (a := a) (by omega)).2]; rfl
/-- what comes of what stands behind a backslash -/
def PairPost (b : Nat) (s : ByteArray) (a : Nat) (l : Value) (w : World) (e : Ending) (w' : World) : Prop :=
  w.grownBy w' (some b) ∧ match pairL (rest s a) with
  | none => e = .panicked (thrown 101)
  | some (x, n) => e = .returned (.int .u8 (x.toNat : Int)) ∧ Sc w' b s (a + n) l
theorem PairPost.bad {b : Nat} {s : ByteArray} {a : Nat} {l : Value} {w w' : World} (h : pairL (rest s a) = none) (g : w.grownBy w' (some b)) : PairPost b s a l w (.panicked (thrown 101)) w' := by
  unfold PairPost; rw [h]; exact ⟨g, rfl⟩
theorem PairPost.good {b : Nat} {s : ByteArray} {a n : Nat} {x : UInt8} {l : Value} {w w' : World} {z : Int} (h : pairL (rest s a) = some (x, n)) (hz : z = (x.toNat : Int)) (g : w.grownBy w' (some b)) (hr : Sc w' b s (a + n) l) : PairPost b s a l w (.returned (.int .u8 z)) w' := by
  unfold PairPost; rw [h, hz]; exact ⟨g, rfl, hr⟩

set_option maxRecDepth 100000 in
set_option maxHeartbeats 1000000 in
theorem pair_110 {b : Nat} {s : ByteArray} {a : Nat} {l : Value} {w : World} (hr : Sc w b s a l) (hs : s.size ≤ 1000000) (ha : a ≤ s.size) (h : byteAt s a = 110) :
    Calls Tryz.prog 139 #[.pointer (some ⟨b, 0, none⟩)] w (PairPost b s a l w) := by
  have HT := Lib.hid (show pairL (rest s a) = some (10, 1) by rw [pair_rest, h]; rfl)
  have HC := Lib.hid h; clear h
  go_enter Tryz.func139, Tryz.ntmps139
  go_wp2_with (first | (go_at_call 28; go_must ((with_reducible refine (now0 hr hs (by omega) HC.out).mono ?_)); rintro e w1 ⟨rfl, n1, rfl⟩) | (go_at_call 25; go_must ((with_reducible refine (pairs_any _).mono ?_)); rintro e w2 ⟨rfl, hb2, hm⟩; have hL := look_110 (m := w.heap.size) hm; have hr2 := (hr.drewN n1).new hb2; have c1 := hr2.c1; have f1 := hr2.fr 1))
  go_ret
  exact PairPost.good HT.out rfl (grown_trans (grown_trans (grown_drewN w n1 _) (grown_below hb2 _)) (grown_set _ ⟨b, 1, none⟩ _)) (hr2.set1 (by simp))

set_option maxRecDepth 100000 in
set_option maxHeartbeats 1000000 in
theorem pair_116 {b : Nat} {s : ByteArray} {a : Nat} {l : Value} {w : World} (hr : Sc w b s a l) (hs : s.size ≤ 1000000) (ha : a ≤ s.size) (h : byteAt s a = 116) :
    Calls Tryz.prog 139 #[.pointer (some ⟨b, 0, none⟩)] w (PairPost b s a l w) := by
  have HT := Lib.hid (show pairL (rest s a) = some (9, 1) by rw [pair_rest, h]; rfl)
  have HC := Lib.hid h; clear h
  go_enter Tryz.func139, Tryz.ntmps139
  go_wp2_with (first | (go_at_call 28; go_must ((with_reducible refine (now0 hr hs (by omega) HC.out).mono ?_)); rintro e w1 ⟨rfl, n1, rfl⟩) | (go_at_call 25; go_must ((with_reducible refine (pairs_any _).mono ?_)); rintro e w2 ⟨rfl, hb2, hm⟩; have hL := look_116 (m := w.heap.size) hm; have hr2 := (hr.drewN n1).new hb2; have c1 := hr2.c1; have f1 := hr2.fr 1))
  go_ret
  exact PairPost.good HT.out rfl (grown_trans (grown_trans (grown_drewN w n1 _) (grown_below hb2 _)) (grown_set _ ⟨b, 1, none⟩ _)) (hr2.set1 (by simp))

set_option maxRecDepth 100000 in
set_option maxHeartbeats 1000000 in
theorem pair_114 {b : Nat} {s : ByteArray} {a : Nat} {l : Value} {w : World} (hr : Sc w b s a l) (hs : s.size ≤ 1000000) (ha : a ≤ s.size) (h : byteAt s a = 114) :
    Calls Tryz.prog 139 #[.pointer (some ⟨b, 0, none⟩)] w (PairPost b s a l w) := by
  have HT := Lib.hid (show pairL (rest s a) = some (13, 1) by rw [pair_rest, h]; rfl)
  have HC := Lib.hid h; clear h
  go_enter Tryz.func139, Tryz.ntmps139
  go_wp2_with (first | (go_at_call 28; go_must ((with_reducible refine (now0 hr hs (by omega) HC.out).mono ?_)); rintro e w1 ⟨rfl, n1, rfl⟩) | (go_at_call 25; go_must ((with_reducible refine (pairs_any _).mono ?_)); rintro e w2 ⟨rfl, hb2, hm⟩; have hL := look_114 (m := w.heap.size) hm; have hr2 := (hr.drewN n1).new hb2; have c1 := hr2.c1; have f1 := hr2.fr 1))
  go_ret
  exact PairPost.good HT.out rfl (grown_trans (grown_trans (grown_drewN w n1 _) (grown_below hb2 _)) (grown_set _ ⟨b, 1, none⟩ _)) (hr2.set1 (by simp))

set_option maxRecDepth 100000 in
set_option maxHeartbeats 1000000 in
theorem pair_92 {b : Nat} {s : ByteArray} {a : Nat} {l : Value} {w : World} (hr : Sc w b s a l) (hs : s.size ≤ 1000000) (ha : a ≤ s.size) (h : byteAt s a = 92) :
    Calls Tryz.prog 139 #[.pointer (some ⟨b, 0, none⟩)] w (PairPost b s a l w) := by
  have HT := Lib.hid (show pairL (rest s a) = some (92, 1) by rw [pair_rest, h]; rfl)
  have HC := Lib.hid h; clear h
  go_enter Tryz.func139, Tryz.ntmps139
  go_wp2_with (first | (go_at_call 28; go_must ((with_reducible refine (now0 hr hs (by omega) HC.out).mono ?_)); rintro e w1 ⟨rfl, n1, rfl⟩) | (go_at_call 25; go_must ((with_reducible refine (pairs_any _).mono ?_)); rintro e w2 ⟨rfl, hb2, hm⟩; have hL := look_92 (m := w.heap.size) hm; have hr2 := (hr.drewN n1).new hb2; have c1 := hr2.c1; have f1 := hr2.fr 1))
  go_ret
  exact PairPost.good HT.out rfl (grown_trans (grown_trans (grown_drewN w n1 _) (grown_below hb2 _)) (grown_set _ ⟨b, 1, none⟩ _)) (hr2.set1 (by simp))

set_option maxRecDepth 100000 in
set_option maxHeartbeats 1000000 in
theorem pair_34 {b : Nat} {s : ByteArray} {a : Nat} {l : Value} {w : World} (hr : Sc w b s a l) (hs : s.size ≤ 1000000) (ha : a ≤ s.size) (h : byteAt s a = 34) :
    Calls Tryz.prog 139 #[.pointer (some ⟨b, 0, none⟩)] w (PairPost b s a l w) := by
  have HT := Lib.hid (show pairL (rest s a) = some (34, 1) by rw [pair_rest, h]; rfl)
  have HC := Lib.hid h; clear h
  go_enter Tryz.func139, Tryz.ntmps139
  go_wp2_with (first | (go_at_call 28; go_must ((with_reducible refine (now0 hr hs (by omega) HC.out).mono ?_)); rintro e w1 ⟨rfl, n1, rfl⟩) | (go_at_call 25; go_must ((with_reducible refine (pairs_any _).mono ?_)); rintro e w2 ⟨rfl, hb2, hm⟩; have hL := look_34 (m := w.heap.size) hm; have hr2 := (hr.drewN n1).new hb2; have c1 := hr2.c1; have f1 := hr2.fr 1))
  go_ret
  exact PairPost.good HT.out rfl (grown_trans (grown_trans (grown_drewN w n1 _) (grown_below hb2 _)) (grown_set _ ⟨b, 1, none⟩ _)) (hr2.set1 (by simp))

theorem or_table : ∀ x y : Fin 16, bits BinOp.or IntKind.i64 ((x.val : Int) * 16) (y.val : Int) % 256 = ((UInt8.ofNat (16 * x.val + y.val)).toNat : Int) := by decide +kernel
theorem or_hex {x y : Nat} (hx : x < 16) (hy : y < 16) : bits BinOp.or IntKind.i64 ((x : Int) * 16) (y : Int) % 256 = ((UInt8.ofNat (16 * x + y)).toNat : Int) := or_table ⟨x, hx⟩ ⟨y, hy⟩
set_option maxRecDepth 100000 in
set_option maxHeartbeats 2000000 in
theorem pair_x {b : Nat} {s : ByteArray} {a h1 h2 : Nat} {l : Value} {w : World} (hr : Sc w b s a l) (hs : s.size ≤ 1000000) (ha : a ≤ s.size) (h : byteAt s a = 120) (hx1 : hexN (byteAt s (a + 1)) = h1) (hx2 : hexN (byteAt s (a + 2)) = h2) (hlt1 : h1 < 16) (hlt2 : h2 < 16) :
    Calls Tryz.prog 139 #[.pointer (some ⟨b, 0, none⟩)] w (PairPost b s a l w) := by
  have HT := Lib.hid (show pairL (rest s a) = some (UInt8.ofNat (16 * h1 + h2), 3) by rw [pair_rest, h, hx1, hx2]; simp [hlt1, hlt2])
  have HX1 := Lib.hid (show hexI (byteAt s (a + 1)) = (h1 : Int) by unfold hexI; rw [hx1, if_pos hlt1])
  have HX2 := Lib.hid (show hexI (byteAt s (a + 2)) = (h2 : Int) by unfold hexI; rw [hx2, if_pos hlt2])
  have HC := Lib.hid h; clear h hx1 hx2
  go_enter Tryz.func139, Tryz.ntmps139
  go_wp2_with (first | (go_at_call 28; go_must ((with_reducible refine (now0 hr hs (by omega) HC.out).mono ?_)); rintro e w1 ⟨rfl, n1, rfl⟩) | (go_at_call 25; go_must ((with_reducible refine (pairs_any _).mono ?_)); rintro e w2 ⟨rfl, hb2, hm⟩; have hL := look_no (m := w.heap.size) hm (c := 120) (by omega) (by omega) (by omega) (by omega) (by omega); have hL := (show (Instr.lookup 87 (.map (some w.heap.size)) (.int .u8 120) true).run Tryz.prog w2 = .ok (.tuple #[.int .u8 0, .bool false]) w2 from hL); have hr2 := (hr.drewN n1).new hb2; have c1 := hr2.c1; have f1 := hr2.fr 1))
  go_quiet ((first | (go_at_call 28; with_reducible exact Calls.quiet_of (now1 (hr2.drewN _) hs (by omega) rfl)) | (go_at_call 28; with_reducible exact Calls.quiet_of (now2 (hr2.drewN _) hs (by omega) rfl)) | (go_at_call 159; with_reducible exact Calls.quiet_of_same ((hex_is (byteAt_lt _ _) _ HX1.out).mono fun _ _ h => ⟨h.1, h.2.symm⟩)) | (go_at_call 159; with_reducible exact Calls.quiet_of_same ((hex_is (byteAt_lt _ _) _ HX2.out).mono fun _ _ h => ⟨h.1, h.2.symm⟩))))
  go_wp2
  go_ret
  exact PairPost.good HT.out (or_hex hlt1 hlt2) (grown_trans (grown_trans (grown_trans (grown_drewN w n1 _) (grown_below hb2 _)) (grown_drewN _ _ _)) (grown_set _ ⟨b, 1, none⟩ _)) ((hr2.drewN _).set1 (by simp))

set_option maxRecDepth 100000 in
set_option maxHeartbeats 2000000 in
theorem pair_other {b : Nat} {s : ByteArray} {a c : Nat} {l : Value} {w : World} (hr : Sc w b s a l) (hs : s.size ≤ 1000000) (ha : a ≤ s.size) (hc : byteAt s a = c) (h110 : c ≠ 110) (h116 : c ≠ 116) (h114 : c ≠ 114) (h92 : c ≠ 92) (h34 : c ≠ 34) (h120 : c ≠ 120) :
    Calls Tryz.prog 139 #[.pointer (some ⟨b, 0, none⟩)] w (PairPost b s a l w) := by
  have HT := Lib.hid (show pairL (rest s a) = none by rw [pair_rest, hc, if_neg h110, if_neg h116, if_neg h114, if_neg h92, if_neg h34, if_neg (fun h => h120 h.1)])
  obtain ⟨v1, hv1⟩ : ∃ v, hexI (byteAt s (a + 1)) = v := ⟨_, rfl⟩
  obtain ⟨v2, hv2⟩ : ∃ v, hexI (byteAt s (a + 2)) = v := ⟨_, rfl⟩
  have HX1 := Lib.hid hv1; have HX2 := Lib.hid hv2; clear hv1 hv2
  have e120 : ((c : Int) != 120) = true := bne_iff_ne.2 (by omega)
  have HC := Lib.hid hc; clear hc
  go_enter Tryz.func139, Tryz.ntmps139
  go_wp2_with (first | (go_at_call 28; go_must ((with_reducible refine (now0 hr hs (by omega) HC.out).mono ?_)); rintro e w1 ⟨rfl, n1, rfl⟩) | (go_at_call 25; go_must ((with_reducible refine (pairs_any _).mono ?_)); rintro e w2 ⟨rfl, hb2, hm⟩; have hL := look_no (m := w.heap.size) hm (c := c) h110 h116 h114 h92 h34; have hr2 := (hr.drewN n1).new hb2; have c1 := hr2.c1; have f1 := hr2.fr 1))
  go_quiet ((first | (go_at_call 28; with_reducible exact Calls.quiet_of (now1 (hr2.drewN _) hs (by omega) rfl)) | (go_at_call 28; with_reducible exact Calls.quiet_of (now2 (hr2.drewN _) hs (by omega) rfl)) | (go_at_call 159; with_reducible exact Calls.quiet_of_same ((hex_is (byteAt_lt _ _) _ HX1.out).mono fun _ _ h => ⟨h.1, h.2.symm⟩)) | (go_at_call 159; with_reducible exact Calls.quiet_of_same ((hex_is (byteAt_lt _ _) _ HX2.out).mono fun _ _ h => ⟨h.1, h.2.symm⟩))))
  go_wp2_with (go_at_call 138; refine (no_any _).mono ?_; rintro e w' ⟨rfl, rfl⟩)
  exact ⟨rfl, PairPost.bad HT.out (grown_trans (grown_trans (grown_drewN w n1 _) (grown_below hb2 _)) (grown_drewN _ _ _))⟩

set_option maxRecDepth 100000 in
set_option maxHeartbeats 2000000 in
theorem pair_hex1 {b : Nat} {s : ByteArray} {a : Nat} {l : Value} {w : World} (hr : Sc w b s a l) (hs : s.size ≤ 1000000) (ha : a ≤ s.size) (hc : byteAt s a = 120) (hx : hexN (byteAt s (a + 1)) = 16) :
    Calls Tryz.prog 139 #[.pointer (some ⟨b, 0, none⟩)] w (PairPost b s a l w) := by
  have HT := Lib.hid (show pairL (rest s a) = none by rw [pair_rest, hc, hx]; rfl)
  have HX1 := Lib.hid (show hexI (byteAt s (a + 1)) = -1 by unfold hexI; rw [hx]; rfl)
  obtain ⟨v2, hv2⟩ : ∃ v, hexI (byteAt s (a + 2)) = v := ⟨_, rfl⟩
  have HX2 := Lib.hid hv2; clear hv2
  clear hx
  have HC := Lib.hid hc; clear hc
  go_enter Tryz.func139, Tryz.ntmps139
  go_wp2_with (first | (go_at_call 28; go_must ((with_reducible refine (now0 hr hs (by omega) HC.out).mono ?_)); rintro e w1 ⟨rfl, n1, rfl⟩) | (go_at_call 25; go_must ((with_reducible refine (pairs_any _).mono ?_)); rintro e w2 ⟨rfl, hb2, hm⟩; have hL := look_no (m := w.heap.size) hm (c := 120) (by omega) (by omega) (by omega) (by omega) (by omega); have hL := (show (Instr.lookup 87 (.map (some w.heap.size)) (.int .u8 120) true).run Tryz.prog w2 = .ok (.tuple #[.int .u8 0, .bool false]) w2 from hL); have hr2 := (hr.drewN n1).new hb2; have c1 := hr2.c1; have f1 := hr2.fr 1))
  go_quiet ((first | (go_at_call 28; with_reducible exact Calls.quiet_of (now1 (hr2.drewN _) hs (by omega) rfl)) | (go_at_call 28; with_reducible exact Calls.quiet_of (now2 (hr2.drewN _) hs (by omega) rfl)) | (go_at_call 159; with_reducible exact Calls.quiet_of_same ((hex_is (byteAt_lt _ _) _ HX1.out).mono fun _ _ h => ⟨h.1, h.2.symm⟩)) | (go_at_call 159; with_reducible exact Calls.quiet_of_same ((hex_is (byteAt_lt _ _) _ HX2.out).mono fun _ _ h => ⟨h.1, h.2.symm⟩))))
  go_wp2_with (go_at_call 138; refine (no_any _).mono ?_; rintro e w' ⟨rfl, rfl⟩)
  exact ⟨rfl, PairPost.bad HT.out (grown_trans (grown_trans (grown_drewN w n1 _) (grown_below hb2 _)) (grown_drewN _ _ _))⟩

set_option maxRecDepth 100000 in
set_option maxHeartbeats 2000000 in
theorem pair_hex2 {b : Nat} {s : ByteArray} {a : Nat} {l : Value} {w : World} (hr : Sc w b s a l) (hs : s.size ≤ 1000000) (ha : a ≤ s.size) (hc : byteAt s a = 120) (hx1 : hexN (byteAt s (a + 1)) < 16) (hx : hexN (byteAt s (a + 2)) = 16) :
    Calls Tryz.prog 139 #[.pointer (some ⟨b, 0, none⟩)] w (PairPost b s a l w) := by
  have HT := Lib.hid (show pairL (rest s a) = none by rw [pair_rest, hc, hx]; simp)
  obtain ⟨h1, hh1⟩ : ∃ h1, hexN (byteAt s (a + 1)) = h1 := ⟨_, rfl⟩
  rw [hh1] at hx1
  have HX1 := Lib.hid (show hexI (byteAt s (a + 1)) = (h1 : Int) by unfold hexI; rw [hh1, if_pos hx1])
  have HX2 := Lib.hid (show hexI (byteAt s (a + 2)) = -1 by unfold hexI; rw [hx]; rfl)
  clear hx hh1
  have hn1 : decide ((h1 : Int) < 0) = false := by simp
  have HC := Lib.hid hc; clear hc
  go_enter Tryz.func139, Tryz.ntmps139
  go_wp2_with (first | (go_at_call 28; go_must ((with_reducible refine (now0 hr hs (by omega) HC.out).mono ?_)); rintro e w1 ⟨rfl, n1, rfl⟩) | (go_at_call 25; go_must ((with_reducible refine (pairs_any _).mono ?_)); rintro e w2 ⟨rfl, hb2, hm⟩; have hL := look_no (m := w.heap.size) hm (c := 120) (by omega) (by omega) (by omega) (by omega) (by omega); have hL := (show (Instr.lookup 87 (.map (some w.heap.size)) (.int .u8 120) true).run Tryz.prog w2 = .ok (.tuple #[.int .u8 0, .bool false]) w2 from hL); have hr2 := (hr.drewN n1).new hb2; have c1 := hr2.c1; have f1 := hr2.fr 1))
  go_quiet ((first | (go_at_call 28; with_reducible exact Calls.quiet_of (now1 (hr2.drewN _) hs (by omega) rfl)) | (go_at_call 28; with_reducible exact Calls.quiet_of (now2 (hr2.drewN _) hs (by omega) rfl)) | (go_at_call 159; with_reducible exact Calls.quiet_of_same ((hex_is (byteAt_lt _ _) _ HX1.out).mono fun _ _ h => ⟨h.1, h.2.symm⟩)) | (go_at_call 159; with_reducible exact Calls.quiet_of_same ((hex_is (byteAt_lt _ _) _ HX2.out).mono fun _ _ h => ⟨h.1, h.2.symm⟩))))
  go_wp2_with (go_at_call 138; refine (no_any _).mono ?_; rintro e w' ⟨rfl, rfl⟩)
  exact ⟨rfl, PairPost.bad HT.out (grown_trans (grown_trans (grown_drewN w n1 _) (grown_below hb2 _)) (grown_drewN _ _ _))⟩

theorem hexN_le (n : Nat) : hexN n ≤ 16 := by
  unfold hexN
  split
  · omega
  · split
    · omega
    · split <;> omega
/-- what stands behind a backslash -/
theorem pair_any {b : Nat} {s : ByteArray} {a : Nat} {l : Value} {w : World} (hr : Sc w b s a l) (hs : s.size ≤ 1000000) (ha : a ≤ s.size) :
    Calls Tryz.prog 139 #[.pointer (some ⟨b, 0, none⟩)] w (PairPost b s a l w) := by
  by_cases h110 : byteAt s a = 110
  · exact pair_110 hr hs ha h110
  by_cases h116 : byteAt s a = 116
  · exact pair_116 hr hs ha h116
  by_cases h114 : byteAt s a = 114
  · exact pair_114 hr hs ha h114
  by_cases h92 : byteAt s a = 92
  · exact pair_92 hr hs ha h92
  by_cases h34 : byteAt s a = 34
  · exact pair_34 hr hs ha h34
  by_cases h120 : byteAt s a = 120
  · have l1 := hexN_le (byteAt s (a + 1)); have l2 := hexN_le (byteAt s (a + 2))
    by_cases x1 : hexN (byteAt s (a + 1)) = 16
    · exact pair_hex1 hr hs ha h120 x1
    · by_cases x2 : hexN (byteAt s (a + 2)) = 16
      · exact pair_hex2 hr hs ha h120 (by omega) x2
      · exact pair_x hr hs ha h120 rfl rfl (by omega) (by omega)
  · exact pair_other hr hs ha rfl h110 h116 h114 h92 h34 h120
end Go.Proofs.YtopbhopblpfjpaaGreatDoor.ScanC
