/- The program's operator of whole numbers, walked. -/
import Derived.Test.YtkgginkdhggpgaaGreatDoorNumB
import Derived.MapKept
namespace Go.Proofs.YtkgginkdhggpgaaGreatDoor.NumC
open Go.RowKit Go.Proofs.YtkgginkdhggpgaaGreatDoor.Flo Go.Proofs.YtkgginkdhggpgaaGreatDoor.NumA Go.Proofs.YtkgginkdhggpgaaGreatDoor.NumB Go.Proofs.YtkgginkdhggpgaaGreatDoor.Cut

/-- a key more in a map that is the last block -/
theorem map_put {mt kt et r : Nat} {es : Array MapEntry} {clock : Nat} {w : World} (hm : Tryz.prog.underlying mt = some (.map kt et)) (hk : Tryz.prog.underlying kt = some .string) (hb : w.heap[r]? = some (.map es clock)) (k : ByteArray) (v : Value) (hn : Instr.findNow .string (.string k) es.toList 0 = some none) :
    ∃ w', (Instr.mapUpdate mt (.map (some r)) (.string k) v).run Tryz.prog w = .ok () w' ∧ w'.heap[r]? = some (.map (es.push { key := .string k, val := v, born := clock }) (clock + 1)) ∧ Below r w w' := by
  refine ⟨{ w with heap := w.heap.setIfInBounds r (.map (es.push { key := .string k, val := v, born := clock }) (clock + 1)) }, ?_, ?_, ?_⟩
  · unfold Instr.mapUpdate
    simp [run_underlying hm, MapKept.run_getObj_map hb, MapKept.run_checkKey hk (show MapKept.IsKey .string (.string k) by trivial), MapKept.run_findKey hk hn, MapKept.run_setObj_map _ hb, Result.andThen]
  · have := (Array.getElem?_eq_some_iff.1 hb).1
    simp [this]
  · refine ⟨rfl, rfl, rfl, by simp, fun j hj => ?_⟩
    simp only [Array.getElem?_setIfInBounds]
    rw [if_neg (by omega)]
theorem map_hit {mt kt et r : Nat} {es : Array MapEntry} {clock : Nat} {w : World} (hm : Tryz.prog.underlying mt = some (.map kt et)) (hk : Tryz.prog.underlying kt = some .string) (hb : w.heap[r]? = some (.map es clock)) (k : ByteArray) {i : Nat} {v : Value} (hn : Instr.findNow .string (.string k) es.toList 0 = some (some (i, v))) :
    (Instr.lookup mt (.map (some r)) (.string k) true).run Tryz.prog w = .ok (.tuple #[v, .bool true]) w := by
  unfold Instr.lookup
  simp [run_underlying hm, MapKept.run_getObj_map hb, MapKept.run_checkKey hk (show MapKept.IsKey .string (.string k) by trivial), MapKept.run_findKey hk hn, Result.andThen]
theorem map_miss {mt kt et r : Nat} {es : Array MapEntry} {clock : Nat} {w : World} {z : Value} (hm : Tryz.prog.underlying mt = some (.map kt et)) (hk : Tryz.prog.underlying kt = some .string) (hz : ∀ w, (zeroValue et).run Tryz.prog w = .ok z w) (hb : w.heap[r]? = some (.map es clock)) (k : ByteArray) (hn : Instr.findNow .string (.string k) es.toList 0 = some none) :
    (Instr.lookup mt (.map (some r)) (.string k) true).run Tryz.prog w = .ok (.tuple #[z, .bool false]) w := by
  unfold Instr.lookup
  simp [run_underlying hm, MapKept.run_getObj_map hb, MapKept.run_checkKey hk (show MapKept.IsKey .string (.string k) by trivial), MapKept.run_findKey hk hn, hz, Result.andThen]
/-- the table -/
def entsI (pa pb : Value) : Array MapEntry := #[{ key := .string { data := #[43] }, val := .func (.func 30) #[] #[pa, pb], born := 0 }, { key := .string { data := #[45] }, val := .func (.func 31) #[] #[pa, pb], born := 1 }, { key := .string { data := #[42] }, val := .func (.func 32) #[] #[pa, pb], born := 2 }, { key := .string { data := #[47] }, val := .func (.func 33) #[] #[pa, pb], born := 3 }, { key := .string { data := #[37] }, val := .func (.func 35) #[] #[pa, pb], born := 4 }]
/-- what comes of an operator that divides, or not -/
def Rests (f : FuncId) (a b x y : Int) : Prop := ∀ {E N p q : Nat} {n : Value} {W : World}, Two p q a b W → W.heap[N]? = some (.cells #[n] 2 (0, 0)) → W.heap[E]? = some (.cells #[.int .i64 0] 24 (0, 0)) → N ≠ E → ∀ {B : Nat}, B ≤ N → B ≤ E → B ≤ W.heap.size →
    Calls Tryz.prog 36 #[.pointer (some ⟨E, 0, none⟩), .pointer (some ⟨N, 0, none⟩), .func (.func f) #[] #[.pointer (some ⟨p, 0, none⟩), .pointer (some ⟨q, 0, none⟩)]] W fun e w' =>
      e = .returned (.tuple #[]) ∧ w'.heap[N]? = some (.cells #[.int .i64 x] 2 (0, 0)) ∧ w'.heap[E]? = some (.cells #[.int .i64 y] 24 (0, 0)) ∧ Below B W w'
theorem rests_ok {f : FuncId} {a b v : Int} (hd : ∀ p q, Does f p q a b (.returned (.int .i64 v))) (hcf : ∀ (args : Array Value) (w : World), (callFunc f args).run Tryz.prog w = .ok (.enter f args) w) : Rests f a b v 0 :=
  fun h1 h2 h3 h4 _ h5 h6 h7 => rest_ok (hd _ _) h1 h2 h3 h4 h5 h6 h7 hcf
theorem rests_no {f : FuncId} {a : Int} (hd : ∀ p q, Does f p q a 0 (.panicked thrownN)) (hcf : ∀ (args : Array Value) (w : World), (callFunc f args).run Tryz.prog w = .ok (.enter f args) w) : Rests f a 0 0 201 :=
  fun h1 h2 h3 h4 _ h5 h6 h7 => rest_no (hd _ _) h1 h2 h3 h4 h5 h6 h7 hcf
/-- the two results, read out of their variables -/
theorem res_int {w : World} {H q : Nat} {v f : Value} {tmps : Array Value} (hH : w.heap[H]? = some (.cells #[v] 2 (0, 0))) (hq : w.heap[q]? = some (.cells #[f] 24 (0, 0)))
    (h2 : tmps[6]?.getD undef = .pointer (some ⟨H, 0, none⟩)) (h3 : tmps[7]?.getD undef = .pointer (some ⟨q, 0, none⟩)) : (results Tryz.f15 tmps).run Tryz.prog w = .ok (.tuple #[v, f]) w := by
  obtain ⟨a1, _⟩ := cells1 hH
  obtain ⟨b1, _⟩ := cells1 hq
  simp [results, Tryz.results15, go_sem, h2, h3, a1, b1]
set_option maxRecDepth 100000 in
set_option maxHeartbeats 2000000 in
/-- an operator that is known -/
theorem int_hit {op : ByteArray} {f : FuncId} {a b x y : Int} {w : World} {i : Nat} (hf : ∀ pa pb, Instr.findNow .string (.string op) (entsI pa pb).toList 0 = some (some (i, .func (.func f) #[] #[pa, pb]))) (hr : Rests f a b x y) :
    Calls Tryz.prog 15 #[.string op, .int .i64 a, .int .i64 b] w fun e w' => e = .returned (.tuple #[.int .i64 x, .int .i64 y]) ∧ Below w.heap.size w w' := by
  have HF := Lib.hid hf; clear hf
  have hmf : ∀ (fn : Fn) (first cap : Array Value) (w : World), (Instr.makeFunc fn first cap).run Tryz.prog w = .ok (.func fn first cap) w := fun _ _ _ _ => rfl
  have hmm := @run_makeMap Tryz.prog
  have o1 : w.heap.size < w.heap.size + 1 + 1 + 1 + 1 := by omega
  have o2 : w.heap.size + 1 < w.heap.size + 1 + 1 + 1 + 1 := by omega
  have o3 : w.heap.size + 1 + 1 < w.heap.size + 1 + 1 + 1 + 1 := by omega
  have o4 : w.heap.size + 1 + 1 + 1 < w.heap.size + 1 + 1 + 1 + 1 := by omega
  have hb0 : Below w.heap.size w (((((w.alloc (.cells #[.int .i64 a] 2)).alloc (.cells #[.int .i64 b] 2)).alloc (.cells #[.int .i64 0] 2)).alloc (.cells #[.int .i64 0] 24)).alloc (.map #[] 0)) := (((((Below.refl w.heap.size w).alloc (Nat.le_refl _) _).alloc (by simp <;> omega) _).alloc (by simp <;> omega) _).alloc (by simp <;> omega) _).alloc (by simp <;> omega) _
  have hA : (((((w.alloc (.cells #[.int .i64 a] 2)).alloc (.cells #[.int .i64 b] 2)).alloc (.cells #[.int .i64 0] 2)).alloc (.cells #[.int .i64 0] 24)).alloc (.map #[] 0)).heap[w.heap.size]? = some (.cells #[.int .i64 a] 2 (0, 0)) := by
    rw [Below.heap_alloc _ _ _ (by simp <;> omega), Below.heap_alloc _ _ _ (by simp <;> omega), Below.heap_alloc _ _ _ (by simp <;> omega), Below.heap_alloc _ _ _ (by simp <;> omega)]; exact heap_alloc_new w _
  have hB : (((((w.alloc (.cells #[.int .i64 a] 2)).alloc (.cells #[.int .i64 b] 2)).alloc (.cells #[.int .i64 0] 2)).alloc (.cells #[.int .i64 0] 24)).alloc (.map #[] 0)).heap[w.heap.size + 1]? = some (.cells #[.int .i64 b] 2 (0, 0)) := by
    rw [Below.heap_alloc _ _ _ (by simp <;> omega), Below.heap_alloc _ _ _ (by simp <;> omega), Below.heap_alloc _ _ _ (by simp <;> omega)]
    have := heap_alloc_new (w.alloc (.cells #[.int .i64 a] 2)) (.cells #[.int .i64 b] 2)
    simpa using this
  have hN : (((((w.alloc (.cells #[.int .i64 a] 2)).alloc (.cells #[.int .i64 b] 2)).alloc (.cells #[.int .i64 0] 2)).alloc (.cells #[.int .i64 0] 24)).alloc (.map #[] 0)).heap[w.heap.size + 1 + 1]? = some (.cells #[.int .i64 0] 2 (0, 0)) := by
    rw [Below.heap_alloc _ _ _ (by simp <;> omega), Below.heap_alloc _ _ _ (by simp <;> omega)]
    have := heap_alloc_new ((w.alloc (.cells #[.int .i64 a] 2)).alloc (.cells #[.int .i64 b] 2)) (.cells #[.int .i64 0] 2)
    simpa using this
  have hE : (((((w.alloc (.cells #[.int .i64 a] 2)).alloc (.cells #[.int .i64 b] 2)).alloc (.cells #[.int .i64 0] 2)).alloc (.cells #[.int .i64 0] 24)).alloc (.map #[] 0)).heap[w.heap.size + 1 + 1 + 1]? = some (.cells #[.int .i64 0] 24 (0, 0)) := by
    rw [Below.heap_alloc _ _ _ (by simp <;> omega)]
    have := heap_alloc_new (((w.alloc (.cells #[.int .i64 a] 2)).alloc (.cells #[.int .i64 b] 2)).alloc (.cells #[.int .i64 0] 2)) (.cells #[.int .i64 0] 24)
    simpa using this
  have hM : (((((w.alloc (.cells #[.int .i64 a] 2)).alloc (.cells #[.int .i64 b] 2)).alloc (.cells #[.int .i64 0] 2)).alloc (.cells #[.int .i64 0] 24)).alloc (.map #[] 0)).heap[w.heap.size + 1 + 1 + 1 + 1]? = some (.map #[] 0) := by
    have := heap_alloc_new ((((w.alloc (.cells #[.int .i64 a] 2)).alloc (.cells #[.int .i64 b] 2)).alloc (.cells #[.int .i64 0] 2)).alloc (.cells #[.int .i64 0] 24)) (.map #[] 0)
    simpa using this
  have HA := Lib.hid hA; have HB := Lib.hid hB; have HN := Lib.hid hN; have HE := Lib.hid hE; have HM := Lib.hid hM; have HB0 := Lib.hid hb0
  clear hA hB hN hE hM hb0
  go_enter Tryz.func15, Tryz.ntmps15
  go_wp2_with fail
  generalize (((((w.alloc (.cells #[.int .i64 a] 2)).alloc (.cells #[.int .i64 b] 2)).alloc (.cells #[.int .i64 0] 2)).alloc (.cells #[.int .i64 0] 24)).alloc (.map #[] 0)) = W0 at *
  generalize hp : w.heap.size = p at *
  have HP := Lib.hid hp; clear hp
  generalize hq : p + 1 = q at *
  generalize hNN : q + 1 = N at *
  generalize hEE : N + 1 = E at *
  generalize hRR : E + 1 = R at *
  obtain ⟨w1, e1, M1, B1⟩ := map_put (w := W0) Tryz.underlying53 Tryz.underlying9 HM.out { data := #[43] } (.func (.func 30) #[] #[.pointer (some ⟨p, 0, none⟩), .pointer (some ⟨q, 0, none⟩)]) (by rfl)
  rw [e1]
  go_wp2_with fail
  obtain ⟨w2, e2, M2, B2⟩ := map_put (w := w1) Tryz.underlying53 Tryz.underlying9 M1 { data := #[45] } (.func (.func 31) #[] #[.pointer (some ⟨p, 0, none⟩), .pointer (some ⟨q, 0, none⟩)]) (by rfl)
  rw [e2]
  go_wp2_with fail
  obtain ⟨w3, e3, M3, B3⟩ := map_put (w := w2) Tryz.underlying53 Tryz.underlying9 M2 { data := #[42] } (.func (.func 32) #[] #[.pointer (some ⟨p, 0, none⟩), .pointer (some ⟨q, 0, none⟩)]) (by rfl)
  rw [e3]
  go_wp2_with fail
  obtain ⟨w4, e4, M4, B4⟩ := map_put (w := w3) Tryz.underlying53 Tryz.underlying9 M3 { data := #[47] } (.func (.func 33) #[] #[.pointer (some ⟨p, 0, none⟩), .pointer (some ⟨q, 0, none⟩)]) (by rfl)
  rw [e4]
  go_wp2_with fail
  obtain ⟨w5, e5, M5, B5⟩ := map_put (w := w4) Tryz.underlying53 Tryz.underlying9 M4 { data := #[37] } (.func (.func 35) #[] #[.pointer (some ⟨p, 0, none⟩), .pointer (some ⟨q, 0, none⟩)]) (by rfl)
  rw [e5]
  go_wp2_with fail
  have BB := (((B1.trans B2).trans B3).trans B4).trans B5
  have M := Lib.hid M5
  have A1 := Lib.hid ((BB.block p (by omega)).trans HA.out); have A2 := Lib.hid ((BB.block q (by omega)).trans HB.out); have A3 := Lib.hid ((BB.block N (by omega)).trans HN.out); have A4 := Lib.hid ((BB.block E (by omega)).trans HE.out)
  have hbw : Below p w w5 := HB0.out.trans (BB.mono (by omega))
  clear e1 e2 e3 e4 e5 M1 M2 M3 M4 M5 B1 B2 B3 B4 B5 BB HA HB HN HE HM HB0
  rw [map_hit (w := w5) Tryz.underlying53 Tryz.underlying9 M.out op (HF.out _ _)]
  go_wp2_with fail
  have a1 := cells1 A1.out; have a2 := cells1 A2.out
  refine (hr ⟨a1.1, a2.1⟩ A3.out A4.out (by omega) (B := p) (by omega) (by omega) (Nat.le_of_lt (Array.getElem?_eq_some_iff.1 A1.out).1)).mono ?_
  rintro e w6 ⟨rfl, k1, k2, k3⟩
  obtain ⟨n1, n2⟩ := cells1 k1; obtain ⟨m1, m2⟩ := cells1 k2
  have K1 := Lib.hid k1; have K2 := Lib.hid k2; clear k1 k2 a1 a2
  have hNE : N ≠ E := by omega
  have hEN : E ≠ N := by omega
  go_wp2_with fail
  have j1 := heap_setCell_same w6 N 0 _ _ (.int .i64 x) K1.out
  have j2 : (w6.setCell ⟨N, 0, none⟩ (.int .i64 x)).heap[E]? = _ := (Below.heap_setCell _ _ _ _ hEN).trans K2.out
  have j3 := heap_setCell_same _ E 0 _ _ (.int .i64 y) j2
  have j4 := (Below.heap_setCell (w6.setCell ⟨N, 0, none⟩ (.int .i64 x)) ⟨E, 0, none⟩ (.int .i64 y) N hNE).trans j1
  refine bodyPost_ret (res_int j4 j3 rfl rfl) rfl ?_
  exact ⟨rfl, by rw [HP.out]; exact ((hbw.trans k3).setCell (p := ⟨N, 0, none⟩) (show p ≤ N by omega) _).setCell (p := ⟨E, 0, none⟩) (show p ≤ E by omega) _⟩
set_option maxRecDepth 100000 in
set_option maxHeartbeats 2000000 in
/-- another one -/
theorem int_miss {op : ByteArray} {a b : Int} {w : World} (hf : ∀ pa pb, Instr.findNow .string (.string op) (entsI pa pb).toList 0 = some none) :
    Calls Tryz.prog 15 #[.string op, .int .i64 a, .int .i64 b] w fun e w' => e = .returned (.tuple #[.int .i64 0, .int .i64 2]) ∧ Below w.heap.size w w' := by
  have HF := Lib.hid hf; clear hf
  have hmf : ∀ (fn : Fn) (first cap : Array Value) (w : World), (Instr.makeFunc fn first cap).run Tryz.prog w = .ok (.func fn first cap) w := fun _ _ _ _ => rfl
  have hmm := @run_makeMap Tryz.prog
  have o1 : w.heap.size < w.heap.size + 1 + 1 + 1 + 1 := by omega
  have o2 : w.heap.size + 1 < w.heap.size + 1 + 1 + 1 + 1 := by omega
  have o3 : w.heap.size + 1 + 1 < w.heap.size + 1 + 1 + 1 + 1 := by omega
  have o4 : w.heap.size + 1 + 1 + 1 < w.heap.size + 1 + 1 + 1 + 1 := by omega
  have hb0 : Below w.heap.size w (((((w.alloc (.cells #[.int .i64 a] 2)).alloc (.cells #[.int .i64 b] 2)).alloc (.cells #[.int .i64 0] 2)).alloc (.cells #[.int .i64 0] 24)).alloc (.map #[] 0)) := (((((Below.refl w.heap.size w).alloc (Nat.le_refl _) _).alloc (by simp <;> omega) _).alloc (by simp <;> omega) _).alloc (by simp <;> omega) _).alloc (by simp <;> omega) _
  have hA : (((((w.alloc (.cells #[.int .i64 a] 2)).alloc (.cells #[.int .i64 b] 2)).alloc (.cells #[.int .i64 0] 2)).alloc (.cells #[.int .i64 0] 24)).alloc (.map #[] 0)).heap[w.heap.size]? = some (.cells #[.int .i64 a] 2 (0, 0)) := by
    rw [Below.heap_alloc _ _ _ (by simp <;> omega), Below.heap_alloc _ _ _ (by simp <;> omega), Below.heap_alloc _ _ _ (by simp <;> omega), Below.heap_alloc _ _ _ (by simp <;> omega)]; exact heap_alloc_new w _
  have hB : (((((w.alloc (.cells #[.int .i64 a] 2)).alloc (.cells #[.int .i64 b] 2)).alloc (.cells #[.int .i64 0] 2)).alloc (.cells #[.int .i64 0] 24)).alloc (.map #[] 0)).heap[w.heap.size + 1]? = some (.cells #[.int .i64 b] 2 (0, 0)) := by
    rw [Below.heap_alloc _ _ _ (by simp <;> omega), Below.heap_alloc _ _ _ (by simp <;> omega), Below.heap_alloc _ _ _ (by simp <;> omega)]
    have := heap_alloc_new (w.alloc (.cells #[.int .i64 a] 2)) (.cells #[.int .i64 b] 2)
    simpa using this
  have hN : (((((w.alloc (.cells #[.int .i64 a] 2)).alloc (.cells #[.int .i64 b] 2)).alloc (.cells #[.int .i64 0] 2)).alloc (.cells #[.int .i64 0] 24)).alloc (.map #[] 0)).heap[w.heap.size + 1 + 1]? = some (.cells #[.int .i64 0] 2 (0, 0)) := by
    rw [Below.heap_alloc _ _ _ (by simp <;> omega), Below.heap_alloc _ _ _ (by simp <;> omega)]
    have := heap_alloc_new ((w.alloc (.cells #[.int .i64 a] 2)).alloc (.cells #[.int .i64 b] 2)) (.cells #[.int .i64 0] 2)
    simpa using this
  have hE : (((((w.alloc (.cells #[.int .i64 a] 2)).alloc (.cells #[.int .i64 b] 2)).alloc (.cells #[.int .i64 0] 2)).alloc (.cells #[.int .i64 0] 24)).alloc (.map #[] 0)).heap[w.heap.size + 1 + 1 + 1]? = some (.cells #[.int .i64 0] 24 (0, 0)) := by
    rw [Below.heap_alloc _ _ _ (by simp <;> omega)]
    have := heap_alloc_new (((w.alloc (.cells #[.int .i64 a] 2)).alloc (.cells #[.int .i64 b] 2)).alloc (.cells #[.int .i64 0] 2)) (.cells #[.int .i64 0] 24)
    simpa using this
  have hM : (((((w.alloc (.cells #[.int .i64 a] 2)).alloc (.cells #[.int .i64 b] 2)).alloc (.cells #[.int .i64 0] 2)).alloc (.cells #[.int .i64 0] 24)).alloc (.map #[] 0)).heap[w.heap.size + 1 + 1 + 1 + 1]? = some (.map #[] 0) := by
    have := heap_alloc_new ((((w.alloc (.cells #[.int .i64 a] 2)).alloc (.cells #[.int .i64 b] 2)).alloc (.cells #[.int .i64 0] 2)).alloc (.cells #[.int .i64 0] 24)) (.map #[] 0)
    simpa using this
  have HA := Lib.hid hA; have HB := Lib.hid hB; have HN := Lib.hid hN; have HE := Lib.hid hE; have HM := Lib.hid hM; have HB0 := Lib.hid hb0
  clear hA hB hN hE hM hb0
  go_enter Tryz.func15, Tryz.ntmps15
  go_wp2_with fail
  generalize (((((w.alloc (.cells #[.int .i64 a] 2)).alloc (.cells #[.int .i64 b] 2)).alloc (.cells #[.int .i64 0] 2)).alloc (.cells #[.int .i64 0] 24)).alloc (.map #[] 0)) = W0 at *
  generalize hp : w.heap.size = p at *
  have HP := Lib.hid hp; clear hp
  generalize hq : p + 1 = q at *
  generalize hNN : q + 1 = N at *
  generalize hEE : N + 1 = E at *
  generalize hRR : E + 1 = R at *
  obtain ⟨w1, e1, M1, B1⟩ := map_put (w := W0) Tryz.underlying53 Tryz.underlying9 HM.out { data := #[43] } (.func (.func 30) #[] #[.pointer (some ⟨p, 0, none⟩), .pointer (some ⟨q, 0, none⟩)]) (by rfl)
  rw [e1]
  go_wp2_with fail
  obtain ⟨w2, e2, M2, B2⟩ := map_put (w := w1) Tryz.underlying53 Tryz.underlying9 M1 { data := #[45] } (.func (.func 31) #[] #[.pointer (some ⟨p, 0, none⟩), .pointer (some ⟨q, 0, none⟩)]) (by rfl)
  rw [e2]
  go_wp2_with fail
  obtain ⟨w3, e3, M3, B3⟩ := map_put (w := w2) Tryz.underlying53 Tryz.underlying9 M2 { data := #[42] } (.func (.func 32) #[] #[.pointer (some ⟨p, 0, none⟩), .pointer (some ⟨q, 0, none⟩)]) (by rfl)
  rw [e3]
  go_wp2_with fail
  obtain ⟨w4, e4, M4, B4⟩ := map_put (w := w3) Tryz.underlying53 Tryz.underlying9 M3 { data := #[47] } (.func (.func 33) #[] #[.pointer (some ⟨p, 0, none⟩), .pointer (some ⟨q, 0, none⟩)]) (by rfl)
  rw [e4]
  go_wp2_with fail
  obtain ⟨w5, e5, M5, B5⟩ := map_put (w := w4) Tryz.underlying53 Tryz.underlying9 M4 { data := #[37] } (.func (.func 35) #[] #[.pointer (some ⟨p, 0, none⟩), .pointer (some ⟨q, 0, none⟩)]) (by rfl)
  rw [e5]
  go_wp2_with fail
  have BB := (((B1.trans B2).trans B3).trans B4).trans B5
  have M := Lib.hid M5
  have A1 := Lib.hid ((BB.block p (by omega)).trans HA.out); have A2 := Lib.hid ((BB.block q (by omega)).trans HB.out); have A3 := Lib.hid ((BB.block N (by omega)).trans HN.out); have A4 := Lib.hid ((BB.block E (by omega)).trans HE.out)
  have hbw : Below p w w5 := HB0.out.trans (BB.mono (by omega))
  clear e1 e2 e3 e4 e5 M1 M2 M3 M4 M5 B1 B2 B3 B4 B5 BB HA HB HN HE HM HB0
  have hz : ∀ w, (zeroValue 50).run Tryz.prog w = .ok .nilFunc w := fun w => by kernel_rfl
  rw [map_miss (w := w5) Tryz.underlying53 Tryz.underlying9 hz M.out op (HF.out _ _)]
  obtain ⟨n1, n2⟩ := cells1 A3.out; obtain ⟨m1, m2⟩ := cells1 A4.out
  have hNE : N ≠ E := by omega
  have hEN : E ≠ N := by omega
  go_wp2_with fail
  have j1 := heap_setCell_same w5 N 0 _ _ (.int .i64 0) A3.out
  have j2 : (w5.setCell ⟨N, 0, none⟩ (.int .i64 0)).heap[E]? = _ := (Below.heap_setCell _ _ _ _ hEN).trans A4.out
  have j3 := heap_setCell_same _ E 0 _ _ (.int .i64 2) j2
  have j4 := (Below.heap_setCell (w5.setCell ⟨N, 0, none⟩ (.int .i64 0)) ⟨E, 0, none⟩ (.int .i64 2) N hNE).trans j1
  refine bodyPost_ret (res_int j4 j3 rfl rfl) rfl ?_
  exact ⟨rfl, by rw [HP.out]; exact (hbw.setCell (p := ⟨N, 0, none⟩) (show p ≤ N by omega) _).setCell (p := ⟨E, 0, none⟩) (show p ≤ E by omega) _⟩
theorem bytes_ne {op : ByteArray} {l : List UInt8} (h : ¬ op.toList = l) : (op == ({ data := l.toArray } : ByteArray)) = false := by
  cases hb : (op == ({ data := l.toArray } : ByteArray)) with
  | false => rfl
  | true => exact absurd (by rw [(MapKept.bytes_beq _ _).1 hb]; simp [ByteArray.toList_eq]) h
/-- AN OPERATOR OF WHOLE NUMBERS -/
theorem int_any (op : ByteArray) (a b : Int) (w : World) :
    Calls Tryz.prog 15 #[.string op, .int .i64 a, .int .i64 b] w fun e w' => e = .returned (.tuple #[.int .i64 (intR op.toList a b).1, .int .i64 (intR op.toList a b).2]) ∧ Below w.heap.size w w' := by
  by_cases h0 : op.toList = [43]
  · obtain rfl := op_eq h0
    rw [h0]
    exact int_hit (f := 30) (fun _ _ => rfl) (rests_ok (fun _ _ => do_add) fun _ _ => by kernel_rfl)
  have g0 := bytes_ne h0
  by_cases h1 : op.toList = [45]
  · obtain rfl := op_eq h1
    rw [h1]
    exact int_hit (f := 31) (fun _ _ => rfl) (rests_ok (fun _ _ => do_sub) fun _ _ => by kernel_rfl)
  have g1 := bytes_ne h1
  by_cases h2 : op.toList = [42]
  · obtain rfl := op_eq h2
    rw [h2]
    exact int_hit (f := 32) (fun _ _ => rfl) (rests_ok (fun _ _ => do_mul) fun _ _ => by kernel_rfl)
  have g2 := bytes_ne h2
  by_cases h3 : op.toList = [47]
  · obtain rfl := op_eq h3
    rw [h3]
    by_cases hb : b = 0
    · subst hb
      exact int_hit (f := 33) (fun _ _ => rfl) (rests_no (fun _ _ => do_quo_no) fun _ _ => by kernel_rfl)
    · have : intR [47] a b = (wrap64 (a.tdiv b), 0) := by simp [intR, hb]
      rw [this]
      exact int_hit (f := 33) (fun _ _ => rfl) (rests_ok (fun _ _ => do_quo hb) fun _ _ => by kernel_rfl)
  have g3 := bytes_ne h3
  by_cases h4 : op.toList = [37]
  · obtain rfl := op_eq h4
    rw [h4]
    by_cases hb : b = 0
    · subst hb
      exact int_hit (f := 35) (fun _ _ => rfl) (rests_no (fun _ _ => do_rem_no) fun _ _ => by kernel_rfl)
    · have : intR [37] a b = (a.tmod b, 0) := by simp [intR, hb]
      rw [this]
      exact int_hit (f := 35) (fun _ _ => rfl) (rests_ok (fun _ _ => do_rem hb) fun _ _ => by kernel_rfl)
  have g4 := bytes_ne h4
  have hr : intR op.toList a b = (0, 2) := by unfold intR; rw [if_neg h0, if_neg h1, if_neg h2, if_neg h3, if_neg h4]
  rw [hr]
  exact int_miss (fun _ _ => by simp [entsI, Instr.findNow, Instr.sameNow, g0, g1, g2, g3, g4])
end Go.Proofs.YtkgginkdhggpgaaGreatDoor.NumC
