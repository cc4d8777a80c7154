/- The map that Quote makes: in whatever order; the digits; Quote's answer. -/
import Derived.Test.YtopbhopblpfjpaaGreatDoorScanL
import Derived.Test.YtopbhopblpfjpaaGreatDoorScanPlain2
import Derived.Maps.RangeRun
namespace Go.Proofs.YtopbhopblpfjpaaGreatDoor.ScanM
open Go.RowKit Go.ChangeMaps Go.Proofs.YtopbhopblpfjpaaGreatDoor.Lexy Go.Proofs.YtopbhopblpfjpaaGreatDoor.Heap Go.Proofs.YtopbhopblpfjpaaGreatDoor.Base Go.Proofs.YtopbhopblpfjpaaGreatDoor.Scany Go.Proofs.YtopbhopblpfjpaaGreatDoor.ScanA Go.Proofs.YtopbhopblpfjpaaGreatDoor.ScanB Go.Proofs.YtopbhopblpfjpaaGreatDoor.ScanC Go.Proofs.YtopbhopblpfjpaaGreatDoor.ScanD Go.Proofs.YtopbhopblpfjpaaGreatDoor.ScanH Go.Proofs.YtopbhopblpfjpaaGreatDoor.ScanL

/-- a pair's letter, and what it says -/
def kI (i : Nat) : Nat := [110, 116, 114, 92, 34].getD i 0
def vI (i : Nat) : Nat := [10, 9, 13, 92, 34].getD i 0
def kv (e : MapEntry) : Value × Value := (e.key, e.val)
def inv (i : Nat) : Value × Value := (.int .u8 (vI i : Int), .int .u8 (kI i : Int))
theorem vI_inj : ∀ i : Fin 5, ∀ j : Fin 5, vI i.val = vI j.val → i = j := by decide
theorem pairs_mem {e : MapEntry} (h : e ∈ pairsM.toList) : ∃ i, i < 5 ∧ e = ⟨.int .u8 (kI i : Int), .int .u8 (vI i : Int), i⟩ := by
  simp [pairsM] at h
  rcases h with rfl | rfl | rfl | rfl | rfl
  · exact ⟨0, by omega, rfl⟩
  · exact ⟨1, by omega, rfl⟩
  · exact ⟨2, by omega, rfl⟩
  · exact ⟨3, by omega, rfl⟩
  · exact ⟨4, by omega, rfl⟩
theorem pairs_born : ∀ i : Fin 5, ∃ e ∈ pairsM.toList, e.born = i.val
  | ⟨0, _⟩ => ⟨_, List.mem_cons_self, rfl⟩
  | ⟨1, _⟩ => ⟨_, List.mem_cons_of_mem _ List.mem_cons_self, rfl⟩
  | ⟨2, _⟩ => ⟨_, List.mem_cons_of_mem _ (List.mem_cons_of_mem _ List.mem_cons_self), rfl⟩
  | ⟨3, _⟩ => ⟨_, List.mem_cons_of_mem _ (List.mem_cons_of_mem _ (List.mem_cons_of_mem _ List.mem_cons_self)), rfl⟩
  | ⟨4, _⟩ => ⟨_, List.mem_cons_of_mem _ (List.mem_cons_of_mem _ (List.mem_cons_of_mem _ (List.mem_cons_of_mem _ List.mem_cons_self))), rfl⟩
theorem find_kv (k : Int) : ∀ (l : List MapEntry) (sl : List Nat) (n : Nat), l.map kv = sl.map inv →
    (∃ j i, i ∈ sl ∧ (vI i : Int) = k ∧ Instr.findNow (.int .u8) (.int .u8 k) l n = some (some (j, .int .u8 (kI i : Int)))) ∨ ((∀ i ∈ sl, (vI i : Int) ≠ k) ∧ Instr.findNow (.int .u8) (.int .u8 k) l n = some none)
  | [], sl, n, h => by
    have : sl = [] := by cases sl with | nil => rfl | cons _ _ => simp at h
    subst this
    exact .inr ⟨by simp, rfl⟩
  | e :: l, sl, n, h => by
    cases sl with
    | nil => simp at h
    | cons i sl =>
      simp only [List.map_cons, List.cons.injEq] at h
      obtain ⟨h1, h2⟩ := h
      have hk : e.key = .int .u8 (vI i : Int) := congrArg Prod.fst h1
      have hv : e.val = .int .u8 (kI i : Int) := congrArg Prod.snd h1
      by_cases hc : (vI i : Int) = k
      · refine .inl ⟨n, i, List.mem_cons_self, hc, ?_⟩
        simp [Instr.findNow, Instr.sameNow, hk, hv, hc]
      · have hb : (k == (vI i : Int)) = false := beq_eq_false_iff_ne.2 (fun e => hc e.symm)
        rcases find_kv k l sl (n + 1) h2 with ⟨j, x, hx, hx2, hx3⟩ | ⟨hx, hx3⟩
        · exact .inl ⟨j, x, List.mem_cons_of_mem _ hx, hx2, by simp [Instr.findNow, Instr.sameNow, hk, hb, hx3]⟩
        · refine .inr ⟨?_, by simp [Instr.findNow, Instr.sameNow, hk, hb, hx3]⟩
          intro y hy
          rcases List.mem_cons.1 hy with rfl | hy
          · exact hc
          · exact hx y hy
theorem setBlock_same (w : World) (r : Nat) (o : Obj) (h : r < w.heap.size) : (setBlock w r o).heap[r]? = some o := by simp [setBlock, h]
theorem setBlock_other (w : World) {r k : Nat} (o : Obj) (h : k ≠ r) : (setBlock w r o).heap[k]? = w.heap[k]? := by
  simp [setBlock, Ne.symm h]
theorem setBlock_size (w : World) (r : Nat) (o : Obj) : (setBlock w r o).heap.size = w.heap.size := by simp [setBlock]
theorem grown_block (w : World) (r : Nat) (o : Obj) : w.grownBy (setBlock w r o) (some r) :=
  ⟨rfl, rfl, rfl, by simp [setBlock], fun i hi hr => setBlock_other w o (fun e => hr (by rw [e]))⟩
/-- the range is under way: so many pairs have come -/
def Rng (w : World) (r m y : Nat) (sl : List Nat) : Prop :=
  (∃ c0, 5 ≤ c0 ∧ w.heap[r]? = some (.mapIter (some m) 5 sl.toArray c0)) ∧ w.heap[m]? = some (.map pairsM 5) ∧ (∃ es cl, w.heap[y]? = some (.map es cl) ∧ es.toList.map kv = sl.map inv) ∧ (∀ i ∈ sl, i < 5) ∧ y ≠ m
/-- how many are still to come -/
def toCome (sl : List Nat) : Nat := ((List.range 5).filter fun i => decide (i ∉ sl)).length
theorem toCome_lt {sl : List Nat} {i : Nat} (h5 : i < 5) (hi : i ∉ sl) : toCome (sl ++ [i]) < toCome sl := by
  refine filter_lt (fun j => decide (j ∉ sl)) (fun j => decide (j ∉ sl ++ [i])) ?_ i (by simpa using hi) (by simp) (List.range 5) (by simpa using h5)
  intro x hx
  simp at hx ⊢
  exact hx.1
theorem run_insert_at {P : Program} {t kt et : TypeId} (ht : P.underlying t = some (.map kt et)) (hk : P.underlying kt = some (.int .u8)) (w : World) (y : Nat) (es : Array MapEntry) (c : Nat) (hb : w.heap[y]? = some (.map es c))
    (k : Int) (v : Value) (hno : Instr.findNow (.int .u8) (.int .u8 k) es.toList 0 = some none) :
    (Instr.mapUpdate t (.map (some y)) (.int .u8 k) v).run P w = .ok () (setBlock w y (.map (es.push ⟨.int .u8 k, v, c⟩) (c + 1))) := by
  have hck : (Instr.checkKey false 10000 kt (.int .u8 k)).run P w = .ok () w := run_checkKey_u8 hk false 9999 k _
  simp only [Instr.mapUpdate, Sem.run_bind, run_underlying ht, run_underlying hk, Result.andThen, MapKept.run_getObj_map hb, hck, Instr.findKey, hno]
  simp [Sem.run_pure, setObj, Sem.run, hb, setBlock]
theorem rng_end {w : World} {r m y : Nat} {sl : List Nat} (ty : TypeId) (h : Rng w r m y sl) :
    ((∀ i, i < 5 → i ∈ sl) ∧ (Instr.next (.pointer (some ⟨r, 0, none⟩)) false ty).run Tryz.prog w = .ok (.tuple #[.bool false]) w) ∨
    ∃ i, i < 5 ∧ i ∉ sl ∧ ∃ w2, (Instr.next (.pointer (some ⟨r, 0, none⟩)) false ty).run Tryz.prog w = .ok (.tuple #[.bool true, .int .u8 (kI i : Int), .int .u8 (vI i : Int)]) w2 ∧
      (Instr.entry (.pointer (some ⟨r, 0, none⟩))).run Tryz.prog w2 = .ok (.tuple #[.int .u8 (kI i : Int), .int .u8 (vI i : Int)]) w2 ∧ w.grownBy w2 (some r) ∧ w2.heap.size = w.heap.size ∧
      w2.heap[r]? = some (.mapIter (some m) 5 (sl ++ [i]).toArray 5) := by
  obtain ⟨⟨c0, hc0, hr⟩, hm, ⟨es, cl, hy, hes⟩, hsl, hym⟩ := h
  have hrl := (Array.getElem?_eq_some_iff.1 hr).1
  have hrm : r ≠ m := by rintro rfl; rw [hr] at hm; cases hm
  rcases run_next_at (P := Tryz.prog) w ty r m 5 c0 sl.toArray pairsM 5 hr hm (fun x hx => by obtain ⟨i, hi, rfl⟩ := pairs_mem hx; exact hi) hc0 with ⟨h0, hrun⟩ | ⟨e, he, w1, hw1, hrun⟩
  · refine .inl ⟨?_, hrun⟩
    intro i hi
    obtain ⟨e, he, hb⟩ := pairs_born ⟨i, hi⟩
    have hl : leftOf pairsM sl.toArray = #[] := Array.eq_empty_of_size_eq_zero h0
    unfold leftOf at hl
    rw [Array.filter_eq_empty_iff] at hl
    have := hl e (by simpa using he)
    simp at this
    have hb' : e.born = i := hb
    rw [← hb']; exact this
  · have he2 : e ∈ pairsM.toList ∧ e.born ∉ sl := by
      unfold leftOf at he
      simp at he ⊢
      exact he
    obtain ⟨i, hi, rfl⟩ := pairs_mem he2.1
    refine .inr ⟨i, hi, he2.2, _, hrun, ?_, ?_, ?_, ?_⟩
    · have hs : w1.heap = w.heap := by rcases hw1 with rfl | rfl <;> rfl
      refine run_entry_at (P := Tryz.prog) _ r m 5 sl.toArray pairsM 5 ⟨.int .u8 (kI i : Int), .int .u8 (vI i : Int), i⟩ ?_ ?_ he2.1 (by decide)
      · exact setBlock_same _ _ _ (by rw [hs]; exact hrl)
      · rw [setBlock_other _ _ (fun e => hrm e.symm), hs]; exact hm
    · rcases hw1 with rfl | rfl
      · exact grown_block _ _ _
      · exact grown_trans (grown_drewN w 1 _) (grown_block _ _ _)
    · rw [setBlock_size]; rcases hw1 with rfl | rfl <;> rfl
    · rw [setBlock_same _ _ _ (by rcases hw1 with rfl | rfl <;> exact hrl)]
      simp
theorem rng_store {w w2 : World} {r m y i : Nat} {sl : List Nat} (h : Rng w r m y sl) (h5 : i < 5) (hi : i ∉ sl) (hg : w.grownBy w2 (some r)) (hr : w2.heap[r]? = some (.mapIter (some m) 5 (sl ++ [i]).toArray 5)) :
    ∃ w3, (Instr.mapUpdate 87 (.map (some y)) (.int .u8 (vI i : Int)) (.int .u8 (kI i : Int))).run Tryz.prog w2 = .ok () w3 ∧ w2.grownBy w3 (some y) ∧ Rng w3 r m y (sl ++ [i]) := by
  obtain ⟨⟨c0, hc0, hr0⟩, hm, ⟨es, cl, hy, hes⟩, hsl, hym⟩ := h
  have hrm : r ≠ m := by rintro rfl; rw [hr0] at hm; cases hm
  have hry : r ≠ y := by rintro rfl; rw [hr0] at hy; cases hy
  have hml := (Array.getElem?_eq_some_iff.1 hm).1
  have hyl := (Array.getElem?_eq_some_iff.1 hy).1
  have hm2 := (hg.block m hml (fun e => hrm (Option.some.inj e).symm)).trans hm
  have hy2 := (hg.block y hyl (fun e => hry (Option.some.inj e).symm)).trans hy
  have hno : Instr.findNow (.int .u8) (.int .u8 (vI i : Int)) es.toList 0 = some none := by
    rcases find_kv (vI i : Int) es.toList sl 0 hes with ⟨j, x, hx, hx2, _⟩ | ⟨_, h⟩
    · have := vI_inj ⟨x, hsl x hx⟩ ⟨i, h5⟩ (by exact_mod_cast hx2)
      have hxi : x = i := congrArg Fin.val this
      subst hxi; exact absurd hx hi
    · exact h
  refine ⟨_, run_insert_at Tryz.underlying87 Tryz.underlying5 w2 y es cl hy2 _ _ hno, grown_block _ _ _, ⟨5, Nat.le_refl _, ?_⟩, ?_, ⟨_, _, setBlock_same _ _ _ ?_, ?_⟩, ?_, hym⟩
  · rw [setBlock_other _ _ hry]; exact hr
  · rw [setBlock_other _ _ (fun e => hym e.symm)]; exact hm2
  · have := hg.size; omega
  · simp [hes, kv, inv]
  · intro x hx
    rcases List.mem_append.1 hx with hx | hx
    · exact hsl x hx
    · simp at hx; omega

theorem say_vI : ∀ i : Fin 5, sayN (vI i.val) = some (kI i.val) := by decide
theorem say_none {c : Nat} (h : ∀ i : Fin 5, vI i.val ≠ c) : sayN c = none := by
  have h0 : (10 : Nat) ≠ c := h 0
  have h1 : (9 : Nat) ≠ c := h 1
  have h2 : (13 : Nat) ≠ c := h 2
  have h3 : (92 : Nat) ≠ c := h 3
  have h4 : (34 : Nat) ≠ c := h 4
  unfold sayN
  rw [if_neg (by omega), if_neg (by omega), if_neg (by omega), if_neg (by omega), if_neg (by omega)]
/-- a map that tells the letters -/
def Says (w : World) (y : Nat) : Prop := ∃ es cl, w.heap[y]? = some (.map es cl) ∧ ∀ c : Nat, match sayN c with
  | some x => ∃ j, Instr.findNow (.int .u8) (.int .u8 (c : Int)) es.toList 0 = some (some (j, .int .u8 (x : Int)))
  | none => Instr.findNow (.int .u8) (.int .u8 (c : Int)) es.toList 0 = some none
theorem rng_says {w : World} {r m y : Nat} {sl : List Nat} (h : Rng w r m y sl) (hall : ∀ i, i < 5 → i ∈ sl) : Says w y := by
  obtain ⟨_, _, ⟨es, cl, hy, hes⟩, hsl, _⟩ := h
  refine ⟨es, cl, hy, fun c => ?_⟩
  rcases find_kv (c : Int) es.toList sl 0 hes with ⟨j, i, hi, hv, hf⟩ | ⟨hn, hf⟩
  · have hc : c = vI i := by omega
    have := say_vI ⟨i, hsl i hi⟩
    simp only at this
    rw [hc, this]
    rw [hc] at hf
    exact ⟨j, hf⟩
  · rw [say_none (fun i e => hn i.val (hall i.val i.isLt) (by rw [e]))]
    exact hf
theorem Says.kept {w w' : World} {y : Nat} {r : Option Nat} (h : Says w y) (g : w.grownBy w' r) (hr : some y ≠ r) : Says w' y := by
  obtain ⟨es, cl, hy, hf⟩ := h
  exact ⟨es, cl, (g.block y (Array.getElem?_eq_some_iff.1 hy).1 hr).trans hy, hf⟩
theorem Says.lt {w : World} {y : Nat} (h : Says w y) : y < w.heap.size := by
  obtain ⟨es, cl, hy, hf⟩ := h
  exact (Array.getElem?_eq_some_iff.1 hy).1
theorem says_yes {w : World} {y c x : Nat} (h : Says w y) (hc : sayN c = some x) : (Instr.lookup 87 (.map (some y)) (.int .u8 (c : Int)) true).run Tryz.prog w = .ok (.tuple #[.int .u8 (x : Int), .bool true]) w := by
  obtain ⟨es, cl, hy, hf⟩ := h
  have := hf c
  rw [hc] at this
  obtain ⟨j, hj⟩ := this
  exact run_lookup_u8 Tryz.underlying87 Tryz.underlying5 w y es cl hy (c : Int) j _ hj
theorem says_no {w : World} {y c : Nat} (h : Says w y) (hc : sayN c = none) : (Instr.lookup 87 (.map (some y)) (.int .u8 (c : Int)) true).run Tryz.prog w = .ok (.tuple #[.int .u8 0, .bool false]) w := by
  obtain ⟨es, cl, hy, hf⟩ := h
  have := hf c
  rw [hc] at this
  exact run_lookup_u8_no Tryz.underlying87 Tryz.underlying5 w y es cl hy (c : Int) (.int .u8 0) (fun _ => by kernel_rfl) this

theorem pairs_at {w : World} {m : Nat} (h : w.heap.size = m) : Calls Tryz.prog 25 #[] w fun e w' => e = .returned (.map (some m)) ∧ Below m w w' ∧ w'.heap[m]? = some (.map pairsM 5) := by
  subst h; exact pairs_any w
theorem say_lt {n x : Nat} (h : sayN n = some x) : x < 256 := by
  unfold sayN at h
  repeat' (split at h)
  all_goals first | (cases h; omega) | cases h
theorem and15 : ∀ n : Fin 256, bits BinOp.and IntKind.u8 (n.val : Int) 15 = ((n.val % 16 : Nat) : Int) := by decide +kernel
theorem digH_at : ∀ n : Fin 16, ∀ h, (({ data := #[48, 49, 50, 51, 52, 53, 54, 55, 56, 57, 97, 98, 99, 100, 101, 102] } : ByteArray)[n.val]'h).toNat = (digH n.val).toNat := by decide +kernel
theorem take_snoc {s : ByteArray} {k : Nat} {c : UInt8} (h : k < s.size) (hc : s[k] = c) : s.data.toList.take (k + 1) = s.data.toList.take k ++ [c] := by
  have h' : k < s.data.toList.length := by simpa using h
  rw [List.take_succ_eq_append_getElem h']
  congr 2
theorem cells_app (d e : List UInt8) : Lib.strCells (bs (d ++ e)) = Lib.strCells (bs d) ++ e.map (fun c => Value.int .u8 (c.toNat : Int)) := by simp [Lib.strCells, bs]
set_option maxRecDepth 100000 in
set_option maxHeartbeats 4000000 in
theorem quote_any {s : ByteArray} {w : World} (hs : s.size ≤ 1000000) :
    Calls Tryz.prog 10 #[.string s] w fun e w' => e = .returned (.string (bs (quoS s.data.toList))) ∧ Below w.heap.size w w' := by
  have hmm := @run_makeMap Tryz.prog
  obtain ⟨ti0, hi0, hz0, hz1, hz2⟩ := info_parts byteInfo
  go_enter Tryz.func10, Tryz.ntmps10
  go_wp2_with (go_at_call 25; refine (pairs_at (m := w.heap.size + 1) (by simp)).mono ?_; rintro e w1 ⟨rfl, hb1, hm1⟩; have hrange := run_range_map (P := Tryz.prog) w1 87 _ _ (w.heap.size + 1) pairsM 5 Tryz.underlying87 hm1)
  have hsz1 := hb1.size
  simp at hsz1
  have hml1 := (Array.getElem?_eq_some_iff.1 hm1).1
  have hRng : Rng (w1.alloc (.mapIter (some (w.heap.size + 1)) 5 #[] 5)) w1.heap.size (w.heap.size + 1) w.heap.size [] := by
    refine ⟨⟨5, Nat.le_refl _, heap_alloc_new w1 _⟩, ?_, ⟨#[], 0, ?_, rfl⟩, by simp, by omega⟩
    · rw [Below.heap_alloc _ _ _ (by omega)]; exact hm1
    · rw [Below.heap_alloc _ _ _ (by omega)]
      exact (hb1.block w.heap.size (by omega)).trans (heap_alloc_new w _)
  have hBel : Below w.heap.size w (w1.alloc (.mapIter (some (w.heap.size + 1)) 5 #[] 5)) :=
    (((Below.refl w.heap.size w).alloc (Nat.le_refl _) (.map #[] 0)).trans (hb1.mono (by omega))).alloc (by omega) _
  have hry : w.heap.size < w1.heap.size := by omega
  have hRl : w1.heap.size < (w1.alloc (.mapIter (some (w.heap.size + 1)) 5 #[] 5)).heap.size := by simp
  clear hb1 hm1 hrange hsz1
  generalize w1.alloc (.mapIter (some (w.heap.size + 1)) 5 #[] 5) = W at *
  generalize w1.heap.size = r at *
  clear hmm
  have hRng2 := hRng
  go_loopg [] 5 (fun gk wr => ∃ sl, gk = toCome sl ∧ Rng wr r (w.heap.size + 1) w.heap.size sl ∧ Below w.heap.size w wr ∧ r < wr.heap.size)
  case atStart => exact ⟨[], by decide, hRng, hBel, hRl⟩
  case round =>
    clear hRng hRng2 hBel hRl
    obtain ⟨sl, rfl, hR, hB, hrl⟩ := hrel
    rcases rng_end 0 hR with ⟨hall, hnx⟩ | ⟨i, hi5, hisl, w2, hnx, hen, hg2, hs2, hr2⟩
    · have hSay := rng_says hR hall
      clear hR hall
      have hHB : w.heap.size < wr.heap.size := hSay.lt
      go_wp2
      have hX : (wr.alloc (.cells #[.int .u8 34] 5)).ownsRow wr.heap.size 5 1 (.slice (some ⟨wr.heap.size, 0, none⟩) 1 1) 1 (Lib.strCells (bs [34])) := World.ownsRow_lit wr #[.int .u8 34] 1 (Nat.le_refl _) (by decide) rfl
      have hS2 := hSay.kept (World.grownBy_alloc wr (.cells #[.int .u8 34] 5) none) (by simp)
      have hB2 := hB.alloc (by omega) (.cells #[.int .u8 34] 5)
      have hz : wr.heap.size ≤ (wr.alloc (.cells #[.int .u8 34] 5)).heap.size := by simp
      clear hnx hB hrl hSay hry
      generalize wr.alloc (.cells #[.int .u8 34] 5) = W2 at *
      generalize wr.heap.size = B0 at *
      clear wr
      go_loopg [6, 25] s.size (fun gk t6 t25 wr => ∃ (k : Nat) (v : Value) (d : List UInt8), k ≤ s.size ∧ gk = s.size - k ∧ v = t6 ∧ t25 = .int .i64 (k : Int) ∧ d = 34 :: (s.data.toList.take k).flatMap quoB ∧ d.length ≤ 4 * k + 1 ∧ wr.ownsRow B0 5 1 v d.length (Lib.strCells (bs d)) ∧ Says wr w.heap.size ∧ Below w.heap.size w wr ∧ B0 ≤ wr.heap.size)
      case atStart => exact ⟨0, _, [34], by omega, by omega, rfl, rfl, by simp, by simp, hX, hS2, hB2, hz⟩
      case round =>
        clear hX hS2 hB2 hz
        obtain ⟨k, v, d, hk, rfl, rfl, rfl, hd, hdl, hown, hSq, hBq, hBs⟩ := hrel
        have HD := Lib.hid hd; clear hd
        by_cases hlt : k < s.size
        case neg =>
          obtain rfl : s.size = k := by omega
          go_wp2_with ((at_builtin; go_must (refine wpList_append_lies _ rfl _ _ _ rfl B0 5 ti0 _ 1 1 Tryz.underlying89 hi0 hz0 hz1 hz2 rfl (by omega) v d.length (Lib.strCells (bs d)) rfl (hown.alloc _) ⟨wr.heap.size, 0, none⟩ 1 1 [.int .u8 34] rfl rfl (World.news_of_block (cs := #[.int .u8 34]) (t := 5) (fr := (0, 0)) (heap_alloc_new wr _)) (by simp [Value.oneCell']) (by omega) (by unfold maxLen; omega) (by omega) (by simp; omega) (wr.heap.size + 1) (by simp) ?_; intro g cap w4 ho4 hg4 hat hlt4)); have hconv := conv_own (w := w4) (base := B0) (l := d ++ [34]) (v := .slice (some ⟨g, 0, none⟩) (d ++ [34]).length cap) (by rw [cells_app, List.length_append]; exact ho4); rw [List.length_append] at hconv; simp only [List.length_cons, List.length_nil] at hconv)
          go_ret
          refine ⟨ret_str ?_, (hBq.alloc (by omega) (.cells #[.int .u8 34] 5)).grown hg4 (by simp; omega) (fun j hj => by have := (hown.lt _ hj).1; omega)⟩
          rw [HD.out, List.take_of_length_le (by simp)]; simp [quoS]
        have j0 : (0 : Int) ≤ (k : Int) := by omega
        have j1 : (k : Int) < (s.size : Int) := by omega
        obtain ⟨c, hc⟩ : ∃ c, s[k] = c := ⟨_, rfl⟩
        obtain ⟨n, hn⟩ : ∃ n, c.toNat = n := ⟨_, rfl⟩
        have hget : s[k].toNat = n := by rw [hc, hn]
        have hnl : n < 256 := by rw [← hn]; exact UInt8.toNat_lt _
        have HN := Lib.hid hn; clear hn
        have HT := Lib.hid (take_snoc hlt hc); clear hc
        cases hs : sayN n with
        | some x =>
          have hlk := says_yes hSq hs
          have HS := Lib.hid hs; clear hs
          have hxl : x < 256 := say_lt HS.out
          have hxu : (UInt8.ofNat x).toNat = x := by simp; omega
          go_wp2_with ((at_builtin; go_must (refine wpList_append_lies _ rfl _ _ _ rfl B0 5 ti0 _ 1 1 Tryz.underlying89 hi0 hz0 hz1 hz2 rfl (by omega) v d.length (Lib.strCells (bs d)) rfl (hown.alloc _) ⟨wr.heap.size, 0, none⟩ 2 2 [.int .u8 92, .int .u8 (x : Int)] rfl rfl (World.news_of_block (cs := #[.int .u8 92, .int .u8 (x : Int)]) (t := 5) (fr := (0, 0)) (heap_alloc_new wr _)) (by simp [Value.oneCell']) (by omega) (by unfold maxLen; omega) (by omega) (by simp; omega) (wr.heap.size + 1) (by simp) ?_; intro g cap w4 ho4 hg4 hat hlt4)))
          go_roundg (s.size - (k + 1))
          case measure => omega
          case rel =>
            refine ⟨k + 1, _, d ++ [92, UInt8.ofNat x], by omega, rfl, rfl, by go_num, ?_, by simp; omega, ?_, (hSq.kept (World.grownBy_alloc wr (.cells #[.int .u8 92, .int .u8 (x : Int)] 5) none) (by simp)).kept hg4 (fun e => by have := (hown.lt _ e.symm).1; omega), ?_, ?_⟩
            · rw [HT.out, List.flatMap_append, HD.out]; simp [quoB, HN.out, HS.out]
            · rw [cells_app, List.length_append]; simp only [List.map_cons, List.map_nil, hxu]; exact ho4
            · exact (hBq.alloc (by omega) (.cells #[.int .u8 92, .int .u8 (x : Int)] 5)).grown hg4 (by simp; omega) (fun j hj => by have := (hown.lt _ hj).1; omega)
            · have := hg4.size; simp at this; omega
  
        | none =>
          have hlk := says_no hSq hs
          have HS := Lib.hid hs; clear hs
          by_cases hodd : n < 32 ∨ 126 < n
          · have HO := Lib.hid hodd
            obtain ⟨hi, hhi⟩ : ∃ hi, n / 16 = hi := ⟨_, rfl⟩
            obtain ⟨lo, hlo⟩ : ∃ lo, n % 16 = lo := ⟨_, rfl⟩
            have hbits : bits BinOp.and IntKind.u8 (n : Int) 15 = (lo : Int) := by rw [← hlo]; exact and15 ⟨n, hnl⟩
            have hdiv : (n : Int) / 16 = (hi : Int) := by omega
            have hi16 : hi < 16 := by omega
            have lo16 : lo < 16 := by omega
            have hd1 : ∀ h, (({ data := #[48, 49, 50, 51, 52, 53, 54, 55, 56, 57, 97, 98, 99, 100, 101, 102] } : ByteArray)[hi]'h).toNat = (digH hi).toNat := fun h => digH_at ⟨hi, hi16⟩ h
            have hd2 : ∀ h, (({ data := #[48, 49, 50, 51, 52, 53, 54, 55, 56, 57, 97, 98, 99, 100, 101, 102] } : ByteArray)[lo]'h).toNat = (digH lo).toNat := fun h => digH_at ⟨lo, lo16⟩ h
            have HHI := Lib.hid hhi; have HLO := Lib.hid hlo; clear hhi hlo
            rcases hodd with hodd | hodd
            all_goals
              have j2 : (n : Int) < 32 ∨ 126 < (n : Int) := by omega
              go_wp2
              have j4 : (hi : Int) < 16 := by omega
              have j5 : (0 : Int) ≤ (hi : Int) := by omega
              have j6 : (lo : Int) < 16 := by omega
              have j7 : (0 : Int) ≤ (lo : Int) := by omega
              go_region_law ((refine step_append_lies _ (by rfl) _ _ _ (by rfl) B0 5 ti0 _ 1 1 Tryz.underlying89 hi0 hz0 hz1 hz2 rfl (by omega) v d.length (Lib.strCells (bs d)) (by rfl) ((hown.alloc _).drew) ⟨wr.heap.size, 0, none⟩ 4 4 [.int .u8 92, .int .u8 120, .int .u8 ((digH hi).toNat : Int), .int .u8 ((digH lo).toNat : Int)] (by rfl) (by rfl) (World.news_of_block (cs := #[.int .u8 92, .int .u8 120, .int .u8 ((digH hi).toNat : Int), .int .u8 ((digH lo).toNat : Int)]) (t := 5) (fr := (0, 0)) (heap_alloc_new wr _)) (by simp [Value.oneCell']) (by omega) (by unfold maxLen; omega) (by omega) (by simp; omega) (wr.heap.size + 1) (by simp) ?_; intro g cap w4 ho4 hg4 hat hlt4))
              all_goals
                go_wp2
                go_roundg (s.size - (k + 1))
                case measure => omega
                case rel =>
                  refine ⟨k + 1, _, d ++ [92, 120, digH hi, digH lo], by omega, rfl, rfl, by go_num, ?_, by simp; omega, ?_, ((hSq.kept (World.grownBy_alloc wr (.cells #[.int .u8 92, .int .u8 120, .int .u8 ((digH hi).toNat : Int), .int .u8 ((digH lo).toNat : Int)] 5) none) (by simp)).kept (grown_drewN _ 1 none) (by simp)).kept hg4 (fun e => by have := (hown.lt _ e.symm).1; omega), ?_, ?_⟩
                  · rw [HT.out, List.flatMap_append, HD.out]; simp [quoB, HN.out, HS.out, HO.out, HHI.out, HLO.out]
                  · rw [cells_app, List.length_append]; exact ho4
                  · exact ((hBq.alloc (by omega) (.cells #[.int .u8 92, .int .u8 120, .int .u8 ((digH hi).toNat : Int), .int .u8 ((digH lo).toNat : Int)] 5))).drew.grown hg4 (by simp; omega) (fun j hj => by have := (hown.lt _ hj).1; omega)
                  · have := hg4.size; simp at this; omega
        
          · have j2 : (32 : Int) ≤ (n : Int) := by omega
            have j3 : (n : Int) ≤ 126 := by omega
            have HO := Lib.hid hodd; clear hodd
            have hcu : (c.toNat : Int) = (n : Int) := by rw [HN.out]
            go_wp2_with ((at_builtin; go_must (refine wpList_append_lies _ rfl _ _ _ rfl B0 5 ti0 _ 1 1 Tryz.underlying89 hi0 hz0 hz1 hz2 rfl (by omega) v d.length (Lib.strCells (bs d)) rfl (hown.alloc _) ⟨wr.heap.size, 0, none⟩ 1 1 [.int .u8 (n : Int)] rfl rfl (World.news_of_block (cs := #[.int .u8 (n : Int)]) (t := 5) (fr := (0, 0)) (heap_alloc_new wr _)) (by simp [Value.oneCell']) (by omega) (by unfold maxLen; omega) (by omega) (by simp; omega) (wr.heap.size + 1) (by simp) ?_; intro g cap w4 ho4 hg4 hat hlt4)))
            go_roundg (s.size - (k + 1))
            case measure => omega
            case rel =>
              refine ⟨k + 1, _, d ++ [c], by omega, rfl, rfl, by go_num, ?_, by simp; omega, ?_, (hSq.kept (World.grownBy_alloc wr (.cells #[.int .u8 (n : Int)] 5) none) (by simp)).kept hg4 (fun e => by have := (hown.lt _ e.symm).1; omega), ?_, ?_⟩
              · rw [HT.out, List.flatMap_append, HD.out]; simp [quoB, HN.out, HS.out, HO.out]
              · rw [cells_app, List.length_append]; simp only [List.map_cons, List.map_nil, hcu]; exact ho4
              · exact (hBq.alloc (by omega) (.cells #[.int .u8 (n : Int)] 5)).grown hg4 (by simp; omega) (fun j hj => by have := (hown.lt _ hj).1; omega)
              · have := hg4.size; simp at this; omega
    
    · obtain ⟨w3, hmu, hg3, hR3⟩ := rng_store hR hi5 hisl hg2 hr2
      have HR3 := Lib.hid hR3; clear hR3 hR
      have HLT := Lib.hid (toCome_lt hi5 hisl); clear hi5 hisl
      have hBx : Below w.heap.size w w3 := (hB.grown hg2 (by omega) (fun j hj => by have := Option.some.inj hj; omega)).grown hg3 (by omega) (fun j hj => by have := Option.some.inj hj; omega)
      have hsz3 := hg3.size
      go_wp2
      go_roundg (toCome (sl ++ [i]))
      case measure => exact HLT.out
      case rel => exact ⟨_, rfl, HR3.out, hBx, by omega⟩
end Go.Proofs.YtopbhopblpfjpaaGreatDoor.ScanM
