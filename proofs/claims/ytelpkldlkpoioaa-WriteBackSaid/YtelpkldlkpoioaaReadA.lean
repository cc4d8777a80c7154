/- The reader of grammars' texts: its small functions, walked. -/
import Derived.Test.YtelpkldlkpoioaaLexG
import Derived.Test.YtelpkldlkpoioaaDat
import Derived.Test.YtelpkldlkpoioaaReadPlain
import Derived.Deep.RegionWith
import Derived.Deep.RegionLaw
import Derived.Deep.AppendLies
import Derived.Deep.DeepMust
namespace Go.Proofs.Ytelpkldlkpoioaa.ReadA
open Go.RowKit Go.Proofs.Ytelpkldlkpoioaa.Lexy Go.Proofs.Ytelpkldlkpoioaa.LexA Go.Proofs.Ytelpkldlkpoioaa.LexB Go.Proofs.Ytelpkldlkpoioaa.LexC Go.Proofs.Ytelpkldlkpoioaa.LexD Go.Proofs.Ytelpkldlkpoioaa.LexE Go.Proofs.Ytelpkldlkpoioaa.LexF Go.Proofs.Ytelpkldlkpoioaa.LexG Go.Proofs.Ytelpkldlkpoioaa.Heap Go.Proofs.Ytelpkldlkpoioaa.Dat Go.Proofs.Ytelpkldlkpoioaa.Ready

/-- a reader at a token -/
structure Rr (w : World) (b g c : Nat) (T : List Tok) (k : Nat) : Prop where
  cell : w.heap[b]? = some (.cells #[.slice (some ⟨g, 0, none⟩) T.length c, .int .i64 (k : Int)] 75 (0, 0))
  toks : IsToks w g T
  gb : g ≠ b
  gl : g < w.heap.size
theorem Rr.bl {w : World} {b g c : Nat} {T : List Tok} {k : Nat} (h : Rr w b g c T k) : b < w.heap.size := (Array.getElem?_eq_some_iff.1 h.cell).1
theorem Rr.c0 {w : World} {b g c : Nat} {T : List Tok} {k : Nat} (h : Rr w b g c T k) : w.cell? ⟨b, 0, none⟩ = some (.slice (some ⟨g, 0, none⟩) T.length c) := cell_of_row w b 0 _ _ _ h.cell
theorem Rr.c1 {w : World} {b g c : Nat} {T : List Tok} {k : Nat} (h : Rr w b g c T k) : w.cell? ⟨b, 1, none⟩ = some (.int .i64 (k : Int)) := cell_of_row w b 1 _ _ _ h.cell
theorem Rr.f1 {w : World} {b g c : Nat} {T : List Tok} {k : Nat} (h : Rr w b g c T k) : w.frozen? ⟨b, 1, none⟩ = false := frozen_of_row w b 1 _ _ h.cell
theorem Rr.grown {w w' : World} {b g c : Nat} {T : List Tok} {k : Nat} {r : Option Nat} (h : Rr w b g c T k) (hg : w.grownBy w' r) (hb : some b ≠ r) (hgr : some g ≠ r) : Rr w' b g c T k where
  cell := (hg.block b h.bl hb).trans h.cell
  toks := fun i hi => by
    obtain ⟨t0, t1, t2⟩ := h.toks i hi
    exact ⟨(World.cell?_of_block (hg.block g h.gl hgr)).trans t0, (World.cell?_of_block (hg.block g h.gl hgr)).trans t1, (World.cell?_of_block (hg.block g h.gl hgr)).trans t2⟩
  gb := h.gb
  gl := Nat.lt_of_lt_of_le h.gl hg.size
theorem Rr.new {w w' : World} {b g c : Nat} {T : List Tok} {k : Nat} (h : Rr w b g c T k) (hb : Below w.heap.size w w') : Rr w' b g c T k := h.grown (grown_below hb none) (by simp) (by simp)
theorem Rr.drewN {w : World} {b g c : Nat} {T : List Tok} {k : Nat} (h : Rr w b g c T k) (n : Nat) : Rr (w.drewN n) b g c T k := h.new ((Below.refl _ _).drewN n)
theorem Rr.go {w : World} {b g c : Nat} {T : List Tok} {k k' : Nat} {x : Int} (h : Rr w b g c T k) (hx : x = (k' : Int)) : Rr (w.setCell ⟨b, 1, none⟩ (.int .i64 x)) b g c T k' where
  cell := by rw [hx]; exact heap_setCell_same w b 1 _ _ _ h.cell
  toks := fun i hi => by
    obtain ⟨t0, t1, t2⟩ := h.toks i hi
    have key : ∀ o, (w.setCell ⟨b, 1, none⟩ (.int .i64 x)).cell? ⟨g, o, none⟩ = w.cell? ⟨g, o, none⟩ := fun o => World.cell?_of_block (Below.heap_setCell _ _ _ _ h.gb)
    exact ⟨(key _).trans t0, (key _).trans t1, (key _).trans t2⟩
  gb := h.gb
  gl := by simpa using h.gl
theorem Rr.at_ {w : World} {b g c : Nat} {T : List Tok} {k : Nat} (h : Rr w b g c T k) (hk : k < T.length) :
    w.cell? ⟨g, k * 3, none⟩ = some (.int .u8 ((tok T k).kind : Int)) ∧ w.cell? ⟨g, k * 3 + 1, none⟩ = some (.string (bs (tok T k).text)) ∧ w.cell? ⟨g, k * 3 + 2, none⟩ = some (.int .i64 ((tok T k).at_ : Int)) := h.toks k hk

theorem cells3 {w : World} {b : Nat} {u v x : Value} {t : TypeId} (h : w.heap[b]? = some (.cells #[u, v, x] t (0, 0))) :
    w.cell? ⟨b, 0, none⟩ = some u ∧ w.cell? ⟨b, 1, none⟩ = some v ∧ w.cell? ⟨b, 2, none⟩ = some x ∧ w.frozen? ⟨b, 0, none⟩ = false ∧ w.frozen? ⟨b, 1, none⟩ = false ∧ w.frozen? ⟨b, 2, none⟩ = false :=
  ⟨cell_of_row w b 0 #[u, v, x] t (0, 0) h, cell_of_row w b 1 #[u, v, x] t (0, 0) h, cell_of_row w b 2 #[u, v, x] t (0, 0) h, frozen_of_row w b 0 #[u, v, x] t h, frozen_of_row w b 1 #[u, v, x] t h, frozen_of_row w b 2 #[u, v, x] t h⟩
theorem tok3h {w : World} {T : Nat} {u v x : Value} {t : TypeId} (h : w.heap[T]? = some (.cells #[u, v, x] t (0, 0))) (v0 v1 v2 : Value) :
    (((w.setCell ⟨T, 0, none⟩ v0).setCell ⟨T, 1, none⟩ v1).setCell ⟨T, 2, none⟩ v2).heap[T]? = some (.cells #[v0, v1, v2] t (0, 0)) :=
  heap_setCell_same _ T 2 _ _ v2 (heap_setCell_same _ T 1 _ _ v1 (heap_setCell_same w T 0 _ _ v0 h))
theorem res_next {w : World} {H : Nat} {v0 v1 v2 : Value} {tmps : Array Value} (hH : w.heap[H]? = some (.cells #[v0, v1, v2] 31 (0, 0)))
    (h2 : tmps[2]?.getD undef = .pointer (some ⟨H, 0, none⟩)) : (results Try.f59 tmps).run Try.prog w = .ok (.agg #[v0, v1, v2]) w := by
  obtain ⟨a0, a1, a2, _⟩ := cells3 hH
  simp [results, Try.results59, go_sem, h2, a0, a1, a2]
set_option maxRecDepth 100000 in
set_option maxHeartbeats 2000000 in
theorem next_any {w : World} {b g c : Nat} {T : List Tok} {k : Nat} (h : Rr w b g c T k) (hk : k < T.length) (_hT : T.length ≤ 1000000) :
    Calls Try.prog 59 #[.pointer (some ⟨b, 0, none⟩)] w fun e w' => e = .returned (.agg #[.int .u8 ((tok T k).kind : Int), .string (bs (tok T k).text), .int .i64 ((tok T k).at_ : Int)]) ∧ Below w.heap.size w w' := by
  have c0 := h.c0; have c1 := h.c1
  obtain ⟨t0, t1, t2⟩ := h.at_ hk
  have hgl := h.gl; have hbl := h.bl
  obtain ⟨n, hn⟩ : ∃ n, T.length = n := ⟨_, rfl⟩
  obtain ⟨kd, hkd⟩ : ∃ x : Int, ((tok T k).kind : Int) = x := ⟨_, rfl⟩
  obtain ⟨tx, htx⟩ : ∃ x, bs (tok T k).text = x := ⟨_, rfl⟩
  obtain ⟨pa, hpa⟩ : ∃ x : Int, ((tok T k).at_ : Int) = x := ⟨_, rfl⟩
  rw [hn] at c0 hk _hT
  rw [hkd] at t0 ⊢; rw [htx] at t1 ⊢; rw [hpa] at t2 ⊢
  clear h hn hkd htx hpa
  have j0 : (0 : Int) ≤ (k : Int) := by omega
  have j1 : (k : Int) < (n : Int) := by omega
  have hne1 : b ≠ w.heap.size := by omega
  have hne2 : g ≠ w.heap.size := by omega
  go_enter Try.func59, Try.ntmps59
  go_wp2
  go_region
  all_goals
    go_wp2
    try simp only [Exit.inBlock, Exit.then]
    refine bodyPost_ret (res_next (heap_alloc_new w _) rfl) rfl ?_
    exact ⟨rfl, ((Below.refl _ _).alloc (Nat.le_refl _) _).drew⟩

/-! is the next token that? -/
theorem next_is {w : World} {b g c : Nat} {T : List Tok} {k kd : Nat} {tx : ByteArray} {pa : Nat} (h : Rr w b g c T k) (hk : k < T.length) (hT : T.length ≤ 1000000) (h1 : (tok T k).kind = kd) (h2 : bs (tok T k).text = tx) (h3 : (tok T k).at_ = pa) :
    Calls Try.prog 59 #[.pointer (some ⟨b, 0, none⟩)] w fun e w' => e = .returned (.agg #[.int .u8 (kd : Int), .string tx, .int .i64 (pa : Int)]) ∧ Below w.heap.size w w' := by
  subst h1 h2 h3; exact next_any h hk hT
set_option maxRecDepth 100000 in
set_option maxHeartbeats 2000000 in
/-- .. of a kind -/
theorem is_kind {w : World} {b g c : Nat} {T : List Tok} {k kind : Nat} {kz : Int} {v : Bool} (h : Rr w b g c T k) (hk : k < T.length) (hT : T.length ≤ 1000000) (hv : isK T k kind = v) (hz : kz = (kind : Int)) :
    Calls Try.prog 35 #[.pointer (some ⟨b, 0, none⟩), .int .u8 kz, .slice none 0 0] w fun e w' => e = .returned (.bool v) ∧ Below w.heap.size w w' := by
  subst hz
  obtain ⟨kd, hkd⟩ : ∃ x, (tok T k).kind = x := ⟨_, rfl⟩
  obtain ⟨tx, htx⟩ : ∃ x, bs (tok T k).text = x := ⟨_, rfl⟩
  obtain ⟨pa, hpa⟩ : ∃ x, (tok T k).at_ = x := ⟨_, rfl⟩
  have hn := Lib.hid (next_is h hk hT hkd htx hpa)
  have HV := Lib.hid (show decide (kd = kind) = v by rw [← hkd]; exact hv)
  clear h hkd htx hpa hv
  by_cases hd : kd = kind
  · have e1 : ((kd : Int) == (kind : Int)) = true := by rw [hd]; exact beq_iff_eq.2 rfl
    have hv' : v = true := by rw [← HV.out]; exact decide_eq_true hd
    subst hv'
    clear HV hd
    go_enter Try.func35, Try.ntmps35
    go_wp2_with (go_at_call 59; go_must ((with_reducible refine (hn.out).mono ?_)); rintro e w1 ⟨rfl, hb1⟩)
    go_ret
    exact ⟨rfl, hb1.alloc hb1.size _⟩
  · have e1 : ((kd : Int) == (kind : Int)) = false := beq_eq_false_iff_ne.2 (by omega)
    have hv' : v = false := by rw [← HV.out]; exact decide_eq_false hd
    subst hv'
    clear HV hd
    go_enter Try.func35, Try.ntmps35
    go_wp2_with (go_at_call 59; go_must ((with_reducible refine (hn.out).mono ?_)); rintro e w1 ⟨rfl, hb1⟩)
    go_ret
    exact ⟨rfl, hb1.alloc hb1.size _⟩
theorem contains_one (t x : List UInt8) : Lib.containsS ([bs t].take 1) (bs x) = decide (x = t) := by
  by_cases h : x = t
  · rw [decide_eq_true h]; exact (Lib.containsS_iff _ _).2 (by simp [h])
  · have hne : bs x ≠ bs t := fun e => h (by have := congrArg (fun y => y.data.toList) e; simpa [bs] using this)
    rw [decide_eq_false h]
    exact Bool.eq_false_iff.2 fun e => hne (by simpa using (Lib.containsS_iff _ _).1 e)
set_option maxRecDepth 100000 in
set_option maxHeartbeats 2000000 in
/-- .. of a kind, and that text -/
theorem is_one {w : World} {b g c gt cp : Nat} {T : List Tok} {k kind : Nat} {kz : Int} {t : List UInt8} {v : Bool} (h : Rr w b g c T k) (hk : k < T.length) (hT : T.length ≤ 1000000) (hc : w.cell? ⟨gt, 0, none⟩ = some (.string (bs t))) (hv : isT T k kind t = v) (hz : kz = (kind : Int)) :
    Calls Try.prog 35 #[.pointer (some ⟨b, 0, none⟩), .int .u8 kz, .slice (some ⟨gt, 0, none⟩) 1 cp] w fun e w' => e = .returned (.bool v) ∧ Below w.heap.size w w' := by
  subst hz
  obtain ⟨kd, hkd⟩ : ∃ x, (tok T k).kind = x := ⟨_, rfl⟩
  obtain ⟨tx, htx⟩ : ∃ x, (tok T k).text = x := ⟨_, rfl⟩
  obtain ⟨pa, hpa⟩ : ∃ x, (tok T k).at_ = x := ⟨_, rfl⟩
  have hn := Lib.hid (next_is h hk hT hkd (congrArg bs htx) hpa)
  have HV := Lib.hid (show (decide (kd = kind) && decide (tx = t)) = v by rw [← hkd, ← htx]; exact hv)
  have hgt := World.block_lt_of_cell? _ _ hc
  have HC := Lib.hid hc
  clear h hkd htx hpa hv hc
  by_cases hd : kd = kind
  · have e1 : ((kd : Int) == (kind : Int)) = true := by rw [hd]; exact beq_iff_eq.2 rfl
    have HV2 := Lib.hid (show Lib.containsS ([bs t].take 1) (bs tx) = v by rw [contains_one, ← HV.out, decide_eq_true hd]; rfl)
    clear HV hd
    go_enter Try.func35, Try.ntmps35
    go_wp2_with (first | (go_at_call 59; go_must ((with_reducible refine (hn.out).mono ?_)); rintro e w1 ⟨rfl, hb1⟩; have hsz := hb1.size; have hc1 : ∀ o j, j < [bs t].length → (w1.alloc o).cell? ⟨gt, 0 + j, none⟩ = some (.string ([bs t].getD j ByteArray.empty)) := (fun o j hj => by obtain rfl : j = 0 := (by simpa using hj); exact (World.cell?_alloc_past _ _ _ (by show gt < w1.heap.size; omega)).trans ((hb1.cell (p := ⟨gt, 0, none⟩) hgt).trans HC.out))) | (go_at_call 60; go_must (refine (Try.slices_Contains_string gt 0 1 cp [bs t] (bs tx) _ (Nat.le_refl 1) (by omega) (hc1 _)).mono ?_); rintro e w' ⟨rfl, rfl⟩))
    go_ret
    exact ⟨congrArg (fun x => Ending.returned (.bool x)) HV2.out, hb1.alloc hb1.size _⟩
  · have e1 : ((kd : Int) == (kind : Int)) = false := beq_eq_false_iff_ne.2 (by omega)
    have hv' : v = false := by rw [← HV.out, decide_eq_false hd]; rfl
    subst hv'
    clear HV hd
    go_enter Try.func35, Try.ntmps35
    go_wp2_with (go_at_call 59; go_must ((with_reducible refine (hn.out).mono ?_)); rintro e w1 ⟨rfl, hb1⟩)
    go_ret
    exact ⟨rfl, hb1.alloc hb1.size _⟩
/-- texts of the call's own, just laid -/
theorem one_text (w : World) (t : List UInt8) (T : TypeId) : (w.alloc (.cells #[.string (bs t)] T)).cell? ⟨w.heap.size, 0, none⟩ = some (.string (bs t)) := cell_of_row _ w.heap.size 0 _ _ (0, 0) (heap_alloc_new w _)

theorem kept_b {w w1 w2 : World} {b : Nat} (h : Below w.heap.size w w1) (k : w1.grownBy w2 (some b)) : w.grownBy w2 (some b) := Heap.grown_trans (grown_below h _) k
/-! taking -/
set_option maxRecDepth 100000 in
set_option maxHeartbeats 2000000 in
theorem take_kind_t {w : World} {b g c : Nat} {T : List Tok} {k kind : Nat} {kz : Int} (h : Rr w b g c T k) (hk : k < T.length) (hT : T.length ≤ 1000000) (hv : isK T k kind = true) (hz : kz = (kind : Int)) :
    Calls Try.prog 62 #[.pointer (some ⟨b, 0, none⟩), .int .u8 kz, .slice none 0 0] w fun e w' => e = .returned (.bool true) ∧ w.grownBy w' (some b) ∧ Rr w' b g c T (k + 1) := by
  subst hz
  have hi := Lib.hid (is_kind h hk hT hv rfl)
  have HR := Lib.hid h
  clear hv h
  go_enter Try.func62, Try.ntmps62
  go_wp2_with (go_at_call 35; go_must ((with_reducible refine (hi.out).mono ?_)); rintro e w1 ⟨rfl, hb1⟩; have hR1 := HR.out.new hb1; have c1 := hR1.c1; have f1 := hR1.f1)
  go_ret
  exact ⟨rfl, kept_b hb1 (Heap.grown_set _ ⟨b, 1, none⟩ _), hR1.go (by push_cast; rfl)⟩
theorem take_kind_f {w : World} {b g c : Nat} {T : List Tok} {k kind : Nat} {kz : Int} (h : Rr w b g c T k) (hk : k < T.length) (hT : T.length ≤ 1000000) (hv : isK T k kind = false) (hz : kz = (kind : Int)) :
    Calls Try.prog 62 #[.pointer (some ⟨b, 0, none⟩), .int .u8 kz, .slice none 0 0] w fun e w' => e = .returned (.bool false) ∧ Below w.heap.size w w' := by
  subst hz
  have hi := Lib.hid (is_kind h hk hT hv rfl)
  clear hv h
  go_enter Try.func62, Try.ntmps62
  go_wp2_with (go_at_call 35; go_must ((with_reducible refine (hi.out).mono ?_)); rintro e w1 ⟨rfl, hb1⟩)
  go_ret
  exact ⟨rfl, hb1⟩
set_option maxRecDepth 100000 in
set_option maxHeartbeats 2000000 in
theorem take_one_t {w : World} {b g c gt cp : Nat} {T : List Tok} {k kind : Nat} {kz : Int} {t : List UInt8} (h : Rr w b g c T k) (hk : k < T.length) (hT : T.length ≤ 1000000) (hc : w.cell? ⟨gt, 0, none⟩ = some (.string (bs t))) (hv : isT T k kind t = true) (hz : kz = (kind : Int)) :
    Calls Try.prog 62 #[.pointer (some ⟨b, 0, none⟩), .int .u8 kz, .slice (some ⟨gt, 0, none⟩) 1 cp] w fun e w' => e = .returned (.bool true) ∧ w.grownBy w' (some b) ∧ Rr w' b g c T (k + 1) := by
  subst hz
  have hi := Lib.hid (is_one (cp := cp) h hk hT hc hv rfl)
  have HR := Lib.hid h
  clear hv h hc
  go_enter Try.func62, Try.ntmps62
  go_wp2_with (go_at_call 35; go_must ((with_reducible refine (hi.out).mono ?_)); rintro e w1 ⟨rfl, hb1⟩; have hR1 := HR.out.new hb1; have c1 := hR1.c1; have f1 := hR1.f1)
  go_ret
  exact ⟨rfl, kept_b hb1 (Heap.grown_set _ ⟨b, 1, none⟩ _), hR1.go (by push_cast; rfl)⟩
theorem take_one_f {w : World} {b g c gt cp : Nat} {T : List Tok} {k kind : Nat} {kz : Int} {t : List UInt8} (h : Rr w b g c T k) (hk : k < T.length) (hT : T.length ≤ 1000000) (hc : w.cell? ⟨gt, 0, none⟩ = some (.string (bs t))) (hv : isT T k kind t = false) (hz : kz = (kind : Int)) :
    Calls Try.prog 62 #[.pointer (some ⟨b, 0, none⟩), .int .u8 kz, .slice (some ⟨gt, 0, none⟩) 1 cp] w fun e w' => e = .returned (.bool false) ∧ Below w.heap.size w w' := by
  subst hz
  have hi := Lib.hid (is_one (cp := cp) h hk hT hc hv rfl)
  clear hv h hc
  go_enter Try.func62, Try.ntmps62
  go_wp2_with (go_at_call 35; go_must ((with_reducible refine (hi.out).mono ?_)); rintro e w1 ⟨rfl, hb1⟩)
  go_ret
  exact ⟨rfl, hb1⟩

/-! throwing -/
/-- a token's place, off its value -/
theorem field_at : ∀ (x y z : Value) (w : World), (Instr.field 31 (.agg #[x, y, z]) 2).run Try.prog w = .ok z w := fun x y z w => by kernel_rfl
/-- the reader's own panic -/
def thrownF (e p : Int) : List PanicEntry := [{ v := .iface 26 (.agg #[.int .i64 e, .int .i64 p]), recovered := false }]
set_option maxRecDepth 100000 in
set_option maxHeartbeats 2000000 in
theorem throw_any {w : World} {b g c : Nat} {T : List Tok} {k : Nat} {x : Int} (h : Rr w b g c T k) (hk : k < T.length) (hT : T.length ≤ 1000000) :
    Calls Try.prog 63 #[.pointer (some ⟨b, 0, none⟩), .int .i64 x] w fun e w' => e = .panicked (thrownF x ((tok T k).at_ : Int)) ∧ Below w.heap.size w w' := by
  obtain ⟨kd, hkd⟩ : ∃ x, (tok T k).kind = x := ⟨_, rfl⟩
  obtain ⟨tx, htx⟩ : ∃ x, bs (tok T k).text = x := ⟨_, rfl⟩
  obtain ⟨pa, hpa⟩ : ∃ x, (tok T k).at_ = x := ⟨_, rfl⟩
  have hn := Lib.hid (next_is h hk hT hkd htx hpa)
  rw [hpa]
  clear h hkd htx hpa
  have hfl := field_at
  go_enter Try.func63, Try.ntmps63
  go_wp2_with (go_at_call 59; go_must ((with_reducible refine (hn.out).mono ?_)); rintro e w1 ⟨rfl, hb1⟩)
  exact ⟨rfl, rfl, hb1⟩

/-! a token that must be there -/
set_option maxRecDepth 100000 in
set_option maxHeartbeats 2000000 in
theorem must_kind_t {w : World} {b g c : Nat} {T : List Tok} {k kind : Nat} {kz : Int} (h : Rr w b g c T k) (hk : k < T.length) (hT : T.length ≤ 1000000) (hv : isK T k kind = true) (hz : kz = (kind : Int)) :
    Calls Try.prog 37 #[.pointer (some ⟨b, 0, none⟩), .int .u8 kz, .slice none 0 0] w fun e w' => e = .returned (.string (bs (tok T k).text)) ∧ w.grownBy w' (some b) ∧ Rr w' b g c T (k + 1) := by
  subst hz
  obtain ⟨kd, hkd⟩ : ∃ x, (tok T k).kind = x := ⟨_, rfl⟩
  obtain ⟨tx, htx⟩ : ∃ x, bs (tok T k).text = x := ⟨_, rfl⟩
  obtain ⟨pa, hpa⟩ : ∃ x, (tok T k).at_ = x := ⟨_, rfl⟩
  have hn := Lib.hid (next_is h hk hT hkd htx hpa)
  rw [htx]
  have HR := Lib.hid h; have HV := Lib.hid hv
  clear h hkd htx hpa hv
  go_enter Try.func37, Try.ntmps37
  go_wp2_with (first | (go_at_call 59; go_must ((with_reducible refine (hn.out).mono ?_)); rintro e w1 ⟨rfl, hb1⟩; have hbx := hb1.alloc hb1.size (.cells #[.int .u8 (kd : Int), .string tx, .int .i64 (pa : Int)] 31); have hR1 := Lib.hid (HR.out.new hbx); have hcell := heap_alloc_new w1 (.cells #[.int .u8 (kd : Int), .string tx, .int .i64 (pa : Int)] 31); have hbz := HR.out.bl; have hsz := hb1.size) | (go_at_call 62; go_must ((with_reducible refine (take_kind_t hR1.out hk hT HV.out rfl).mono ?_)); rintro e w2 ⟨rfl, hg2, hR2⟩; have hcell2 := (hg2.block _ (by simp) (by simp; omega)).trans hcell; have d1 := cell_of_row w2 _ 1 _ _ _ hcell2))
  go_ret
  exact ⟨rfl, kept_b hbx hg2, hR2⟩
end Go.Proofs.Ytelpkldlkpoioaa.ReadA
