/- The law of the lexer's tokens and the document's, walked. -/
import Derived.Test.YtfecjoheabkloaaGreatDoorRefD
import Derived.Test.YtfecjoheabkloaaGreatDoorLexG
import Derived.Test.YtfecjoheabkloaaGreatDoorLexPlain2
import Derived.Test.YtfecjoheabkloaaGreatDoorApart2
import Derived.Deep.DeepMust
namespace Go.Proofs.YtfecjoheabkloaaGreatDoor.Tells
open Go.RowKit Go.Proofs.YtfecjoheabkloaaGreatDoor.Lexy Go.Proofs.YtfecjoheabkloaaGreatDoor.LexA Go.Proofs.YtfecjoheabkloaaGreatDoor.LexB Go.Proofs.YtfecjoheabkloaaGreatDoor.LexC Go.Proofs.YtfecjoheabkloaaGreatDoor.LexD Go.Proofs.YtfecjoheabkloaaGreatDoor.LexE Go.Proofs.YtfecjoheabkloaaGreatDoor.LexF Go.Proofs.YtfecjoheabkloaaGreatDoor.LexG Go.Proofs.YtfecjoheabkloaaGreatDoor.RefD

theorem fine_pos {t : Tok} (h : t.fine) : 0 < (render t.kind t.text).length := by
  rcases Nat.eq_zero_or_pos (render t.kind t.text).length with h0 | h0
  · have e := List.eq_nil_of_length_eq_zero h0
    have := h.2 []
    rw [e] at this
    have h3 : tokL ([] ++ 32 :: []) = .bad 100 := by decide +kernel
    rw [h3] at this; cases this
  · exact h0
theorem chain_count (s : List UInt8) : ∀ (l : List Tok) (b : Nat), b ≤ s.length → chain s b l → (∀ t ∈ l, t.fine) → b + l.length ≤ s.length
  | [], b, hb, _, _ => by simpa using hb
  | t :: l, b, hb, hc, hf => by
    obtain ⟨h1, h2, _, h3⟩ := hc
    have hp := fine_pos (hf t (List.mem_cons_self ..))
    have := chain_count s l _ h2 h3 fun u hu => hf u (List.mem_cons_of_mem _ hu)
    simp only [List.length_cons]; omega
theorem toks_count {s : List UInt8} {l : List Tok} (h : toks s = .good l) : l.length ≤ s.length + 1 := by
  unfold toks at h
  split at h
  · cases h
  · have := lexA_shape s s.length 0 (by omega) (by omega)
    simp only [List.drop_zero, h] at this
    obtain ⟨ts, rfl, h2, h3⟩ := this
    have := chain_count s ts 0 (by omega) h2 h3
    simp; omega


set_option maxHeartbeats 1000000 in
theorem same_nil (w : World) :
    Calls Tryz.prog 11 #[.slice none 0 0, .slice none 0 0] w fun e w' => e = .returned (.bool true) ∧ ∃ n, w' = w.drewN n := by
  go_enter Tryz.func11, Tryz.ntmps11
  go_wp2
  go_loopg [5] 0 (fun gk i wr => gk = 0 ∧ i = .int .i64 0 ∧ wr = w)
  case atStart => exact ⟨rfl, rfl, rfl⟩
  case round =>
    obtain ⟨rfl, rfl, rfl⟩ := hrel
    go_wp2
    go_ret
    exact ⟨rfl, 0, rfl⟩
/-- the results of a lexer, with what they own -/
theorem post_own {s : ByteArray} {w w' : World} {e : Ending} {l : List Tok} (ht : toks s.data.toList = .good l) (h : TokensPost s w e w') :
    ∃ g cap, e = .returned (.tuple #[.slice (some ⟨g, 0, none⟩) l.length cap, .agg #[.int .i64 0, .int .i64 0]]) ∧ w'.ownsRow w.heap.size 57 3 (.slice (some ⟨g, 0, none⟩) l.length cap) l.length (cellsT l) ∧ IsToks w' g l ∧ w.heap.size ≤ g ∧ g < w'.heap.size ∧ Below w.heap.size w w' := by
  unfold TokensPost at h; rw [ht] at h
  obtain ⟨hb, v, rfl, hown⟩ := h
  obtain ⟨g, cap, rfl, h1, h2, h3, h4, h5⟩ := toks_of_own hown (toks_ne ht)
  exact ⟨g, cap, rfl, hown, h5, h1, h2, hb⟩
theorem post_bad {s : ByteArray} {w w' : World} {e : Ending} {x p : Nat} (ht : toks s.data.toList = .bad x p) (h : TokensPost s w e w') :
    e = .returned (.tuple #[.slice none 0 0, .agg #[.int .i64 (x : Int), .int .i64 (p : Int)]]) ∧ Below w.heap.size w w' := by
  unfold TokensPost at h; rw [ht] at h
  exact ⟨h.2, h.1⟩
theorem fault_cell {w w' : World} {q : Nat} {v0 v1 : Value} (h : w.heap[q]? = some (.cells #[v0, v1] 32 (0, 0))) (hb : Below w.heap.size w w') : w'.heap[q]? = some (.cells #[v0, v1] 32 (0, 0)) :=
  (hb.block q (Array.getElem?_eq_some_iff.1 h).1).trans h

set_option maxRecDepth 100000 in
set_option maxHeartbeats 2000000 in
theorem tells_long {s : ByteArray} {w : World} {m : Int} (hl : 70000 < s.size) (hs : s.size ≤ 140737488351232) (hm : w.cell? ⟨1, 0, none⟩ = some (.int .i64 m)) :
    Calls Tryz.prog 4 #[.string s] w fun e w' => e = .returned (.bool true) ∧ Below w.heap.size w w' := by
  go_enter Tryz.func4, Tryz.ntmps4
  go_wp2_with (go_at_call 8; go_must ((with_reducible refine (awake_any hm).mono ?_)); rintro e w1 ⟨rfl, hb⟩)
  go_ret
  exact ⟨rfl, hb⟩
set_option maxRecDepth 100000 in
set_option maxHeartbeats 4000000 in
theorem tells_bad {s : ByteArray} {w : World} {m : Int} {x p : Nat} (hl : s.size ≤ 70000) (hm : w.cell? ⟨1, 0, none⟩ = some (.int .i64 m)) (ht : toks s.data.toList = .bad x p) :
    Calls Tryz.prog 4 #[.string s] w fun e w' => e = .returned (.bool true) ∧ Below w.heap.size w w' := by
  have HT := Lib.hid ht; clear ht
  have hs : s.size ≤ 140737488351232 := by omega
  have hml : 1 < w.heap.size := World.block_lt_of_cell? w _ hm
  go_enter Tryz.func4, Tryz.ntmps4
  go_wp2_with fail
  refine (tokens_any hs hm).mono ?_
  intro e w1 hp; obtain ⟨rfl, hb1⟩ := post_bad HT.out hp; clear hp
  go_wp2_with fail
  have hc1 := heap_alloc_new w1 (.cells #[.int .i64 (x : Int), .int .i64 (p : Int)] 32)
  replace hb1 := hb1.alloc hb1.size (.cells #[.int .i64 (x : Int), .int .i64 (p : Int)] 32)
  generalize w1.alloc (.cells #[.int .i64 (x : Int), .int .i64 (p : Int)] 32) = W1 at *
  generalize w1.heap.size = q1 at *
  refine (tokens_r hs).mono ?_
  intro e w2 hp; obtain ⟨rfl, hb2⟩ := post_bad HT.out hp; clear hp
  go_wp2_with fail
  replace hc1 := fault_cell hc1 (hb2.alloc hb2.size (.cells #[.int .i64 (x : Int), .int .i64 (p : Int)] 32))
  have hc2 := heap_alloc_new w2 (.cells #[.int .i64 (x : Int), .int .i64 (p : Int)] 32)
  replace hb2 := hb1.trans ((hb2.alloc hb2.size (.cells #[.int .i64 (x : Int), .int .i64 (p : Int)] 32)).mono hb1.size)
  generalize w2.alloc (.cells #[.int .i64 (x : Int), .int .i64 (p : Int)] 32) = W2 at *
  generalize w2.heap.size = q2 at *
  refine (tokens_any hs ((hb2.cell (p := ⟨1, 0, none⟩) hml).trans hm)).mono ?_
  intro e w3 hp; obtain ⟨rfl, hb3⟩ := post_bad HT.out hp; clear hp
  have hb4 := hb3.alloc hb3.size (.cells #[.int .i64 (x : Int), .int .i64 (p : Int)] 32)
  have hc3 := fault_cell hc1 hb4
  have hc4 := fault_cell hc2 hb4
  have hb5 := hb2.trans (hb4.mono hb2.size)
  obtain ⟨z1, z2, _, _⟩ := cells2 hc3
  obtain ⟨z3, z4, _, _⟩ := cells2 hc4
  clear hc1 hc2 hc3 hc4
  go_wp2_with fail
  have hs3 := hb5.size
  generalize w3.alloc (.cells #[.int .i64 (x : Int), .int .i64 (p : Int)] 32) = W3 at *
  refine (same_nil _).mono ?_
  rintro e w4 ⟨rfl, n4, rfl⟩
  go_wp2_with fail
  have hb6 := (hb5.drewN n4).alloc (by simp; omega) (.cells #[.slice none 0 0, .slice none 0 0] 29)
  have hL : ((W3.drewN n4).alloc (.cells #[.slice none 0 0, .slice none 0 0] 29)).heap[W3.heap.size]? = some (.cells #[.slice none 0 0, .slice none 0 0] 29 (0, 0)) := heap_alloc_new (W3.drewN n4) _
  generalize (W3.drewN n4).alloc (.cells #[.slice none 0 0, .slice none 0 0] 29) = W4 at *
  have hH : Apart.Hands W4 w.heap.size W3.heap.size 2 (fun _ => none) (fun _ => 0) (fun _ => 0) := by
    refine ⟨fun k hk => ?_, fun k hk => ⟨[], World.ownsRow_nil _ _ _ _⟩, fun _ _ _ _ _ => .inl rfl⟩
    rcases (show k = 0 ∨ k = 1 by omega) with rfl | rfl
    · exact cell_of_row W4 _ 0 _ _ _ hL
    · exact cell_of_row W4 _ 1 _ _ _ hL
  refine (Apart.tokens_apart hH hb6.size (by omega) (by omega) (fun _ _ => Nat.zero_le _)).mono ?_
  rintro e w5 ⟨rfl, hon⟩
  have hb7 := hb6.trans (hon.below hb6.size (fun _ b _ e => by cases e))
  go_wp2_with fail
  refine (awake_any ((hb7.cell (p := ⟨1, 0, none⟩) hml).trans hm)).mono ?_
  rintro e w6 ⟨rfl, hb8⟩
  go_wp2
  go_ret
  exact ⟨rfl, hb7.trans (hb8.mono hb7.size)⟩
set_option maxRecDepth 100000 in
set_option maxHeartbeats 4000000 in
theorem tells_good {s : ByteArray} {w : World} {m : Int} {l : List Tok} (hl : s.size ≤ 70000) (hm : w.cell? ⟨1, 0, none⟩ = some (.int .i64 m)) (ht : toks s.data.toList = .good l) :
    Calls Tryz.prog 4 #[.string s] w fun e w' => e = .returned (.bool true) ∧ Below w.heap.size w w' := by
  have hcount : l.length ≤ 1000000 := by have := toks_count ht; simp at this; omega
  have HT := Lib.hid ht; clear ht
  have hs : s.size ≤ 140737488351232 := by omega
  have hml : 1 < w.heap.size := World.block_lt_of_cell? w _ hm
  go_enter Tryz.func4, Tryz.ntmps4
  go_wp2_with fail
  refine (tokens_any hs hm).mono ?_
  intro e w1 hp; obtain ⟨ga, ca, rfl, hoa, hta, hga, hga2, hb1⟩ := post_own HT.out hp; clear hp
  go_wp2_with fail
  have hx1 := (Below.refl w1.heap.size w1).alloc (Nat.le_refl _) (.cells #[.int .i64 0, .int .i64 0] 32)
  replace hoa := Heap.own_new hoa hx1
  replace hta := hta.below hx1 hga2
  replace hga2 := Nat.lt_of_lt_of_le hga2 hx1.size
  have hc1 := heap_alloc_new w1 (.cells #[.int .i64 0, .int .i64 0] 32)
  replace hb1 := hb1.alloc hb1.size (.cells #[.int .i64 0, .int .i64 0] 32)
  clear hx1
  generalize w1.alloc (.cells #[.int .i64 0, .int .i64 0] 32) = W1 at *
  generalize w1.heap.size = q1 at *
  refine (tokens_r hs).mono ?_
  intro e w2 hp; obtain ⟨gb, cb, rfl, hob, htb, hgb, hgb2, hb2⟩ := post_own HT.out hp; clear hp
  go_wp2_with fail
  have hx1 := hb2.alloc hb2.size (.cells #[.int .i64 0, .int .i64 0] 32)
  have hx2 := (Below.refl w2.heap.size w2).alloc (Nat.le_refl _) (.cells #[.int .i64 0, .int .i64 0] 32)
  replace hoa := Heap.own_new hoa hx1
  replace hta := hta.below hx1 hga2
  have hga3 := Nat.lt_of_lt_of_le hga2 hx1.size
  replace htb := htb.below hx2 hgb2
  replace hgb2 := Nat.lt_of_lt_of_le hgb2 hx2.size
  replace hc1 := fault_cell hc1 hx1
  have hc2 := heap_alloc_new w2 (.cells #[.int .i64 0, .int .i64 0] 32)
  have hb2 := hb1.trans (hx1.mono hb1.size)
  clear hx1 hx2 hob
  generalize w2.alloc (.cells #[.int .i64 0, .int .i64 0] 32) = W2 at *
  generalize w2.heap.size = q2 at *
  refine (tokens_any hs ((hb2.cell (p := ⟨1, 0, none⟩) hml).trans hm)).mono ?_
  intro e w3 hp; obtain ⟨gc, cc, rfl, hoc, _, hgc, hgc2, hb3⟩ := post_own HT.out hp; clear hp
  have hx1 := hb3.alloc hb3.size (.cells #[.int .i64 0, .int .i64 0] 32)
  have hx2 := (Below.refl w3.heap.size w3).alloc (Nat.le_refl _) (.cells #[.int .i64 0, .int .i64 0] 32)
  replace hoa := Heap.own_new hoa hx1
  replace hta := hta.below hx1 hga3
  replace htb := htb.below hx1 hgb2
  replace hoc := Heap.own_base (Heap.own_new hoc hx2) hb2.size
  have hc3 := fault_cell hc1 hx1
  have hc4 := fault_cell hc2 hx1
  have hb5 := hb2.trans (hx1.mono hb2.size)
  obtain ⟨z1, z2, _, _⟩ := cells2 hc3
  obtain ⟨z3, z4, _, _⟩ := cells2 hc4
  clear hc1 hc2 hc3 hc4 hx1 hx2 hb3
  have hac : ga ≠ gc := by omega
  have HTA := Lib.hid hta; have HTB := Lib.hid htb; clear hta htb
  go_wp2_with fail
  have hs3 := hb5.size
  generalize w3.alloc (.cells #[.int .i64 0, .int .i64 0] 32) = W3 at *
  refine (same_tokens HTA.out HTB.out hcount).mono ?_
  rintro e w4 ⟨rfl, n4, rfl⟩
  go_wp2_with fail
  have hx1 := (Below.refl W3.heap.size (W3.drewN n4)).alloc (Nat.le_refl _) (.cells #[.slice (some ⟨ga, 0, none⟩) l.length ca, .slice (some ⟨gc, 0, none⟩) l.length cc] 29)
  have hx0 : Below W3.heap.size W3 (W3.drewN n4) := (Below.refl _ _).drewN n4
  replace hoa := Heap.own_new hoa (hx0.trans hx1)
  replace hoc := Heap.own_new hoc (hx0.trans hx1)
  have hb6 := hb5.trans ((hx0.trans hx1).mono hs3)
  have hL : ((W3.drewN n4).alloc (.cells #[.slice (some ⟨ga, 0, none⟩) l.length ca, .slice (some ⟨gc, 0, none⟩) l.length cc] 29)).heap[W3.heap.size]? = some (.cells #[.slice (some ⟨ga, 0, none⟩) l.length ca, .slice (some ⟨gc, 0, none⟩) l.length cc] 29 (0, 0)) := heap_alloc_new (W3.drewN n4) _
  clear hx0 hx1
  generalize (W3.drewN n4).alloc (.cells #[.slice (some ⟨ga, 0, none⟩) l.length ca, .slice (some ⟨gc, 0, none⟩) l.length cc] 29) = W4 at *
  have hH : Apart.Hands W4 w.heap.size W3.heap.size 2 (fun k => if k = 0 then some ⟨ga, 0, none⟩ else some ⟨gc, 0, none⟩) (fun _ => l.length) (fun k => if k = 0 then ca else cc) := by
    refine ⟨fun k hk => ?_, fun k hk => ?_, fun j k hj hk hne => .inr ?_⟩
    · rcases (show k = 0 ∨ k = 1 by omega) with rfl | rfl
      · exact cell_of_row W4 _ 0 _ _ _ hL
      · exact cell_of_row W4 _ 1 _ _ _ hL
    · rcases (show k = 0 ∨ k = 1 by omega) with rfl | rfl
      · exact ⟨_, hoa⟩
      · exact ⟨_, hoc⟩
    · rcases (show j = 0 ∨ j = 1 by omega) with rfl | rfl <;> rcases (show k = 0 ∨ k = 1 by omega) with rfl | rfl
      · omega
      · simpa [Heap.bl] using hac
      · simpa [Heap.bl] using hac.symm
      · omega
  refine (Apart.tokens_apart hH hb6.size (by omega) (by omega) (fun _ _ => hcount)).mono ?_
  rintro e w5 ⟨rfl, hon⟩
  have hb7 := hb6.trans (hon.below hb6.size (fun k b hk e => by
    rcases (show k = 0 ∨ k = 1 by omega) with rfl | rfl
    · simp [Heap.bl] at e; omega
    · simp [Heap.bl] at e; omega))
  go_wp2_with fail
  refine (awake_any ((hb7.cell (p := ⟨1, 0, none⟩) hml).trans hm)).mono ?_
  rintro e w6 ⟨rfl, hb8⟩
  go_wp2
  go_ret
  exact ⟨rfl, hb7.trans (hb8.mono hb7.size)⟩
/-- THE LAW: it says yes of every source -/
theorem tells_any {s : ByteArray} {w : World} {m : Int} (hs : s.size ≤ 140737488351232) (hm : w.cell? ⟨1, 0, none⟩ = some (.int .i64 m)) :
    Calls Tryz.prog 4 #[.string s] w fun e w' => e = .returned (.bool true) ∧ Below w.heap.size w w' := by
  by_cases hl : s.size ≤ 70000
  · cases ht : toks s.data.toList with
    | bad x p => exact tells_bad hl hm ht
    | good l => exact tells_good hl hm ht
  · exact tells_long (by omega) hs hm
end Go.Proofs.YtfecjoheabkloaaGreatDoor.Tells
