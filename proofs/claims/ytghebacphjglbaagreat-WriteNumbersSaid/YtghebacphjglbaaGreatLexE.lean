/- The lexer, walked: its recovering closure, its loop. -/
import Derived.Test.YtghebacphjglbaaGreatLexD
import Derived.Defers
import Derived.Recover
namespace Go.Proofs.YtghebacphjglbaaGreat.LexE
open Go.RowKit Go.Proofs.YtghebacphjglbaaGreat.Lexy Go.Proofs.YtghebacphjglbaaGreat.LexA Go.Proofs.YtghebacphjglbaaGreat.LexB Go.Proofs.YtghebacphjglbaaGreat.LexC Go.Proofs.YtghebacphjglbaaGreat.LexD

theorem catch_idle (g p q : Addr) (w : World) :
    CallsD Tryz.prog 93 #[.pointer (some g), .pointer (some p), .pointer (some q)] .returning w fun e u' w' => e = .returned (.tuple #[]) ∧ u' = .returning ∧ w' = w := by
  refine callsD_of_wpS Tryz.func93 rfl fun c₀ cs hu => ?_
  apply wpS_seq
  apply wpS_region
  simp [wpOpsS, go_sem, recoverD, hu, Tryz.ntmps93, Exit.thenS]
  refine wpS_of_wp ?_
  simp only [Array.replicate_succ, Array.replicate_zero, List.push_toArray, List.append_toArray, List.nil_append, List.cons_append, List.setIfInBounds_toArray, List.set_cons_succ, List.set_cons_zero]
  go_wp2
  cases c₀
  simp_all [bodyPostS, results, Tryz.results93]

theorem cells1 {w : World} {b : Nat} {u : Value} {t : TypeId} (h : w.heap[b]? = some (.cells #[u] t (0, 0))) : w.cell? ⟨b, 0, none⟩ = some u ∧ w.frozen? ⟨b, 0, none⟩ = false := by
  constructor
  · exact cell_of_row w b 0 #[u] t (0, 0) h
  · exact frozen_of_row w b 0 #[u] t h
theorem cells2 {w : World} {b : Nat} {u v : Value} {t : TypeId} (h : w.heap[b]? = some (.cells #[u, v] t (0, 0))) :
    w.cell? ⟨b, 0, none⟩ = some u ∧ w.cell? ⟨b, 1, none⟩ = some v ∧ w.frozen? ⟨b, 0, none⟩ = false ∧ w.frozen? ⟨b, 1, none⟩ = false :=
  ⟨cell_of_row w b 0 #[u, v] t (0, 0) h, cell_of_row w b 1 #[u, v] t (0, 0) h, frozen_of_row w b 0 #[u, v] t h, frozen_of_row w b 1 #[u, v] t h⟩

set_option maxRecDepth 100000 in
set_option maxHeartbeats 1000000 in
theorem catch_thrown {g p q B : Nat} {k x : Int} {lv f0 f1 : Value} {w : World} (hg : w.heap[g]? = some (.cells #[.int .i64 k] 3 (0, 0))) (hp : w.heap[p]? = some (.cells #[lv] 115 (0, 0))) (hq : w.heap[q]? = some (.cells #[f0, f1] 117 (0, 0)))
    (hgp : g ≠ p) (hgq : g ≠ q) (hpq : p ≠ q) (hBp : B ≤ p) (hBq : B ≤ q) :
    CallsD Tryz.prog 93 #[.pointer (some ⟨g, 0, none⟩), .pointer (some ⟨p, 0, none⟩), .pointer (some ⟨q, 0, none⟩)] (.panicking (thrown x)) w fun e u' w' =>
      e = .returned (.tuple #[]) ∧ u' = .panicking [{ v := .iface 139 (.agg #[.int .i64 x]), recovered := true }] ∧
        w'.heap[p]? = some (.cells #[.slice none 0 0] 115 (0, 0)) ∧ w'.heap[q]? = some (.cells #[.int .i64 x, .int .i64 k] 117 (0, 0)) ∧ Below B w w' := by
  have hgl := (Array.getElem?_eq_some_iff.1 hg).1
  have hpl := (Array.getElem?_eq_some_iff.1 hp).1
  have hql := (Array.getElem?_eq_some_iff.1 hq).1
  obtain ⟨g1, g2⟩ := cells1 hg; obtain ⟨p1, p2⟩ := cells1 hp; obtain ⟨q1, q2, q3, q4⟩ := cells2 hq
  have HG := Lib.hid hg; have HP := Lib.hid hp; have HQ := Lib.hid hq; clear hg hp hq
  refine callsD_of_wpS Tryz.func93 rfl fun c₀ cs hu => ?_
  apply wpS_seq
  apply wpS_region
  unfold thrown at hu
  simp [wpOpsS, go_sem, recoverD, hu, Tryz.ntmps93, Exit.thenS]
  refine wpS_of_wp ?_
  simp only [Array.replicate_succ, Array.replicate_zero, List.push_toArray, List.append_toArray, List.nil_append, List.cons_append, List.setIfInBounds_toArray, List.set_cons_succ, List.set_cons_zero]
  have HU := Lib.hid hu; clear hu
  have hta : ∀ w, (Instr.typeAssert (.iface 139 (.agg #[.int .i64 x])) 20 139 true).run Tryz.prog w = .ok (.tuple #[.agg #[.int .i64 x], .bool true]) w := fun w => by kernel_rfl
  have hb0 := (Below.refl B w).alloc (by omega) (.cells #[.int .i64 x] 139)
  have ha := World.grownBy_alloc w (.cells #[.int .i64 x] 139) none
  have hG : (w.alloc (.cells #[.int .i64 x] 139)).heap[g]? = _ := (ha.block g hgl (by simp)).trans HG.out
  have hP : (w.alloc (.cells #[.int .i64 x] 139)).heap[p]? = _ := (ha.block p hpl (by simp)).trans HP.out
  have hQ : (w.alloc (.cells #[.int .i64 x] 139)).heap[q]? = _ := (ha.block q hql (by simp)).trans HQ.out
  have hN : (w.alloc (.cells #[.int .i64 x] 139)).heap[w.heap.size]? = some (.cells #[.int .i64 x] 139 (0, 0)) := heap_alloc_new w _
  go_wp2
  clear g1 g2 p1 p2 q1 q2 q3 q4 ha HG HP HQ
  generalize w.alloc (.cells #[.int .i64 x] 139) = W at *
  obtain ⟨g1, g2⟩ := cells1 hG; obtain ⟨p1, p2⟩ := cells1 hP; obtain ⟨q1, q2, q3, q4⟩ := cells2 hQ; obtain ⟨n1, n2⟩ := cells1 hN
  have HG := Lib.hid hG; have HP := Lib.hid hP; have HQ := Lib.hid hQ; clear hG hP hQ hN
  have hqp : q ≠ p := fun e => hpq e.symm
  have hnp : ¬ w.heap.size = p := by omega
  have hnq : ¬ w.heap.size = q := by omega
  generalize w.heap.size = N at *
  have hpg : ¬ p = g := fun e => hgp e.symm
  have hqg : ¬ q = g := fun e => hgq e.symm
  go_region
  have hW := (((hb0.setCell (p := ⟨p, 0, none⟩) hBp (.slice none 0 0)).setCell (p := ⟨q, 0, none⟩) hBq (.int .i64 x)).setCell (p := ⟨q, 1, none⟩) hBq (.int .i64 k)).drew
  have k1 := heap_setCell_same W p 0 #[lv] 115 (.slice none 0 0) HP.out
  have k2 : (W.setCell ⟨p, 0, none⟩ (.slice none 0 0)).heap[q]? = some (.cells #[f0, f1] 117 (0, 0)) := (Below.heap_setCell _ _ _ _ hqp).trans HQ.out
  have k3 := heap_setCell_same (W.setCell ⟨p, 0, none⟩ (.slice none 0 0)) q 0 #[f0, f1] 117 (.int .i64 x) k2
  have k4 := heap_setCell_same ((W.setCell ⟨p, 0, none⟩ (.slice none 0 0)).setCell ⟨q, 0, none⟩ (.int .i64 x)) q 1 #[.int .i64 x, f1] 117 (.int .i64 k) k3
  have k5 : (((W.setCell ⟨p, 0, none⟩ (.slice none 0 0)).setCell ⟨q, 0, none⟩ (.int .i64 x)).setCell ⟨q, 1, none⟩ (.int .i64 k)).heap[p]? = some (.cells #[.slice none 0 0] 115 (0, 0)) :=
    ((Below.heap_setCell _ _ _ _ hpq).trans (Below.heap_setCell _ _ _ _ hpq)).trans k1
  exact ⟨rfl, _, rfl, .tuple #[], by simp [results, Tryz.results93], rfl, rfl, k5, k4, hW⟩
end Go.Proofs.YtghebacphjglbaaGreat.LexE
