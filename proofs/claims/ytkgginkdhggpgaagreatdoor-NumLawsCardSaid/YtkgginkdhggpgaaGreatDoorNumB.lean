/- Whole numbers' operators, walked: the program's: a map of closures, a divisor of nought caught. -/
import Derived.Test.YtkgginkdhggpgaaGreatDoorNumA
import Derived.Test.YtkgginkdhggpgaaGreatDoorCut
import Derived.Defers
import Derived.Recover
import Derived.Carry
namespace Go.Proofs.YtkgginkdhggpgaaGreatDoor.NumB
open Go.RowKit Go.Proofs.YtkgginkdhggpgaaGreatDoor.Flo Go.Proofs.YtkgginkdhggpgaaGreatDoor.NumA Go.Proofs.YtkgginkdhggpgaaGreatDoor.Cut

def thrownN : List PanicEntry := [{ v := .iface 24 (.int .i64 201), recovered := false }]
theorem sure_ok {b : Int} (hb : b ≠ 0) (w : World) : Calls Tryz.prog 34 #[.int .i64 b] w fun e w' => e = .returned (.int .i64 b) ∧ w' = w := by
  have hb2 : (b == 0) = false := by simpa using hb
  go_enter Tryz.func34, Tryz.ntmps34
  go_wp2
  go_ret
  exact ⟨rfl, rfl⟩
theorem sure_no (w : World) : Calls Tryz.prog 34 #[.int .i64 0] w fun e w' => e = .panicked thrownN ∧ w' = w := by
  go_enter Tryz.func34, Tryz.ntmps34
  go_wp2
  exact ⟨rfl, rfl, rfl⟩
/-- two numbers in their variables -/
def Two (p q : Nat) (a b : Int) (w : World) : Prop := w.cell? ⟨p, 0, none⟩ = some (.int .i64 a) ∧ w.cell? ⟨q, 0, none⟩ = some (.int .i64 b)
def Does (f : FuncId) (p q : Nat) (a b : Int) (e : Ending) : Prop := ∀ w, Two p q a b w → Calls Tryz.prog f #[.pointer (some ⟨p, 0, none⟩), .pointer (some ⟨q, 0, none⟩)] w fun e' w' => e' = e ∧ ∃ n, w' = w.drewN n
theorem do_add {p q : Nat} {a b : Int} : Does 30 p q a b (.returned (.int .i64 (wrap64 (a + b)))) := by
  rintro w ⟨h1, h2⟩
  go_enter Tryz.func30, Tryz.ntmps30
  go_wp2
  go_ret
  exact ⟨rfl, 0, rfl⟩
theorem do_sub {p q : Nat} {a b : Int} : Does 31 p q a b (.returned (.int .i64 (wrap64 (a - b)))) := by
  rintro w ⟨h1, h2⟩
  go_enter Tryz.func31, Tryz.ntmps31
  go_wp2
  go_ret
  exact ⟨rfl, 0, rfl⟩
theorem do_mul {p q : Nat} {a b : Int} : Does 32 p q a b (.returned (.int .i64 (wrap64 (a * b)))) := by
  rintro w ⟨h1, h2⟩
  go_enter Tryz.func32, Tryz.ntmps32
  go_wp2
  go_ret
  exact ⟨rfl, 0, rfl⟩
theorem loose_then {K : Act → World → Prop} {Q : Exit → Act → World → Prop} {D : Option Tmp → Prop} (h : Loose D Q) : Loose D (Exit.then K Q) := fun c a d v w hd hq => h c a d v w hd hq
theorem loose_block {n : Nat} {Q : Exit → Act → World → Prop} {D : Option Tmp → Prop} (h : Loose D Q) : Loose D (Exit.inBlock n Q) := fun c a d v w hd hq => h c a d v w hd hq
set_option maxRecDepth 100000 in
theorem do_quo {p q : Nat} {a b : Int} (hb : b ≠ 0) : Does 33 p q a b (.returned (.int .i64 (wrap64 (a.tdiv b)))) := by
  rintro w ⟨h1, h2⟩
  have hb2 : (b == 0) = false := by simpa using hb
  go_enter Tryz.func33, Tryz.ntmps33
  go_wp2_with fail
  refine wp_region_mixI (l1 := [_, _, _, _]) (l2 := [_]) [(0, true), (1, true), (2, false), (3, true)] (fun u => Two p q a b u) (by kernel_rfl) (by kernel_rfl) (by repeat (first | refine loose_then ?_ | exact loose_body (P := Tryz.prog) (fn := Tryz.f33))) ⟨h1, h2⟩ ?_
  refine mixI_take (.int .i64 a) rfl rfl (fun u hu => by obtain ⟨k1, k2⟩ := hu; go_simp) ?_
  refine mixI_take (.int .i64 b) rfl rfl (fun u hu => by obtain ⟨k1, k2⟩ := hu; go_simp) ?_
  refine mixI_go rfl rfl fun K hK => wp_go (f := 34) (args := #[.int .i64 b]) (by go_simp) ((sure_ok hb _).mono ?_)
  rintro e w1 ⟨rfl, rfl⟩
  refine hK.out _ _ ⟨h1, h2⟩ ?_
  refine mixI_take (.int .i64 (wrap64 (a.tdiv b))) rfl rfl (fun u hu => by go_simp <;> exact IntWalk.i64_left _) ?_
  show wpList _ _ _ _ _ _
  clear hK
  go_wp2
  go_ret
  exact ⟨rfl, 1, rfl⟩
set_option maxRecDepth 100000 in
theorem do_quo_no {p q : Nat} {a : Int} : Does 33 p q a 0 (.panicked thrownN) := by
  rintro w ⟨h1, h2⟩
  go_enter Tryz.func33, Tryz.ntmps33
  go_wp2_with fail
  refine wp_region_mixI (l1 := [_, _, _, _]) (l2 := [_]) [(0, true), (1, true), (2, false), (3, true)] (fun u => Two p q a 0 u) (by kernel_rfl) (by kernel_rfl) (by repeat (first | refine loose_then ?_ | exact loose_body (P := Tryz.prog) (fn := Tryz.f33))) ⟨h1, h2⟩ ?_
  refine mixI_take (.int .i64 a) rfl rfl (fun u hu => by obtain ⟨k1, k2⟩ := hu; go_simp) ?_
  refine mixI_take (.int .i64 0) rfl rfl (fun u hu => by obtain ⟨k1, k2⟩ := hu; go_simp) ?_
  refine mixI_go rfl rfl fun K hK => wp_go (f := 34) (args := #[.int .i64 0]) (by go_simp) ((sure_no _).mono ?_)
  rintro e w1 ⟨rfl, rfl⟩
  exact ⟨rfl, rfl, 1, rfl⟩
set_option maxRecDepth 100000 in
theorem do_rem {p q : Nat} {a b : Int} (hb : b ≠ 0) : Does 35 p q a b (.returned (.int .i64 (a.tmod b))) := by
  rintro w ⟨h1, h2⟩
  have hb2 : (b == 0) = false := by simpa using hb
  go_enter Tryz.func35, Tryz.ntmps35
  go_wp2_with fail
  refine wp_region_mixI (l1 := [_, _, _, _]) (l2 := [_]) [(0, true), (1, true), (2, false), (3, true)] (fun u => Two p q a b u) (by kernel_rfl) (by kernel_rfl) (by repeat (first | refine loose_then ?_ | exact loose_body (P := Tryz.prog) (fn := Tryz.f35))) ⟨h1, h2⟩ ?_
  refine mixI_take (.int .i64 a) rfl rfl (fun u hu => by obtain ⟨k1, k2⟩ := hu; go_simp) ?_
  refine mixI_take (.int .i64 b) rfl rfl (fun u hu => by obtain ⟨k1, k2⟩ := hu; go_simp) ?_
  refine mixI_go rfl rfl fun K hK => wp_go (f := 34) (args := #[.int .i64 b]) (by go_simp) ((sure_ok hb _).mono ?_)
  rintro e w1 ⟨rfl, rfl⟩
  refine hK.out _ _ ⟨h1, h2⟩ ?_
  refine mixI_take (.int .i64 (a.tmod b)) rfl rfl (fun u hu => by go_simp <;> exact IntWalk.i64_left _) ?_
  show wpList _ _ _ _ _ _
  clear hK
  go_wp2
  go_ret
  exact ⟨rfl, 1, rfl⟩
set_option maxRecDepth 100000 in
theorem do_rem_no {p q : Nat} {a : Int} : Does 35 p q a 0 (.panicked thrownN) := by
  rintro w ⟨h1, h2⟩
  go_enter Tryz.func35, Tryz.ntmps35
  go_wp2_with fail
  refine wp_region_mixI (l1 := [_, _, _, _]) (l2 := [_]) [(0, true), (1, true), (2, false), (3, true)] (fun u => Two p q a 0 u) (by kernel_rfl) (by kernel_rfl) (by repeat (first | refine loose_then ?_ | exact loose_body (P := Tryz.prog) (fn := Tryz.f35))) ⟨h1, h2⟩ ?_
  refine mixI_take (.int .i64 a) rfl rfl (fun u hu => by obtain ⟨k1, k2⟩ := hu; go_simp) ?_
  refine mixI_take (.int .i64 0) rfl rfl (fun u hu => by obtain ⟨k1, k2⟩ := hu; go_simp) ?_
  refine mixI_go rfl rfl fun K hK => wp_go (f := 34) (args := #[.int .i64 0]) (by go_simp) ((sure_no _).mono ?_)
  rintro e w1 ⟨rfl, rfl⟩
  exact ⟨rfl, rfl, 1, rfl⟩
theorem cells1 {w : World} {b : Nat} {u : Value} {t : TypeId} (h : w.heap[b]? = some (.cells #[u] t (0, 0))) : w.cell? ⟨b, 0, none⟩ = some u ∧ w.frozen? ⟨b, 0, none⟩ = false :=
  ⟨cell_of_row w b 0 #[u] t (0, 0) h, frozen_of_row w b 0 #[u] t h⟩
/-- nothing to catch -/
theorem catch_idle (g p : Addr) (w : World) :
    CallsD Tryz.prog 42 #[.pointer (some g), .pointer (some p)] .returning w fun e u' w' => e = .returned (.tuple #[]) ∧ u' = .returning ∧ w' = w := by
  refine callsD_of_wpS Tryz.func42 rfl fun c₀ cs hu => ?_
  apply wpS_seq
  apply wpS_region
  simp [wpOpsS, go_sem, recoverD, hu, Tryz.ntmps42, Exit.thenS]
  refine wpS_of_wp ?_
  simp only [Array.replicate_succ, Array.replicate_zero, List.push_toArray, List.append_toArray, List.nil_append, List.cons_append, List.setIfInBounds_toArray, List.set_cons_succ, List.set_cons_zero]
  go_wp2
  cases c₀
  simp_all [bodyPostS, results, Tryz.results42]
set_option maxRecDepth 100000 in
set_option maxHeartbeats 1000000 in
/-- a divisor of nought: g: the variable with n's address, p: with e's; N: n's block, E: e's -/
theorem catch_thrown {g p N E B : Nat} {n e : Value} {w : World} (hg : w.heap[g]? = some (.cells #[.pointer (some ⟨N, 0, none⟩)] 56 (0, 0))) (hp : w.heap[p]? = some (.cells #[.pointer (some ⟨E, 0, none⟩)] 55 (0, 0)))
    (hN : w.heap[N]? = some (.cells #[n] 2 (0, 0))) (hE : w.heap[E]? = some (.cells #[e] 24 (0, 0))) (hNE : N ≠ E) (hBN : B ≤ N) (hBE : B ≤ E) :
    CallsD Tryz.prog 42 #[.pointer (some ⟨g, 0, none⟩), .pointer (some ⟨p, 0, none⟩)] (.panicking thrownN) w fun x u' w' =>
      x = .returned (.tuple #[]) ∧ u' = .panicking [{ v := .iface 24 (.int .i64 201), recovered := true }] ∧
        w'.heap[N]? = some (.cells #[.int .i64 0] 2 (0, 0)) ∧ w'.heap[E]? = some (.cells #[.int .i64 201] 24 (0, 0)) ∧ Below B w w' := by
  obtain ⟨g1, g2⟩ := cells1 hg; obtain ⟨p1, p2⟩ := cells1 hp; obtain ⟨n1, n2⟩ := cells1 hN; obtain ⟨e1, e2⟩ := cells1 hE
  have HN := Lib.hid hN; have HE := Lib.hid hE; clear hg hp hN hE
  have hEN : E ≠ N := fun e => hNE e.symm
  refine callsD_of_wpS Tryz.func42 rfl fun c₀ cs hu => ?_
  apply wpS_seq
  apply wpS_region
  unfold thrownN at hu
  simp [wpOpsS, go_sem, recoverD, hu, Tryz.ntmps42, Exit.thenS]
  refine wpS_of_wp ?_
  simp only [Array.replicate_succ, Array.replicate_zero, List.push_toArray, List.append_toArray, List.nil_append, List.cons_append, List.setIfInBounds_toArray, List.set_cons_succ, List.set_cons_zero]
  have HU := Lib.hid hu; clear hu
  go_wp2
  have hW := ((Below.refl B w).setCell (p := ⟨N, 0, none⟩) hBN (.int .i64 0)).setCell (p := ⟨E, 0, none⟩) hBE (.int .i64 201)
  have k1 := heap_setCell_same w N 0 _ _ (.int .i64 0) HN.out
  have k2 : (w.setCell ⟨N, 0, none⟩ (.int .i64 0)).heap[E]? = some (.cells #[e] 24 (0, 0)) := (Below.heap_setCell _ _ _ _ hEN).trans HE.out
  have k3 := heap_setCell_same _ E 0 _ _ (.int .i64 201) k2
  have k4 := (Below.heap_setCell _ ⟨E, 0, none⟩ (.int .i64 201) N hNE).trans k1
  exact ⟨rfl, _, rfl, .tuple #[], by simp [results, Tryz.results42], rfl, rfl, k4, k3, hW⟩
theorem leaves_same {P : Program} {fn : Func} {t1 t2 : Array Value} {R : Ending → World → Prop} (h : results fn t1 = results fn t2) : ∀ (ds : List Deferred) (u : FrameMode) (w : World), Leaves P fn t1 R ds u w → Leaves P fn t2 R ds u w
  | [], .returning, w, hl => by unfold Leaves at hl ⊢; rw [← h]; exact hl
  | [], .panicking _, w, hl => by unfold Leaves at hl ⊢; exact hl
  | [], .run, w, hl => by unfold Leaves at hl; exact hl.elim
  | d :: ds, u, w, hl => by
    unfold Leaves at hl ⊢
    obtain ⟨h1, fv, cap, f, args, h2, h3, h4⟩ := hl
    refine ⟨h1, fv, cap, f, args, h2, h3, CallsD.mono h4 fun e u' w' he => ?_⟩
    cases e with
    | returned v => exact leaves_same h ds _ _ he
    | panicked ch => exact leaves_same h ds _ _ he
    | outgrown => exact he
theorem Loose.less {D D' : Option Tmp → Prop} {Q : Exit → Act → World → Prop} (h : Loose D Q) (hd : ∀ d, D' d → D d) : Loose D' Q := fun c a d v w hd' hq => h c a d v w (hd d hd') hq
theorem _root_.Go.RowKit.Below.drewN {B : Nat} {w w' : World} (h : Below B w w') (n : Nat) : Below B w (w'.drewN n) := h.trans ⟨rfl, rfl, rfl, Nat.le_refl _, fun _ _ => rfl⟩
/-- what hangs on the frame -/
theorem loose_rest {R : Ending → World → Prop} : Loose (fun _ => True) (bodyPostD Tryz.prog Tryz.f36 R) := by
  intro c a d v w _ h
  cases d with
  | none => exact h
  | some i =>
    refine leaves_same ?_ _ _ _ (show Leaves Tryz.prog Tryz.f36 (a.tmps.setIfInBounds i v) R a.defers (.panicking c) w from h)
    simp [results, Tryz.results36]
set_option maxRecDepth 100000 in
set_option maxHeartbeats 2000000 in
/-- it does what it is to do -/
theorem rest_ok {E N p q : Nat} {f : FuncId} {a b v : Int} {n e : Value} {w : World} (hd : Does f p q a b (.returned (.int .i64 v))) (ht : Two p q a b w) (hN : w.heap[N]? = some (.cells #[n] 2 (0, 0))) (hE : w.heap[E]? = some (.cells #[e] 24 (0, 0))) (hNE : N ≠ E) {B : Nat} (hBN : B ≤ N) (_hBE : B ≤ E) (hBw : B ≤ w.heap.size) (hcf : ∀ (args : Array Value) (w : World), (callFunc f args).run Tryz.prog w = .ok (.enter f args) w) :
    Calls Tryz.prog 36 #[.pointer (some ⟨E, 0, none⟩), .pointer (some ⟨N, 0, none⟩), .func (.func f) #[] #[.pointer (some ⟨p, 0, none⟩), .pointer (some ⟨q, 0, none⟩)]] w fun x w' =>
      x = .returned (.tuple #[]) ∧ w'.heap[N]? = some (.cells #[.int .i64 v] 2 (0, 0)) ∧ w'.heap[E]? = some (.cells #[e] 24 (0, 0)) ∧ Below B w w' := by
  have hmf : ∀ (fn : Fn) (first cap : Array Value) (w : World), (Instr.makeFunc fn first cap).run Tryz.prog w = .ok (.func fn first cap) w := fun _ _ _ _ => rfl
  have hbW := ((Below.refl w.heap.size w).alloc (Nat.le_refl _) (.cells #[.pointer (some ⟨E, 0, none⟩)] 55)).alloc (by simp) (.cells #[.pointer (some ⟨N, 0, none⟩)] 56)
  have hlN := (Array.getElem?_eq_some_iff.1 hN).1; have hlE := (Array.getElem?_eq_some_iff.1 hE).1
  have ht' : Two p q a b ((w.alloc (.cells #[.pointer (some ⟨E, 0, none⟩)] 55)).alloc (.cells #[.pointer (some ⟨N, 0, none⟩)] 56)) := ⟨(hbW.cell (World.block_lt_of_cell? _ _ ht.1)).trans ht.1, (hbW.cell (World.block_lt_of_cell? _ _ ht.2)).trans ht.2⟩
  have hN' := (hbW.block N hlN).trans hN
  have hE' := (hbW.block E hlE).trans hE
  have hp' : ((w.alloc (.cells #[.pointer (some ⟨E, 0, none⟩)] 55)).alloc (.cells #[.pointer (some ⟨N, 0, none⟩)] 56)).heap[w.heap.size]? = some (.cells #[.pointer (some ⟨E, 0, none⟩)] 55 (0, 0)) := (Below.heap_alloc _ _ _ (by simp)).trans (heap_alloc_new w _)
  have hg' : ((w.alloc (.cells #[.pointer (some ⟨E, 0, none⟩)] 55)).alloc (.cells #[.pointer (some ⟨N, 0, none⟩)] 56)).heap[w.heap.size + 1]? = some (.cells #[.pointer (some ⟨N, 0, none⟩)] 56 (0, 0)) := by
    have := heap_alloc_new (w.alloc (.cells #[.pointer (some ⟨E, 0, none⟩)] 55)) (.cells #[.pointer (some ⟨N, 0, none⟩)] 56)
    simpa using this
  have hBW : Below B w ((w.alloc (.cells #[.pointer (some ⟨E, 0, none⟩)] 55)).alloc (.cells #[.pointer (some ⟨N, 0, none⟩)] 56)) := hbW.mono (by omega)
  have HT := Lib.hid ht'; have HN := Lib.hid hN'; have HE := Lib.hid hE'; have HD := Lib.hid hd; have HBW := Lib.hid hBW; have HP := Lib.hid hp'
  clear ht hN hE hd ht' hN' hE' hbW hBW hp'
  go_enter_defers Tryz.func36, Tryz.ntmps36
  go_wp2_with fail
  have hlg : N ≠ w.heap.size + 1 := by omega
  generalize ((w.alloc (.cells #[.pointer (some ⟨E, 0, none⟩)] 55)).alloc (.cells #[.pointer (some ⟨N, 0, none⟩)] 56)) = W at *
  generalize w.heap.size + 1 = g at *
  obtain ⟨g1, g2⟩ := cells1 hg'
  have HG := Lib.hid hg'; clear hg'
  have hsc : ∀ n, (W.drewN n).cell? ⟨g, 0, none⟩ = some (.pointer (some ⟨N, 0, none⟩)) := fun n => g1
  refine wp_region_mixI (l1 := [_, _, _]) (l2 := [_, _]) [(0, true), (1, true), (2, false)] (fun u => u.cell? ⟨g, 0, none⟩ = some (.pointer (some ⟨N, 0, none⟩))) (by kernel_rfl) (by kernel_rfl) (Loose.less loose_rest fun _ _ => trivial) g1 ?_
  refine mixI_take (.pointer (some ⟨N, 0, none⟩)) rfl rfl (fun u hu => by go_simp) ?_
  refine mixI_take (.func (.func f) #[] #[.pointer (some ⟨p, 0, none⟩), .pointer (some ⟨q, 0, none⟩)]) rfl rfl (fun u hu => by go_simp) ?_
  refine mixI_go rfl rfl fun K hK => wp_go (f := f) (args := #[.pointer (some ⟨p, 0, none⟩), .pointer (some ⟨q, 0, none⟩)]) (by go_simp) ((HD.out W.drew ⟨HT.out.1, HT.out.2⟩).mono ?_)
  rintro e1 w1 ⟨rfl, n1, rfl⟩
  refine hK.out _ _ (hsc (n1 + 1)) ?_
  show wpList _ _ _ _ _ _
  clear hK
  have hN2 : (W.drew.drewN n1).heap[N]? = some (.cells #[n] 2 (0, 0)) := HN.out
  have hE2 : (W.drew.drewN n1).heap[E]? = some (.cells #[e] 24 (0, 0)) := HE.out
  have hB2 : Below B w (W.drew.drewN n1) := ((HBW.out).drew).drewN n1
  generalize W.drew.drewN n1 = W2 at *
  obtain ⟨n1', n2'⟩ := cells1 hN2
  have HN2 := Lib.hid hN2; clear hN2
  go_wp2_with fail
  refine leaves_cons (f := 42) (args := #[.pointer (some ⟨g, 0, none⟩), .pointer (some ⟨w.heap.size, 0, none⟩)]) (by simp) (by simp [go_sem]) ?_
  refine (catch_idle _ _ _).mono ?_
  rintro e1 u' w3 ⟨rfl, rfl, rfl⟩
  exact ⟨.tuple #[], by simp [results, Tryz.results36], rfl, heap_setCell_same W2 N 0 _ _ (.int .i64 v) HN2.out, (Below.heap_setCell _ _ _ _ (fun e => hNE e.symm)).trans hE2, hB2.setCell (p := ⟨N, 0, none⟩) hBN _⟩
set_option maxRecDepth 100000 in
set_option maxHeartbeats 2000000 in
/-- a divisor of nought -/
theorem rest_no {E N p q : Nat} {f : FuncId} {a : Int} {n e : Value} {w : World} (hd : Does f p q a 0 (.panicked thrownN)) (ht : Two p q a 0 w) (hN : w.heap[N]? = some (.cells #[n] 2 (0, 0))) (hE : w.heap[E]? = some (.cells #[e] 24 (0, 0))) (hNE : N ≠ E) {B : Nat} (hBN : B ≤ N) (hBE : B ≤ E) (hBw : B ≤ w.heap.size) (hcf : ∀ (args : Array Value) (w : World), (callFunc f args).run Tryz.prog w = .ok (.enter f args) w) :
    Calls Tryz.prog 36 #[.pointer (some ⟨E, 0, none⟩), .pointer (some ⟨N, 0, none⟩), .func (.func f) #[] #[.pointer (some ⟨p, 0, none⟩), .pointer (some ⟨q, 0, none⟩)]] w fun x w' =>
      x = .returned (.tuple #[]) ∧ w'.heap[N]? = some (.cells #[.int .i64 0] 2 (0, 0)) ∧ w'.heap[E]? = some (.cells #[.int .i64 201] 24 (0, 0)) ∧ Below B w w' := by
  have hmf : ∀ (fn : Fn) (first cap : Array Value) (w : World), (Instr.makeFunc fn first cap).run Tryz.prog w = .ok (.func fn first cap) w := fun _ _ _ _ => rfl
  have hbW := ((Below.refl w.heap.size w).alloc (Nat.le_refl _) (.cells #[.pointer (some ⟨E, 0, none⟩)] 55)).alloc (by simp) (.cells #[.pointer (some ⟨N, 0, none⟩)] 56)
  have hlN := (Array.getElem?_eq_some_iff.1 hN).1; have hlE := (Array.getElem?_eq_some_iff.1 hE).1
  have ht' : Two p q a 0 ((w.alloc (.cells #[.pointer (some ⟨E, 0, none⟩)] 55)).alloc (.cells #[.pointer (some ⟨N, 0, none⟩)] 56)) := ⟨(hbW.cell (World.block_lt_of_cell? _ _ ht.1)).trans ht.1, (hbW.cell (World.block_lt_of_cell? _ _ ht.2)).trans ht.2⟩
  have hN' := (hbW.block N hlN).trans hN
  have hE' := (hbW.block E hlE).trans hE
  have hp' : ((w.alloc (.cells #[.pointer (some ⟨E, 0, none⟩)] 55)).alloc (.cells #[.pointer (some ⟨N, 0, none⟩)] 56)).heap[w.heap.size]? = some (.cells #[.pointer (some ⟨E, 0, none⟩)] 55 (0, 0)) := (Below.heap_alloc _ _ _ (by simp)).trans (heap_alloc_new w _)
  have hg' : ((w.alloc (.cells #[.pointer (some ⟨E, 0, none⟩)] 55)).alloc (.cells #[.pointer (some ⟨N, 0, none⟩)] 56)).heap[w.heap.size + 1]? = some (.cells #[.pointer (some ⟨N, 0, none⟩)] 56 (0, 0)) := by
    have := heap_alloc_new (w.alloc (.cells #[.pointer (some ⟨E, 0, none⟩)] 55)) (.cells #[.pointer (some ⟨N, 0, none⟩)] 56)
    simpa using this
  have hBW : Below B w ((w.alloc (.cells #[.pointer (some ⟨E, 0, none⟩)] 55)).alloc (.cells #[.pointer (some ⟨N, 0, none⟩)] 56)) := hbW.mono (by omega)
  have HT := Lib.hid ht'; have HN := Lib.hid hN'; have HE := Lib.hid hE'; have HD := Lib.hid hd; have HBW := Lib.hid hBW; have HP := Lib.hid hp'
  clear ht hN hE hd ht' hN' hE' hbW hBW hp'
  go_enter_defers Tryz.func36, Tryz.ntmps36
  go_wp2_with fail
  have hlg : N ≠ w.heap.size + 1 := by omega
  generalize ((w.alloc (.cells #[.pointer (some ⟨E, 0, none⟩)] 55)).alloc (.cells #[.pointer (some ⟨N, 0, none⟩)] 56)) = W at *
  generalize w.heap.size + 1 = g at *
  obtain ⟨g1, g2⟩ := cells1 hg'
  have HG := Lib.hid hg'; clear hg'
  have hsc : ∀ n, (W.drewN n).cell? ⟨g, 0, none⟩ = some (.pointer (some ⟨N, 0, none⟩)) := fun n => g1
  refine wp_region_mixI (l1 := [_, _, _]) (l2 := [_, _]) [(0, true), (1, true), (2, false)] (fun u => u.cell? ⟨g, 0, none⟩ = some (.pointer (some ⟨N, 0, none⟩))) (by kernel_rfl) (by kernel_rfl) (Loose.less loose_rest fun _ _ => trivial) g1 ?_
  refine mixI_take (.pointer (some ⟨N, 0, none⟩)) rfl rfl (fun u hu => by go_simp) ?_
  refine mixI_take (.func (.func f) #[] #[.pointer (some ⟨p, 0, none⟩), .pointer (some ⟨q, 0, none⟩)]) rfl rfl (fun u hu => by go_simp) ?_
  refine mixI_go rfl rfl fun K hK => wp_go (f := f) (args := #[.pointer (some ⟨p, 0, none⟩), .pointer (some ⟨q, 0, none⟩)]) (by go_simp) ((HD.out W.drew ⟨HT.out.1, HT.out.2⟩).mono ?_)
  rintro e1 w1 ⟨rfl, n1, rfl⟩
  clear hK
  have hN2 : (W.drew.drewN n1).heap[N]? = some (.cells #[n] 2 (0, 0)) := HN.out
  have hE2 : (W.drew.drewN n1).heap[E]? = some (.cells #[e] 24 (0, 0)) := HE.out
  have hG2 : (W.drew.drewN n1).heap[g]? = some (.cells #[.pointer (some ⟨N, 0, none⟩)] 56 (0, 0)) := HG.out
  have hP2 : (W.drew.drewN n1).heap[w.heap.size]? = some (.cells #[.pointer (some ⟨E, 0, none⟩)] 55 (0, 0)) := HP.out
  have hB2 : Below B w (W.drew.drewN n1) := ((HBW.out).drew).drewN n1
  refine leaves_cons (f := 42) (args := #[.pointer (some ⟨g, 0, none⟩), .pointer (some ⟨w.heap.size, 0, none⟩)]) (by simp) (by simp [go_sem]) ?_
  refine (catch_thrown hG2 hP2 hN2 hE2 hNE hBN hBE).mono ?_
  rintro e1 u' w3 ⟨rfl, rfl, k1, k2, k3⟩
  exact ⟨.tuple #[], by simp [results, Tryz.results36], rfl, k1, k2, hB2.trans k3⟩
end Go.Proofs.YtkgginkdhggpgaaGreatDoor.NumB
