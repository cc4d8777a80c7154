/- The lexer's actions, walked: a map of the reader's own methods. -/
import Derived.Test.YtghebacphjglbaaGreatLexB
namespace Go.Proofs.YtghebacphjglbaaGreat.LexC
open Go.RowKit Go.Proofs.YtghebacphjglbaaGreat.Lexy Go.Proofs.YtghebacphjglbaaGreat.LexA Go.Proofs.YtghebacphjglbaaGreat.LexB

theorem _root_.Go.Proofs.YtghebacphjglbaaGreat.LexA.Rd.cast {w : World} {b : Nat} {s : ByteArray} {a : Nat} {l : Value} {o o' : Int} (h : Rd w b s a l o) (e : o = o') : Rd w b s a l o' := e ▸ h

theorem com_rest (s : ByteArray) (k : Nat) : comL (rest s k) = (decide (byteAt s k = 47) && decide (byteAt s (k + 1) = 47)) := by
  by_cases h : k < s.size
  · obtain ⟨c, h1, h2⟩ := rest_cons h
    rw [h1, h2]
    by_cases h' : k + 1 < s.size
    · obtain ⟨d, h3, h4⟩ := rest_cons h'
      rw [h3, h4]; rfl
    · rw [(rest_nil (s := s) (a := k + 1) (by omega)).1, (rest_nil (s := s) (a := k + 1) (by omega)).2]
      simp [comL]
  · rw [(rest_nil (s := s) (a := k) (by omega)).1, (rest_nil (s := s) (a := k) (by omega)).2]; rfl

theorem slash_com {b : Nat} {s : ByteArray} {a : Nat} {l : Value} {o : Int} {w : World} (hr : Rd w b s a l o) (hs : s.size ≤ 1000000) (ha : a < s.size) (hc : comL (rest s a) = true) :
    Calls Tryz.prog 123 #[.pointer (some ⟨b, 0, none⟩)] w fun e w' => e = .returned (.tuple #[]) ∧ Rd w' b s (a + overL (rest s a)) l o ∧ w.grownBy w' (some b) := by
  rw [com_rest] at hc
  have HC := Lib.hid hc; clear hc
  go_enter Tryz.func123, Tryz.ntmps123
  go_wp2_with (first | (go_at_call 96; refine (comment_t hr hs (by omega) HC.out).mono ?_; rintro e w' ⟨rfl, n0, rfl⟩) | (go_at_call 97; refine (line_any (hr.drewN _) hs (by omega)).mono ?_; rintro e w' ⟨rfl, hr2, hg⟩))
  refine bodyPost_ret (results_none rfl _ _ _) rfl ?_
  exact ⟨rfl, hr2, grown_trans (grown_drewN _ _ _) hg⟩
theorem slash_no {b : Nat} {s : ByteArray} {a : Nat} {l : Value} {o : Int} {w : World} (hr : Rd w b s a l o) (hs : s.size ≤ 1000000) (ha : a < s.size) (hc : comL (rest s a) = false) :
    Calls Tryz.prog 123 #[.pointer (some ⟨b, 0, none⟩)] w fun e w' => e = .returned (.tuple #[]) ∧ Rd w' b s (a + 1) l o ∧ w.grownBy w' (some b) := by
  rw [com_rest] at hc
  have HC := Lib.hid hc; clear hc
  have c1 := hr.c1; have f1 := hr.fr 1
  go_enter Tryz.func123, Tryz.ntmps123
  go_wp2_with (go_at_call 96; refine (comment_f hr hs (by omega) HC.out).mono ?_; rintro e w' ⟨rfl, n0, rfl⟩)
  go_end0
  exact ⟨rfl, (hr.drewN _).set1 (by simp), grown_trans (grown_drewN _ _ _) (grown_set _ ⟨b, 1, none⟩ _)⟩

/-! ### the map of methods -/
theorem run_checkKey_u8 {P : Program} {kt : TypeId} (hk : P.underlying kt = some (.int .u8)) (e : Bool) (n : Nat) (k : Int) (w : World) : (Instr.checkKey e (n + 1) kt (.int .u8 k)).run P w = .ok () w := by
  simp only [Instr.checkKey, Sem.run_bind, run_underlying hk, Result.andThen]; rfl
theorem run_insert_u8 {P : Program} {t kt et : TypeId} (ht : P.underlying t = some (.map kt et)) (hk : P.underlying kt = some (.int .u8)) (w : World) (r : Nat) (es : Array MapEntry) (c : Nat)
    (k : Int) (v : Value) (hno : Instr.findNow (.int .u8) (.int .u8 k) es.toList 0 = some none) (hr : r = w.heap.size) :
    (Instr.mapUpdate t (.map (some r)) (.int .u8 k) v).run P (w.alloc (.map es c)) = .ok () (w.alloc (.map (es.push ⟨.int .u8 k, v, c⟩) (c + 1))) := by
  subst hr
  have hb : (w.alloc (.map es c)).heap[w.heap.size]? = some (.map es c) := heap_alloc_new w _
  have hs : ((w.alloc (.map es c)).heap.setIfInBounds w.heap.size (.map (es.push ⟨.int .u8 k, v, c⟩) (c + 1))) = (w.alloc (.map (es.push ⟨.int .u8 k, v, c⟩) (c + 1))).heap := by
    show (w.heap.push _).setIfInBounds w.heap.size _ = w.heap.push _
    apply Array.ext_getElem?
    intro i
    simp only [Array.getElem?_setIfInBounds, Array.getElem?_push, Array.size_push]
    by_cases h : i = w.heap.size
    · subst h; simp
    · rw [if_neg (fun e => h e.symm), if_neg h, if_neg h]
  have hck : (Instr.checkKey false 10000 kt (.int .u8 k)).run P (w.alloc (.map es c)) = .ok () (w.alloc (.map es c)) := run_checkKey_u8 hk false 9999 k _
  simp only [Instr.mapUpdate, Sem.run_bind, run_underlying ht, run_underlying hk, Result.andThen, MapKept.run_getObj_map hb, hck, Instr.findKey, hno]
  simp only [Sem.run_pure, setObj, Sem.run, hb]
  show Result.ok () { (w.alloc (.map es c)) with heap := _ } = _
  rw [hs]; rfl

/-- the four methods of an action -/
def fns (b : Nat) : Array MapEntry :=
  #[⟨.int .u8 123, .func (.func 120) #[.pointer (some ⟨b, 0, none⟩)] #[], 0⟩, ⟨.int .u8 125, .func (.func 121) #[.pointer (some ⟨b, 0, none⟩)] #[], 1⟩,
    ⟨.int .u8 34, .func (.func 122) #[.pointer (some ⟨b, 0, none⟩)] #[], 2⟩, ⟨.int .u8 47, .func (.func 123) #[.pointer (some ⟨b, 0, none⟩)] #[], 3⟩]

theorem run_lookup_u8 {P : Program} {t kt et : TypeId} (ht : P.underlying t = some (.map kt et)) (hk : P.underlying kt = some (.int .u8)) (w : World) (r : Nat) (es : Array MapEntry) (c : Nat)
    (hb : w.heap[r]? = some (.map es c)) (k : Int) (i : Nat) (v : Value) (hyes : Instr.findNow (.int .u8) (.int .u8 k) es.toList 0 = some (some (i, v))) :
    (Instr.lookup t (.map (some r)) (.int .u8 k) true).run P w = .ok (.tuple #[v, .bool true]) w := by
  have hck : (Instr.checkKey es.isEmpty 10000 kt (.int .u8 k)).run P w = .ok () w := run_checkKey_u8 hk es.isEmpty 9999 k w
  simp only [Instr.lookup, Sem.run_bind, run_underlying ht, run_underlying hk, Result.andThen, MapKept.run_getObj_map hb, Instr.findKey]
  simp [Sem.run_pure, hck, hyes]
theorem run_lookup_u8_no {P : Program} {t kt et : TypeId} (ht : P.underlying t = some (.map kt et)) (hk : P.underlying kt = some (.int .u8)) (w : World) (r : Nat) (es : Array MapEntry) (c : Nat)
    (hb : w.heap[r]? = some (.map es c)) (k : Int) (z : Value) (hz : ∀ w, (zeroValue et).run P w = .ok z w) (hno : Instr.findNow (.int .u8) (.int .u8 k) es.toList 0 = some none) :
    (Instr.lookup t (.map (some r)) (.int .u8 k) true).run P w = .ok (.tuple #[z, .bool false]) w := by
  have hck : (Instr.checkKey es.isEmpty 10000 kt (.int .u8 k)).run P w = .ok () w := run_checkKey_u8 hk es.isEmpty 9999 k w
  simp only [Instr.lookup, Sem.run_bind, run_underlying ht, run_underlying hk, Result.andThen, MapKept.run_getObj_map hb, Instr.findKey]
  simp [Sem.run_pure, Result.andThen, hz, hck, hno]

/-- the place behind an action's closing brace -/
def aEnd (s : ByteArray) (k o : Nat) : Option Nat := (autoL (rest s k) o 0).map (· + k)
theorem aEnd_zero (s : ByteArray) (k : Nat) : aEnd s k 0 = some k := by unfold aEnd; cases rest s k <;> simp [autoL]
theorem aEnd_end (s : ByteArray) (o : Nat) : aEnd s s.size (o + 1) = none := by unfold aEnd; rw [(rest_nil (Nat.le_refl _)).1]; rfl
theorem aEnd_open {s : ByteArray} {k : Nat} (o : Nat) (hk : k < s.size) (h : byteAt s k = 123) : aEnd s k (o + 1) = aEnd s (k + 1) (o + 2) := by
  obtain ⟨c, h1, h2⟩ := rest_cons hk
  unfold aEnd; rw [h1, autoL_open c _ o (by omega)]
  cases autoL (rest s (k + 1)) (o + 2) 0 <;> simp <;> omega
theorem aEnd_close {s : ByteArray} {k : Nat} (o : Nat) (hk : k < s.size) (h : byteAt s k = 125) : aEnd s k (o + 1) = aEnd s (k + 1) o := by
  obtain ⟨c, h1, h2⟩ := rest_cons hk
  unfold aEnd; rw [h1, autoL_close c _ o (by omega)]
  cases autoL (rest s (k + 1)) o 0 <;> simp <;> omega
theorem aEnd_plain {s : ByteArray} {k : Nat} (o : Nat) (hk : k < s.size) (a1 : byteAt s k ≠ 123) (a2 : byteAt s k ≠ 125) (a3 : byteAt s k ≠ 34) (a4 : byteAt s k ≠ 47) : aEnd s k (o + 1) = aEnd s (k + 1) (o + 1) := by
  obtain ⟨c, h1, h2⟩ := rest_cons hk
  unfold aEnd; rw [h1, autoL_plain c _ o (by omega) (by omega) (by omega) (by omega)]
  cases autoL (rest s (k + 1)) (o + 1) 0 <;> simp <;> omega
theorem aEnd_slash {s : ByteArray} {k : Nat} (o : Nat) (hk : k < s.size) (a1 : byteAt s k = 47) (a2 : comL (rest s k) = false) : aEnd s k (o + 1) = aEnd s (k + 1) (o + 1) := by
  obtain ⟨c, h1, h2⟩ := rest_cons hk
  rw [h1] at a2
  unfold aEnd; rw [h1, autoL_slash c _ o (by omega) a2]
  cases autoL (rest s (k + 1)) (o + 1) 0 <;> simp <;> omega
theorem aEnd_com {s : ByteArray} {k : Nat} (o : Nat) (a2 : comL (rest s k) = true) : aEnd s k (o + 1) = aEnd s (k + overL (rest s k)) (o + 1) := by
  by_cases hk : k < s.size
  · obtain ⟨c, h1, h2⟩ := rest_cons hk
    unfold aEnd
    rw [← rest_drop]
    rw [h1] at a2 ⊢
    rw [autoL_com c _ o a2]
    cases autoL (List.drop (overL (c :: rest s (k + 1))) (c :: rest s (k + 1))) (o + 1) 0 <;> simp <;> omega
  · rw [(rest_nil (s := s) (a := k) (by omega)).1] at a2; cases a2
theorem aEnd_str {s : ByteArray} {k : Nat} (o : Nat) (hk : k < s.size) (a1 : byteAt s k = 34) : aEnd s k (o + 1) = match qEnd s (k + 1) with | none => none | some n => aEnd s n (o + 1) := by
  obtain ⟨c, h1, h2⟩ := rest_cons hk
  unfold aEnd qEnd
  rw [h1, autoL_str c _ o (by omega)]
  cases quoL (rest s (k + 1)) with
  | none => rfl
  | some n =>
    simp only [Option.map_some]
    rw [rest_drop, show k + 1 + n = n + (k + 1) from by omega]
    cases autoL (rest s (n + (k + 1))) (o + 1) 0 <;> simp <;> omega
theorem qEnd_le {s : ByteArray} {k n : Nat} (h : qEnd s k = some n) : k < n ∧ n ≤ s.size := by
  unfold qEnd at h
  cases hq : quoL (rest s k) with
  | none => simp [hq] at h
  | some m => simp [hq] at h; subst h; have := quoL_le _ _ hq; rw [rest_len] at this; omega
theorem over_pos {s : ByteArray} {k : Nat} (h : comL (rest s k) = true) : 1 ≤ overL (rest s k) ∧ k + overL (rest s k) ≤ s.size := by
  have h1 := overL_pos _ h
  have h2 := over_le s k
  omega

/-! the map, asked -/
theorem look_123 {w : World} {m b : Nat} (hm : w.heap[m]? = some (.map (fns b) 4)) {c : Nat} (hc : c = 123) :
    ∀ n, (Instr.lookup 155 (.map (some m)) (.int .u8 (c : Int)) true).run Tryz.prog (w.drewN n) = .ok (.tuple #[.func (.func 120) #[.pointer (some ⟨b, 0, none⟩)] #[], .bool true]) (w.drewN n) := by
  subst hc; intro n; exact run_lookup_u8 Tryz.underlying155 Tryz.underlying5 (w.drewN n) m (fns b) 4 hm 123 0 _ rfl
theorem look_125 {w : World} {m b : Nat} (hm : w.heap[m]? = some (.map (fns b) 4)) {c : Nat} (hc : c = 125) :
    ∀ n, (Instr.lookup 155 (.map (some m)) (.int .u8 (c : Int)) true).run Tryz.prog (w.drewN n) = .ok (.tuple #[.func (.func 121) #[.pointer (some ⟨b, 0, none⟩)] #[], .bool true]) (w.drewN n) := by
  subst hc; intro n; exact run_lookup_u8 Tryz.underlying155 Tryz.underlying5 (w.drewN n) m (fns b) 4 hm 125 1 _ rfl
theorem look_34 {w : World} {m b : Nat} (hm : w.heap[m]? = some (.map (fns b) 4)) {c : Nat} (hc : c = 34) :
    ∀ n, (Instr.lookup 155 (.map (some m)) (.int .u8 (c : Int)) true).run Tryz.prog (w.drewN n) = .ok (.tuple #[.func (.func 122) #[.pointer (some ⟨b, 0, none⟩)] #[], .bool true]) (w.drewN n) := by
  subst hc; intro n; exact run_lookup_u8 Tryz.underlying155 Tryz.underlying5 (w.drewN n) m (fns b) 4 hm 34 2 _ rfl
theorem look_47 {w : World} {m b : Nat} (hm : w.heap[m]? = some (.map (fns b) 4)) {c : Nat} (hc : c = 47) :
    ∀ n, (Instr.lookup 155 (.map (some m)) (.int .u8 (c : Int)) true).run Tryz.prog (w.drewN n) = .ok (.tuple #[.func (.func 123) #[.pointer (some ⟨b, 0, none⟩)] #[], .bool true]) (w.drewN n) := by
  subst hc; intro n; exact run_lookup_u8 Tryz.underlying155 Tryz.underlying5 (w.drewN n) m (fns b) 4 hm 47 3 _ rfl
theorem look_no {w : World} {m b : Nat} (hm : w.heap[m]? = some (.map (fns b) 4)) {c : Nat} (h1 : c ≠ 123) (h2 : c ≠ 125) (h3 : c ≠ 34) (h4 : c ≠ 47) :
    ∀ n, (Instr.lookup 155 (.map (some m)) (.int .u8 (c : Int)) true).run Tryz.prog (w.drewN n) = .ok (.tuple #[.nilFunc, .bool false]) (w.drewN n) := by
  intro n
  refine run_lookup_u8_no Tryz.underlying155 Tryz.underlying5 (w.drewN n) m (fns b) 4 hm (c : Int) .nilFunc (fun _ => by kernel_rfl) ?_
  have x1 : ((c : Int) == 123) = false := beq_eq_false_iff_ne.2 (by omega)
  have x2 : ((c : Int) == 125) = false := beq_eq_false_iff_ne.2 (by omega)
  have x3 : ((c : Int) == 34) = false := beq_eq_false_iff_ne.2 (by omega)
  have x4 : ((c : Int) == 47) = false := beq_eq_false_iff_ne.2 (by omega)
  simp only [fns, Instr.findNow, Instr.sameNow, if_true, x1, x2, x3, x4]

/-- what comes of the action that begins at a place -/
def ActPost (b : Nat) (s : ByteArray) (a : Nat) (l : Value) (w : World) (e : Ending) (w' : World) : Prop :=
  match aEnd s (a + 1) 1 with
  | some n => e = .returned (.string (s.extract (a + 1) (n - 1))) ∧ Rd w' b s n l 0 ∧ w.grownBy w' (some b)
  | none => e = .panicked (thrown 101) ∧ w.grownBy w' (some b)
theorem ActPost.bad {b : Nat} {s : ByteArray} {a : Nat} {l : Value} {w w' : World} (h : aEnd s (a + 1) 1 = none) (g : w.grownBy w' (some b)) : ActPost b s a l w (.panicked (thrown 101)) w' := by
  unfold ActPost; rw [h]; exact ⟨rfl, g⟩
theorem ActPost.good {b : Nat} {s : ByteArray} {a n : Nat} {l : Value} {w w' : World} (h : aEnd s (a + 1) 1 = some n) (g : w.grownBy w' (some b)) (hr : Rd w' b s n l 0) : ActPost b s a l w (.returned (.string (s.extract (a + 1) (n - 1)))) w' := by
  unfold ActPost; rw [h]; exact ⟨rfl, hr, g⟩

set_option maxRecDepth 100000 in
set_option maxHeartbeats 2000000 in
theorem action_any {b : Nat} {s : ByteArray} {a : Nat} {l : Value} {w : World} (hr : Rd w b s a l 0) (hs : s.size ≤ 1000000) (ha : a < s.size) :
    Calls Tryz.prog 112 #[.pointer (some ⟨b, 0, none⟩)] w (ActPost b s a l w) := by
  have hmm := @run_makeMap Tryz.prog
  have hmf : ∀ (fn : Fn) (first cap : Array Value) (w : World), (Instr.makeFunc fn first cap).run Tryz.prog w = .ok (.func fn first cap) w := fun _ _ _ _ => rfl
  have i1 := run_insert_u8 Tryz.underlying155 Tryz.underlying5 w w.heap.size #[] 0 123 (.func (.func 120) #[.pointer (some ⟨b, 0, none⟩)] #[]) rfl rfl
  have i2 := run_insert_u8 Tryz.underlying155 Tryz.underlying5 w w.heap.size ((fns b).extract 0 1) 1 125 (.func (.func 121) #[.pointer (some ⟨b, 0, none⟩)] #[]) rfl rfl
  have i3 := run_insert_u8 Tryz.underlying155 Tryz.underlying5 w w.heap.size ((fns b).extract 0 2) 2 34 (.func (.func 122) #[.pointer (some ⟨b, 0, none⟩)] #[]) rfl rfl
  have i4 := run_insert_u8 Tryz.underlying155 Tryz.underlying5 w w.heap.size ((fns b).extract 0 3) 3 47 (.func (.func 123) #[.pointer (some ⟨b, 0, none⟩)] #[]) rfl rfl
  simp [fns] at i1 i2 i3 i4
  have hb := hr.lt
  have ca1 : ∀ o, (w.alloc o).cell? ⟨b, 1, none⟩ = some (.int .i64 (a : Int)) := fun o => (World.cell?_alloc_past _ _ _ hb).trans hr.c1
  have hm : (w.alloc (.map (fns b) 4)).heap[w.heap.size]? = some (.map (fns b) 4) := heap_alloc_new w _
  have hg := World.grownBy_alloc w (.map (fns b) 4) (some b)
  have hR : Rd (w.alloc (.map (fns b) 4)) b s a l 0 := hr.kept (World.grownBy_alloc w _ none) (by simp)
  have hsz : w.heap.size < (w.alloc (.map (fns b) 4)).heap.size := by simp
  have HF := Lib.hid (show w.alloc (.map (fns b) 4) = _ from by unfold fns; rfl)
  go_enter Tryz.func112, Tryz.ntmps112
  go_wp2_with fail
  rw [← HF.out]
  clear HF i1 i2 i3 i4 ca1
  generalize w.alloc (.map (fns b) 4) = W at *
  generalize w.heap.size = m at *
  refine (opens_any hR hs (by omega) (by omega) (by omega)).mono ?_
  rintro e w1 ⟨rfl, hr1, hg1⟩
  have hm1 : w1.heap[m]? = some (.map (fns b) 4) := (hg1.block m hsz (by simp; omega)).trans hm
  have hsz1 : m < w1.heap.size := Nat.lt_of_lt_of_le hsz hg1.size
  have hgg := grown_trans hg hg1
  clear hg1 hm hsz hg hR
  go_wp2_with fail
  go_loopg [] (s.size - (a + 1)) (fun g wr => ∃ k o : Nat, a + 1 ≤ k ∧ (o = 0 → a + 2 ≤ k) ∧ k ≤ s.size ∧ o ≤ k ∧ g = s.size - k ∧ aEnd s k o = aEnd s (a + 1) 1 ∧ Rd wr b s k l o ∧ wr.heap[m]? = some (.map (fns b) 4) ∧ m < wr.heap.size ∧ w.grownBy wr (some b))
  case atStart => exact ⟨a + 1, 1, by omega, by omega, by omega, by omega, rfl, rfl, by simpa using hr1, hm1, hsz1, hgg⟩
  case round =>
    clear hr1 hm1 hsz1 hgg
    obtain ⟨k, o, hk1, hk0, hk2, hok, rfl, hov, hrk, hmk, hszk, hgk⟩ := hrel
    have HO := Lib.hid hov; clear hov
    have c1 := hrk.c1; have f1 := hrk.fr 1; have c3 := hrk.c3; have c0 := hrk.c0
    have HM := Lib.hid hmk; clear hmk
    have H0 := Lib.hid hk0; clear hk0
    by_cases ho : o = 0
    · subst ho
      have hk3 := H0.out rfl
      have e1 : IntKind.i64.wrap ((k : Int) - 1) = (k : Int) - 1 := IntWalk.i64_in _ (by omega)
      have e2 : (0 : Int) ≤ (k : Int) - 1 := by omega
      have e3 : ((k : Int) - 1).toNat = k - 1 := by omega
      go_wp2_with fail
      go_quiet (fail)
      go_wp2
      go_ret
      exact ActPost.good (n := k) (by rw [← HO.out, aEnd_zero]) (grown_trans hgk (grown_drewN _ _ _)) hrk
    · obtain ⟨p, rfl⟩ : ∃ p, o = p + 1 := ⟨o - 1, by omega⟩
      have hpos : (0 : Int) < ((p + 1 : Nat) : Int) := by omega
      clear ho H0
      by_cases hlt : k < s.size
      case neg =>
        obtain rfl : s.size = k := by omega
        go_wp2_with (first | (go_at_call 94; (with_reducible refine (more_f hrk hs).mono ?_); rintro e w' ⟨rfl, n0, rfl⟩) | (go_at_call 110; refine (no_any _ _).mono ?_; rintro e w' ⟨rfl, rfl⟩))
        exact ⟨rfl, ActPost.bad (by rw [← HO.out, aEnd_end]) (grown_trans hgk (grown_drewN _ _ _))⟩
      by_cases hc : byteAt s k = 123
      · skip
        have hlk := look_123 HM.out hc
        have HL := Lib.hid (aEnd_open p hlt hc); clear hc
        go_wp2_with (first | (go_at_call 95; (with_reducible refine (now0 (hrk.drewN _) hs hk2).mono ?_); rintro e w' ⟨rfl, n1, rfl⟩) | (go_at_call 94; (with_reducible refine (more_t hrk hs hlt).mono ?_); rintro e w' ⟨rfl, n0, rfl⟩) | (go_at_call 120; refine (opens_any (hrk.drewN _) hs hk2 (by omega) (by omega)).mono ?_; rintro e w2 ⟨rfl, hr2, hg2⟩))
        go_roundg (s.size - (k + 1))
        case measure => omega
        case rel => exact ⟨k + 1, p + 2, by omega, by omega, by omega, by omega, rfl, by rw [← HO.out, HL.out], hr2.cast (by omega), (hg2.block m hszk (by simp; omega)).trans HM.out, Nat.lt_of_lt_of_le hszk hg2.size, grown_trans hgk (grown_trans (grown_drewN _ _ _) hg2)⟩

      by_cases hc5 : byteAt s k = 125
      · have hc := hc5; clear hc5
        have hlk := look_125 HM.out hc
        have HL := Lib.hid (aEnd_close p hlt hc); clear hc
        go_wp2_with (first | (go_at_call 95; (with_reducible refine (now0 (hrk.drewN _) hs hk2).mono ?_); rintro e w' ⟨rfl, n1, rfl⟩) | (go_at_call 94; (with_reducible refine (more_t hrk hs hlt).mono ?_); rintro e w' ⟨rfl, n0, rfl⟩) | (go_at_call 121; refine (closes_any (hrk.drewN _) hs hk2 (by omega) (by omega)).mono ?_; rintro e w2 ⟨rfl, hr2, hg2⟩))
        go_roundg (s.size - (k + 1))
        case measure => omega
        case rel => exact ⟨k + 1, p, by omega, by omega, by omega, by omega, rfl, by rw [← HO.out, HL.out], hr2.cast (by omega), (hg2.block m hszk (by simp; omega)).trans HM.out, Nat.lt_of_lt_of_le hszk hg2.size, grown_trans hgk (grown_trans (grown_drewN _ _ _) hg2)⟩

      by_cases hc6 : byteAt s k = 34
      · have hc := hc6; clear hc6 hc5
        have hlk := look_34 HM.out hc
        have HL := Lib.hid (aEnd_str p hlt hc); clear hc
        cases hq : qEnd s (k + 1) with
        | none =>
          have HQ := Lib.hid hq; clear hq
          go_wp2_with (first | (go_at_call 95; (with_reducible refine (now0 (hrk.drewN _) hs hk2).mono ?_); rintro e w' ⟨rfl, n1, rfl⟩) | (go_at_call 94; (with_reducible refine (more_t hrk hs hlt).mono ?_); rintro e w' ⟨rfl, n0, rfl⟩) | (go_at_call 122; refine (quoted_any (hrk.drewN _) hs hlt).mono ?_; intro e w2 hq2; unfold QuoPost at hq2; rw [HQ.out] at hq2; obtain ⟨rfl, hg2⟩ := hq2))
          exact ⟨rfl, ActPost.bad (by rw [← HO.out, HL.out, HQ.out]) (grown_trans hgk (grown_trans (grown_drewN _ _ _) hg2))⟩
        | some n =>
          have hn := qEnd_le hq
          have HQ := Lib.hid hq; clear hq
          go_wp2_with (first | (go_at_call 95; (with_reducible refine (now0 (hrk.drewN _) hs hk2).mono ?_); rintro e w' ⟨rfl, n1, rfl⟩) | (go_at_call 94; (with_reducible refine (more_t hrk hs hlt).mono ?_); rintro e w' ⟨rfl, n0, rfl⟩) | (go_at_call 122; refine (quoted_any (hrk.drewN _) hs hlt).mono ?_; intro e w2 hq2; unfold QuoPost at hq2; rw [HQ.out] at hq2; obtain ⟨rfl, hr2, hg2⟩ := hq2))
          go_roundg (s.size - n)
          case measure => omega
          case rel => exact ⟨n, p + 1, by omega, by omega, by omega, by omega, rfl, by rw [← HO.out, HL.out, HQ.out], hr2.cast (by omega), (hg2.block m hszk (by simp; omega)).trans HM.out, Nat.lt_of_lt_of_le hszk hg2.size, grown_trans hgk (grown_trans (grown_drewN _ _ _) hg2)⟩
      by_cases hc7 : byteAt s k = 47
      · have hc := hc7; clear hc7 hc6 hc5
        cases hcm : comL (rest s k) with
        | true =>
          have hov := over_pos hcm
          have hlk := look_47 HM.out hc
          have HL := Lib.hid (aEnd_com p hcm); clear hc
          have HC := Lib.hid hcm; clear hcm
          go_wp2_with (first | (go_at_call 95; (with_reducible refine (now0 (hrk.drewN _) hs hk2).mono ?_); rintro e w' ⟨rfl, n1, rfl⟩) | (go_at_call 94; (with_reducible refine (more_t hrk hs hlt).mono ?_); rintro e w' ⟨rfl, n0, rfl⟩) | (go_at_call 123; refine (slash_com (hrk.drewN _) hs hlt HC.out).mono ?_; rintro e w2 ⟨rfl, hr2, hg2⟩))
          go_roundg (s.size - (k + overL (rest s k)))
          case measure => omega
          case rel => exact ⟨k + overL (rest s k), p + 1, by omega, by omega, by omega, by omega, rfl, by rw [← HO.out, HL.out], hr2.cast (by omega), (hg2.block m hszk (by simp; omega)).trans HM.out, Nat.lt_of_lt_of_le hszk hg2.size, grown_trans hgk (grown_trans (grown_drewN _ _ _) hg2)⟩
        | false =>
          have hlk := look_47 HM.out hc
          have HL := Lib.hid (aEnd_slash p hlt hc hcm); clear hc
          have HC := Lib.hid hcm; clear hcm
          go_wp2_with (first | (go_at_call 95; (with_reducible refine (now0 (hrk.drewN _) hs hk2).mono ?_); rintro e w' ⟨rfl, n1, rfl⟩) | (go_at_call 94; (with_reducible refine (more_t hrk hs hlt).mono ?_); rintro e w' ⟨rfl, n0, rfl⟩) | (go_at_call 123; refine (slash_no (hrk.drewN _) hs hlt HC.out).mono ?_; rintro e w2 ⟨rfl, hr2, hg2⟩))
          go_roundg (s.size - (k + 1))
          case measure => omega
          case rel => exact ⟨k + 1, p + 1, by omega, by omega, by omega, by omega, rfl, by rw [← HO.out, HL.out], hr2.cast (by omega), (hg2.block m hszk (by simp; omega)).trans HM.out, Nat.lt_of_lt_of_le hszk hg2.size, grown_trans hgk (grown_trans (grown_drewN _ _ _) hg2)⟩
      have hlk := look_no HM.out hc hc5 hc6 hc7
      have HL := Lib.hid (aEnd_plain p hlt hc hc5 hc6 hc7); clear hc hc5 hc6 hc7
      go_wp2_with (first | (go_at_call 95; (with_reducible refine (now0 (hrk.drewN _) hs hk2).mono ?_); rintro e w' ⟨rfl, n1, rfl⟩) | (go_at_call 94; (with_reducible refine (more_t hrk hs hlt).mono ?_); rintro e w' ⟨rfl, n0, rfl⟩))
      go_roundg (s.size - (k + 1))
      case measure => omega
      case rel => exact ⟨k + 1, p + 1, by omega, by omega, by omega, by omega, rfl, by rw [← HO.out, HL.out], (hrk.drewN _).set1 (by simp), (Below.heap_setCell _ _ _ _ (by simp; omega)).trans HM.out, by simpa [World.setCell] using hszk, grown_trans hgk (grown_trans (grown_drewN _ _ _) (grown_set _ ⟨b, 1, none⟩ _))⟩
end Go.Proofs.YtghebacphjglbaaGreat.LexC
