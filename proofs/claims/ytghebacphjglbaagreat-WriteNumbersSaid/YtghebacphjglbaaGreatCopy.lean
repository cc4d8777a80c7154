/- gristmillkit's copies of grammars' texts: what is copied lies apart. (Printed by copy_gen.py.) -/
import Derived.Test.YtghebacphjglbaaGreatSame
import Derived.Test.YtghebacphjglbaaGreatReadPlain
import Derived.Laws.AppendOwnNone
namespace Go.Proofs.YtghebacphjglbaaGreat.Copy
open Go.RowKit Go.Proofs.YtghebacphjglbaaGreat.Lexy Go.Proofs.YtghebacphjglbaaGreat.LexA Go.Proofs.YtghebacphjglbaaGreat.LexB Go.Proofs.YtghebacphjglbaaGreat.LexC Go.Proofs.YtghebacphjglbaaGreat.LexD Go.Proofs.YtghebacphjglbaaGreat.LexE Go.Proofs.YtghebacphjglbaaGreat.LexF Go.Proofs.YtghebacphjglbaaGreat.LexG Go.Proofs.YtghebacphjglbaaGreat.Heap Go.Proofs.YtghebacphjglbaaGreat.Dat Go.Proofs.YtghebacphjglbaaGreat.Ready Go.Proofs.YtghebacphjglbaaGreat.ReadA Go.Proofs.YtghebacphjglbaaGreat.ReadC Go.Proofs.YtghebacphjglbaaGreat.ReadH Go.Proofs.YtghebacphjglbaaGreat.ReadI Go.Proofs.YtghebacphjglbaaGreat.ReadM Go.Proofs.YtghebacphjglbaaGreat.ReadO Go.Proofs.YtghebacphjglbaaGreat.Same

theorem wInfo : (Tryz.prog.info? 33).map (fun i => (i.zero, i.size, i.bytes)) = some (some (.agg #[.string { data := #[] }, .slice none 0 0, .int .i64 0]), 3, 48) := by kernel_rfl
theorem dInfo : (Tryz.prog.info? 62).map (fun i => (i.zero, i.size, i.bytes)) = some (some (.agg #[.string { data := #[] }, .string { data := #[] }, .slice none 0 0, .int .i64 0]), 4, 64) := by kernel_rfl
theorem rInfo : (Tryz.prog.info? 38).map (fun i => (i.zero, i.size, i.bytes)) = some (some (.agg #[.string { data := #[] }, .slice none 0 0, .slice none 0 0, .int .i64 0]), 4, 72) := by kernel_rfl
theorem aInfo : (Tryz.prog.info? 35).map (fun i => (i.zero, i.size, i.bytes)) = some (some (.agg #[.slice none 0 0, .string { data := #[] }, .bool false, .string { data := #[] }, .int .i64 0, .int .i64 0]), 6, 80) := by kernel_rfl
theorem row_slice' {w : World} {B E S n : Nat} {items : List Dat} {v : Value} {bk : List Nat} (h : Lies w B (.row E S n items) v bk) : ∃ a c, v = .slice a n c := by
  obtain ⟨xs, bs', hown, _⟩ := h.own
  rcases hown.2 with ⟨h, h0⟩ | ⟨g, cap, cur, h, _⟩
  · exact ⟨none, 0, by rw [h, h0]⟩
  · exact ⟨_, _, h⟩
/-- a copy that was made -/
def Made (w w' : World) (E : TypeId) (S n : Nat) (items : List Dat) (e : Ending) : Prop := ∃ a c bk, e = .returned (.slice a n c) ∧ Lies w' w.heap.size (.row E S n items) (.slice a n c) bk ∧ bk.Nodup ∧ Below w.heap.size w w'

theorem nmsD_cells {w : World} {B : Nat} : ∀ l : List (List UInt8), LiesL w B (nmsD l) (l.map fun x => .string (bs x)) []
  | [] => LiesL.nil.2 ⟨rfl, rfl⟩
  | _ :: xs => LiesL.lit (nmsD_cells xs)
set_option maxRecDepth 100000 in
set_option maxHeartbeats 1000000 in
theorem copy_texts {l : List (List UInt8)} {w : World} {s : Value} (hl : l.length ≤ 1000000) (h : Reads w (.row 9 1 l.length (nmsD l)) s) :
    Calls Tryz.prog 79 #[s] w fun e w' => Made w w' 9 1 l.length (nmsD l) e := by
  obtain ⟨ti, hi, hz0, hz1, hz2⟩ := stInfo
  obtain ⟨_, _, a, c, rfl, h'⟩ := Reads.row_iff.1 h
  have h2 : (a = none ∧ l.length = 0 ∧ c = 0) ∨ ∃ ad : Addr, a = some ad ∧ ∀ j u, (l.map fun x => Value.string (bs x))[j]? = some u → w.cell? (ad.add j) = some u := by
    rcases h' with h' | ⟨b, o, e, hr⟩ | ⟨ad, e, h0⟩
    · exact .inl h'
    · refine .inr ⟨_, e, fun j u hu => ?_⟩
      obtain ⟨x, hx, rfl⟩ : ∃ x, l[j]? = some x ∧ Value.string (bs x) = u := by simpa using hu
      obtain ⟨hj, hx⟩ := List.getElem?_eq_some_iff.1 hx
      rw [← hx]; have := name_cell hr hj; unfold Addr.add; split <;> simp_all
    · refine .inr ⟨ad, e, fun j u hu => ?_⟩
      obtain rfl : l = [] := List.eq_nil_of_length_eq_zero h0
      simp at hu
  have H := Lib.hid h2; clear h' h2 h
  rcases H.out with ⟨rfl, h0, rfl⟩ | ⟨ad, rfl, hnews⟩
  · obtain rfl : l = [] := List.eq_nil_of_length_eq_zero h0
    have hown := World.ownsRow_nil w w.heap.size 9 1
    go_enter Tryz.func79, Tryz.ntmps79
    go_wp2_with (at_builtin; refine wpList_append_own_none rfl _ _ _ rfl w.heap.size 9 ti 1 Tryz.underlying23 hi _ 0 [] rfl hown rfl ?_)
    go_ret
    exact ⟨none, 0, [], rfl, Lies.nil _ _ _ _, List.nodup_nil, Below.refl _ _⟩
  · have HN := Lib.hid hnews; clear hnews H
    have hown := World.ownsRow_nil w w.heap.size 9 1
    have hone : ∀ u ∈ (l.map fun x => Value.string (bs x)), u.oneCell' = true := fun u hu => by obtain ⟨x, _, rfl⟩ := List.mem_map.1 hu; rfl
    have HO := Lib.hid hone; clear hone
    go_enter Tryz.func79, Tryz.ntmps79
    go_wp2_with (at_builtin; go_loud (refine wpList_append_own _ rfl _ _ _ rfl w.heap.size 9 ti _ 1 16 Tryz.underlying23 hi hz0 hz1 hz2 rfl (by omega) _ 0 [] rfl hown ad l.length c (l.map fun x => .string (bs x)) rfl (by simp) HN.out HO.out (by unfold maxLen; omega) (by omega) (Nat.le_refl _) ?_; intro v' w1 hown1 hgrow hnil; simp only [Nat.zero_add, List.nil_append] at hown1))
    go_ret
    have hb : Below w.heap.size w w1 := (Below.refl _ w).grown (show w.grownBy w1 none from hgrow) (Nat.le_refl _) (fun j hj => by cases hj)
    rcases hown1.2 with ⟨rfl, h0⟩ | ⟨g, cap, cur, rfl, h1, h2, h3⟩
    · obtain rfl : l = [] := List.eq_nil_of_length_eq_zero h0
      exact ⟨none, 0, [], rfl, Lies.nil _ _ _ _, List.nodup_nil, hb⟩
    · refine ⟨_, cap, [g], rfl, ?_, by simp, hb⟩
      rw [Lies.row_iff]
      exact ⟨by rw [nmsD_len]; simp, .inr ⟨g, cap, _, [], rfl, hown1, nmsD_cells l, rfl⟩⟩

theorem alloc2 (w : World) (o1 o2 : Obj) : ((w.alloc o1).alloc o2).heap[w.heap.size + 1]? = some o2 := by
  have := heap_alloc_new (w.alloc o1) o2
  have hs : (w.alloc o1).heap.size = w.heap.size + 1 := by simp
  rw [hs] at this; exact this
theorem alloc1 (w : World) (o1 o2 : Obj) : ((w.alloc o1).alloc o2).heap[w.heap.size]? = some o1 := (Below.heap_alloc _ _ _ (by simp)).trans (heap_alloc_new w _)
theorem size2 (w : World) (o1 o2 : Obj) : ((w.alloc o1).alloc o2).heap.size = w.heap.size + 2 := by simp

theorem res_copy_word_of {w : World} {H : Nat} {v0 v1 v2 : Value} {tmps : Array Value} (hH : w.heap[H]? = some (.cells #[v0, v1, v2] 33 (0, 0)))
    (h2 : tmps[2]?.getD undef = .pointer (some ⟨H, 0, none⟩)) : (results Tryz.f117 tmps).run Tryz.prog w = .ok (.agg #[v0, v1, v2]) w := by
  have a0 := cell_of_row w H 0 _ _ _ hH
  have a1 := cell_of_row w H 1 _ _ _ hH
  have a2 := cell_of_row w H 2 _ _ _ hH
  simp at a0 a1 a2
  simp [results, Tryz.results117, go_sem, h2, a0, a1, a2]

set_option maxRecDepth 100000 in
set_option maxHeartbeats 2000000 in
theorem copy_word_of {n : List UInt8} {ws : List Wd} {z : Int} {w : World} {s : Value} (hc : ∀ (w : World) (s : Value), Reads w (.row 33 3 ws.length (wdsD ws)) s → Calls Tryz.prog 105 #[s] w fun e w' => Made w w' 33 3 ws.length (wdsD ws) e) (h : Reads w (.row 33 3 ws.length (wdsD ws)) s) :
    Calls Tryz.prog 117 #[.agg #[.string (bs n), s, .int .i64 (z : Int)]] w fun e w' => ∃ (p : Option Addr) (q : Nat) (bk : List Nat), e = .returned (.agg #[.string (bs n), .slice p ws.length q, .int .i64 (z : Int)]) ∧ Lies w' w.heap.size (.row 33 3 ws.length (wdsD ws)) (.slice p ws.length q) bk ∧ bk.Nodup ∧ Below w.heap.size w w' := by
  obtain ⟨a, c, rfl⟩ := Reads.slice h
  have hb0 := ((Below.refl _ w).alloc (Nat.le_refl _) (.cells #[.string (bs n), .slice a ws.length c, .int .i64 (z : Int)] 33)).alloc (by simp) (.cells #[.string { data := #[] }, .slice none 0 0, .int .i64 0] 33)
  have H1 := Lib.hid (Reads.below hb0 h); clear h
  have HC := Lib.hid (hc)
  have g1 := alloc1 w (.cells #[.string (bs n), .slice a ws.length c, .int .i64 (z : Int)] 33) (.cells #[.string { data := #[] }, .slice none 0 0, .int .i64 0] 33)
  have g2 := alloc2 w (.cells #[.string (bs n), .slice a ws.length c, .int .i64 (z : Int)] 33) (.cells #[.string { data := #[] }, .slice none 0 0, .int .i64 0] 33)
  have G1 := Lib.hid g1; have G2 := Lib.hid g2; clear g1 g2
  go_enter Tryz.func117, Tryz.ntmps117
  go_wp2_with (go_at_call 105; go_must (refine (HC.out _ _ H1.out).mono ?_); rintro e w1 ⟨p, q, bk, rfl, hL, hnd, hb1⟩; have HL := Lib.hid hL; clear hL; have y1 := (hb1.block w.heap.size (by simp <;> omega)).trans G1.out; have y2 := (hb1.block (w.heap.size + 1) (by simp <;> omega)).trans G2.out; have Y1 := Lib.hid y1; have Y2 := Lib.hid y2; obtain ⟨_, _⟩ := cells3 y1; obtain ⟨_, _⟩ := cells3 y2; clear y1 y2)
  have y2 := Y2.out
  have hs := size2 w (.cells #[.string (bs n), .slice a ws.length c, .int .i64 (z : Int)] 33) (.cells #[.string { data := #[] }, .slice none 0 0, .int .i64 0] 33)
  have hbz := (hb0.trans (hb1.mono (by rw [hs]; omega))).setCell (p := ⟨w.heap.size, 1, none⟩) (Nat.le_refl _) (.slice p ws.length q)
  have key := heap_setCell_same _ (w.heap.size + 1) 2 _ _ (.int .i64 (z : Int)) (heap_setCell_same _ (w.heap.size + 1) 1 _ _ (.slice p ws.length q) (heap_setCell_same _ (w.heap.size + 1) 0 _ _ (.string (bs n)) ((Below.heap_setCell w1 ⟨w.heap.size, 1, none⟩ (.slice p ws.length q) (w.heap.size + 1) (by simp)).trans y2)))
  have hlt := Lies.lt HL.out
  have h1 : ∀ b ∈ bk, some b ≠ some w.heap.size := fun b hb e => by have := (hlt b hb).1; rw [hs] at this; have : b = w.heap.size := Option.some.inj e; omega
  have h2 : ∀ b ∈ bk, some b ≠ some (w.heap.size + 1) := fun b hb e => by have := (hlt b hb).1; rw [hs] at this; have : b = w.heap.size + 1 := Option.some.inj e; omega
  have hL0 := Lies.kept (Heap.grown_set w1 ⟨w.heap.size, 1, none⟩ (.slice p ws.length q)) HL.out h1
  have hL1 := Lies.kept (Heap.grown_set _ ⟨w.heap.size + 1, 0, none⟩ (.string (bs n))) hL0 h2
  have hL2 := Lies.kept (Heap.grown_set _ ⟨w.heap.size + 1, 1, none⟩ (.slice p ws.length q)) hL1 h2
  have hL3 := Lies.kept (Heap.grown_set _ ⟨w.heap.size + 1, 2, none⟩ (.int .i64 (z : Int))) hL2 h2
  refine bodyPost_ret (res_copy_word_of key rfl) rfl ?_
  exact ⟨p, q, bk, rfl, Lies.base (by rw [hs]; omega) hL3, hnd, (((hbz.setCell (p := ⟨w.heap.size + 1, 0, none⟩) (by simp) (.string (bs n))).setCell (p := ⟨w.heap.size + 1, 1, none⟩) (by simp) (.slice p ws.length q)).setCell (p := ⟨w.heap.size + 1, 2, none⟩) (by simp) (.int .i64 (z : Int)))⟩

/-- the copy of a word -/
def CopyW (x : Wd) : Prop := wdOk x → ∀ (w : World) (s : Value) (n : List UInt8) (ws : List Wd) (z : Int), x = .mk n ws z → Reads w (.row 33 3 ws.length (wdsD ws)) s →
  Calls Tryz.prog 117 #[.agg #[.string (bs n), s, .int .i64 (z : Int)]] w fun e w' => ∃ (p : Option Addr) (q : Nat) (bk : List Nat), e = .returned (.agg #[.string (bs n), .slice p ws.length q, .int .i64 (z : Int)]) ∧ Lies w' w.heap.size (.row 33 3 ws.length (wdsD ws)) (.slice p ws.length q) bk ∧ bk.Nodup ∧ Below w.heap.size w w'

theorem take_wdsD (l : List Wd) (k : Nat) (hk : k < l.length) : wdsD (l.take (k + 1)) = wdsD (l.take k) ++ wdD (l[k]) := by
  rw [List.take_succ_eq_append_getElem hk, wdsD_snoc]
set_option maxRecDepth 100000 in
set_option maxHeartbeats 2000000 in
theorem copy_words_of {l : List Wd} (hx : ∀ x ∈ l, CopyW x) (ho : ∀ x ∈ l, wdOk x) (hl : l.length ≤ 1000000) {w : World} {s : Value} (h : Reads w (.row 33 3 l.length (wdsD l)) s) :
    Calls Tryz.prog 105 #[s] w fun e w' => Made w w' 33 3 l.length (wdsD l) e := by
  obtain ⟨ti, hi, hz0, hz1, hz2⟩ := info_parts wInfo
  obtain ⟨a, c, rfl⟩ := Reads.slice h
  have H := Lib.hid h; clear h
  have HX := Lib.hid hx; have HO := Lib.hid ho; clear hx ho
  go_enter Tryz.func105, Tryz.ntmps105
  go_wp2_with fail
  go_loopg [3, 4] l.length (fun gk v i wr => ∃ (k : Nat) (bk : List Nat), k ≤ l.length ∧ gk = l.length - k ∧ i = .int .i64 (k : Int) ∧ Lies wr w.heap.size (.row 33 3 k (wdsD (l.take k))) v bk ∧ bk.Nodup ∧ Below w.heap.size w wr)
  case atStart => exact ⟨0, [], by omega, by omega, rfl, by simpa [wdsD] using Lies.nil _ _ _ _, List.nodup_nil, Below.refl _ _⟩
  case round =>
    obtain ⟨k, bk, hk, rfl, rfl, hL, hnd, hbw⟩ := hrel
    obtain ⟨va, vc, rfl⟩ := row_slice' hL
    have HL := Lib.hid hL; have HN := Lib.hid hnd; clear hL hnd
    by_cases hlt : k < l.length
    · have q1 := Reads.below hbw H.out
      obtain ⟨b1, o1, rfl, r1⟩ := Reads.elems q1 (by omega)
      have HT := Lib.hid (take_wdsD l k hlt)
      obtain ⟨n, ws, z, hx⟩ : ∃ n ws z, l[k] = .mk n ws z := ⟨_, _, _, (wd_eta l[k])⟩
      obtain ⟨e1, f1, d0, d1, d2, d3⟩ := word_cells r1 hlt hx
      have HE := Lib.hid (HX.out _ (List.getElem_mem hlt) (HO.out _ (List.getElem_mem hlt)))
      have HH := Lib.hid hx
      have HA := Lib.hid d3; clear d3
      generalize hy : l[k] = y at *
      subst hx
      clear hy
      clear r1 q1 H
      have j0 : (0 : Int) ≤ (k : Int) := by omega
      have j1 : (k : Int) < (l.length : Int) := by omega
      have hsw := hbw.size
      go_wp2_with (first | (at_builtin; go_loud (refine wpList_append_lies _ rfl _ _ _ rfl w.heap.size 33 ti _ 3 48 Tryz.underlying31 hi hz0 hz1 hz2 rfl (by omega) _ k xs rfl ((ho.alloc _).alloc _) ⟨w2.heap.size + 1, 0, none⟩ 1 1 [.string (bs n), .slice p1 ws.length q1, .int .i64 (z : Int)] (by first | rfl | simp) (by rfl) (World.news_of_block (alloc2 _ _ _)) (by simp [Value.oneCell']) (by omega) (by unfold maxLen; omega) (by omega) (by simp; omega) (w2.heap.size + 2) (by simp) ?_; intro g cap w3 hown3 hgrow hat hlt3)) | (go_at_call 117; go_loud (refine (HE.out _ _ _ _ _ HH.out HA.out).mono ?_; rintro e w2 ⟨p1, q1, k1, rfl, hD1, hn2, hb2⟩; have hL2 := HL.out.new hb2; obtain ⟨xs, bs', ho, hlx, hob, hil⟩ := hL2.own; have HLX := Lib.hid hlx; have HOB := Lib.hid hob; have HIL := Lib.hid hil; have HN2 := Lib.hid hn2; have hs2 := hb2.size; have HD1 := Lib.hid hD1; clear hD1; clear hL2 hlx hob hil hn2)))
      have hbel : Below w2.heap.size w2 ((w2.alloc (.cells #[.string (bs n), .slice p1 ws.length q1, .int .i64 (z : Int)] 33)).alloc (.cells #[.string (bs n), .slice p1 ws.length q1, .int .i64 (z : Int)] 33)) := ((Below.refl _ w2).alloc (Nat.le_refl _) _).alloc (by simp) _
      have hLD : LiesL w2 wr.heap.size (wdD (.mk n ws z)) [.string (bs n), .slice p1 ws.length q1, .int .i64 (z : Int)] (k1 ++ ([])) := LiesL.lit (LiesL.more HD1.out (LiesL.lit (LiesL.nil.2 ⟨rfl, rfl⟩)))
      have hdl := LiesL.lt hLD
      have hbl : ∀ b ∈ bk, b < wr.heap.size := fun b hb => (Lies.lt HL.out b hb).2
      have hn3 : (bk ++ (k1 ++ ([]))).Nodup := List.nodup_append.2 ⟨HN.out, by simpa using HN2.out, fun x hx y hy e => by have := hbl x hx; have := (hdl y hy).1; omega⟩
      obtain ⟨z1, z2, _⟩ := Lies.snoc (LiesL.new HLX.out hbel) HIL.out (LiesL.base (show w.heap.size ≤ wr.heap.size by omega) (LiesL.new hLD hbel)) rfl HOB.out hn3 hown3 hgrow (hat.imp id (fun h => by simp; omega))
      have hb4 : Below w.heap.size w ((w2.alloc (.cells #[.string (bs n), .slice p1 ws.length q1, .int .i64 (z : Int)] 33)).alloc (.cells #[.string (bs n), .slice p1 ws.length q1, .int .i64 (z : Int)] 33)) := (hbw.trans (hb2.mono hsw)).trans (hbel.mono (by omega))
      have hb5 : Below w.heap.size w w3 := hb4.grown hgrow (by simp; omega) (fun j hj => (ho.lt j hj).1)
      go_roundg (l.length - (k + 1))
      case measure => omega
      case rel => exact ⟨k + 1, _, by omega, rfl, by go_num, by rw [HT.out]; exact z1, z2, hb5⟩
    · obtain rfl : k = l.length := by omega
      go_wp2_with fail
      go_ret
      have hL := HL.out
      rw [List.take_length] at hL
      exact ⟨va, vc, bk, rfl, hL, HN.out, hbw⟩

mutual
theorem copy_w : ∀ x : Wd, CopyW x
  | .mk n ws z => fun ho w s n' ws' z' he hr => by
    have h1 : ws.length ≤ 1000000 ∧ wdsOk ws := by simpa only [wdOk] using ho
    cases he
    exact copy_word_of (fun w s h => copy_words_of (copy_ws ws) (wdsOk_mem h1.2) h1.1 h) hr
theorem copy_ws : ∀ l : List Wd, ∀ x ∈ l, CopyW x
  | [], x, h => by cases h
  | y :: ys, x, h => by
    rcases List.mem_cons.1 h with e | h
    · rw [e]; exact copy_w y
    · exact copy_ws ys x h
end
theorem copy_words {l : List Wd} (hl : l.length ≤ 1000000) (ho : wdsOk l) {w : World} {s : Value} (h : Reads w (.row 33 3 l.length (wdsD l)) s) :
    Calls Tryz.prog 105 #[s] w fun e w' => Made w w' 33 3 l.length (wdsD l) e := copy_words_of (copy_ws l) (wdsOk_mem ho) hl h

theorem res_copy_alt {w : World} {H : Nat} {v0 v1 v2 v3 v4 v5 : Value} {tmps : Array Value} (hH : w.heap[H]? = some (.cells #[v0, v1, v2, v3, v4, v5] 35 (0, 0)))
    (h2 : tmps[2]?.getD undef = .pointer (some ⟨H, 0, none⟩)) : (results Tryz.f91 tmps).run Tryz.prog w = .ok (.agg #[v0, v1, v2, v3, v4, v5]) w := by
  have a0 := cell_of_row w H 0 _ _ _ hH
  have a1 := cell_of_row w H 1 _ _ _ hH
  have a2 := cell_of_row w H 2 _ _ _ hH
  have a3 := cell_of_row w H 3 _ _ _ hH
  have a4 := cell_of_row w H 4 _ _ _ hH
  have a5 := cell_of_row w H 5 _ _ _ hH
  simp at a0 a1 a2 a3 a4 a5
  simp [results, Tryz.results91, go_sem, h2, a0, a1, a2, a3, a4, a5]

set_option maxRecDepth 100000 in
set_option maxHeartbeats 2000000 in
theorem copy_alt {x : Al} {w : World} {s : Value} (ho : AlOk x) (h : Reads w (.row 33 3 x.words.length (wdsD x.words)) s) :
    Calls Tryz.prog 91 #[.agg #[s, .string (bs x.prec), .bool x.has, .string (bs x.action), .int .i64 (x.whr : Int), .int .i64 (x.at_ : Int)]] w fun e w' => ∃ (p : Option Addr) (q : Nat) (bk : List Nat), e = .returned (.agg #[.slice p x.words.length q, .string (bs x.prec), .bool x.has, .string (bs x.action), .int .i64 (x.whr : Int), .int .i64 (x.at_ : Int)]) ∧ Lies w' w.heap.size (.row 33 3 x.words.length (wdsD x.words)) (.slice p x.words.length q) bk ∧ bk.Nodup ∧ Below w.heap.size w w' := by
  obtain ⟨a, c, rfl⟩ := Reads.slice h
  have hb0 := ((Below.refl _ w).alloc (Nat.le_refl _) (.cells #[.slice a x.words.length c, .string (bs x.prec), .bool x.has, .string (bs x.action), .int .i64 (x.whr : Int), .int .i64 (x.at_ : Int)] 35)).alloc (by simp) (.cells #[.slice none 0 0, .string { data := #[] }, .bool false, .string { data := #[] }, .int .i64 0, .int .i64 0] 35)
  have H1 := Lib.hid (Reads.below hb0 h); clear h
  have HC := Lib.hid (fun (w : World) (s : Value) => copy_words (w := w) (s := s) ho.n ho.words)
  have g1 := alloc1 w (.cells #[.slice a x.words.length c, .string (bs x.prec), .bool x.has, .string (bs x.action), .int .i64 (x.whr : Int), .int .i64 (x.at_ : Int)] 35) (.cells #[.slice none 0 0, .string { data := #[] }, .bool false, .string { data := #[] }, .int .i64 0, .int .i64 0] 35)
  have g2 := alloc2 w (.cells #[.slice a x.words.length c, .string (bs x.prec), .bool x.has, .string (bs x.action), .int .i64 (x.whr : Int), .int .i64 (x.at_ : Int)] 35) (.cells #[.slice none 0 0, .string { data := #[] }, .bool false, .string { data := #[] }, .int .i64 0, .int .i64 0] 35)
  have G1 := Lib.hid g1; have G2 := Lib.hid g2; clear g1 g2
  go_enter Tryz.func91, Tryz.ntmps91
  go_wp2_with (go_at_call 105; go_must (refine (HC.out _ _ H1.out).mono ?_); rintro e w1 ⟨p, q, bk, rfl, hL, hnd, hb1⟩; have HL := Lib.hid hL; clear hL; have y1 := (hb1.block w.heap.size (by simp <;> omega)).trans G1.out; have y2 := (hb1.block (w.heap.size + 1) (by simp <;> omega)).trans G2.out; have Y1 := Lib.hid y1; have Y2 := Lib.hid y2; obtain ⟨_, _⟩ := cells6 y1; obtain ⟨_, _⟩ := cells6 y2; clear y1 y2)
  have y2 := Y2.out
  have hs := size2 w (.cells #[.slice a x.words.length c, .string (bs x.prec), .bool x.has, .string (bs x.action), .int .i64 (x.whr : Int), .int .i64 (x.at_ : Int)] 35) (.cells #[.slice none 0 0, .string { data := #[] }, .bool false, .string { data := #[] }, .int .i64 0, .int .i64 0] 35)
  have hbz := (hb0.trans (hb1.mono (by rw [hs]; omega))).setCell (p := ⟨w.heap.size, 0, none⟩) (Nat.le_refl _) (.slice p x.words.length q)
  have key := heap_setCell_same _ (w.heap.size + 1) 5 _ _ (.int .i64 (x.at_ : Int)) (heap_setCell_same _ (w.heap.size + 1) 4 _ _ (.int .i64 (x.whr : Int)) (heap_setCell_same _ (w.heap.size + 1) 3 _ _ (.string (bs x.action)) (heap_setCell_same _ (w.heap.size + 1) 2 _ _ (.bool x.has) (heap_setCell_same _ (w.heap.size + 1) 1 _ _ (.string (bs x.prec)) (heap_setCell_same _ (w.heap.size + 1) 0 _ _ (.slice p x.words.length q) ((Below.heap_setCell w1 ⟨w.heap.size, 0, none⟩ (.slice p x.words.length q) (w.heap.size + 1) (by simp)).trans y2))))))
  have hlt := Lies.lt HL.out
  have h1 : ∀ b ∈ bk, some b ≠ some w.heap.size := fun b hb e => by have := (hlt b hb).1; rw [hs] at this; have : b = w.heap.size := Option.some.inj e; omega
  have h2 : ∀ b ∈ bk, some b ≠ some (w.heap.size + 1) := fun b hb e => by have := (hlt b hb).1; rw [hs] at this; have : b = w.heap.size + 1 := Option.some.inj e; omega
  have hL0 := Lies.kept (Heap.grown_set w1 ⟨w.heap.size, 0, none⟩ (.slice p x.words.length q)) HL.out h1
  have hL1 := Lies.kept (Heap.grown_set _ ⟨w.heap.size + 1, 0, none⟩ (.slice p x.words.length q)) hL0 h2
  have hL2 := Lies.kept (Heap.grown_set _ ⟨w.heap.size + 1, 1, none⟩ (.string (bs x.prec))) hL1 h2
  have hL3 := Lies.kept (Heap.grown_set _ ⟨w.heap.size + 1, 2, none⟩ (.bool x.has)) hL2 h2
  have hL4 := Lies.kept (Heap.grown_set _ ⟨w.heap.size + 1, 3, none⟩ (.string (bs x.action))) hL3 h2
  have hL5 := Lies.kept (Heap.grown_set _ ⟨w.heap.size + 1, 4, none⟩ (.int .i64 (x.whr : Int))) hL4 h2
  have hL6 := Lies.kept (Heap.grown_set _ ⟨w.heap.size + 1, 5, none⟩ (.int .i64 (x.at_ : Int))) hL5 h2
  refine bodyPost_ret (res_copy_alt key rfl) rfl ?_
  exact ⟨p, q, bk, rfl, Lies.base (by rw [hs]; omega) hL6, hnd, ((((((hbz.setCell (p := ⟨w.heap.size + 1, 0, none⟩) (by simp) (.slice p x.words.length q)).setCell (p := ⟨w.heap.size + 1, 1, none⟩) (by simp) (.string (bs x.prec))).setCell (p := ⟨w.heap.size + 1, 2, none⟩) (by simp) (.bool x.has)).setCell (p := ⟨w.heap.size + 1, 3, none⟩) (by simp) (.string (bs x.action))).setCell (p := ⟨w.heap.size + 1, 4, none⟩) (by simp) (.int .i64 (x.whr : Int))).setCell (p := ⟨w.heap.size + 1, 5, none⟩) (by simp) (.int .i64 (x.at_ : Int)))⟩

theorem res_copy_decl {w : World} {H : Nat} {v0 v1 v2 v3 : Value} {tmps : Array Value} (hH : w.heap[H]? = some (.cells #[v0, v1, v2, v3] 62 (0, 0)))
    (h2 : tmps[2]?.getD undef = .pointer (some ⟨H, 0, none⟩)) : (results Tryz.f64 tmps).run Tryz.prog w = .ok (.agg #[v0, v1, v2, v3]) w := by
  have a0 := cell_of_row w H 0 _ _ _ hH
  have a1 := cell_of_row w H 1 _ _ _ hH
  have a2 := cell_of_row w H 2 _ _ _ hH
  have a3 := cell_of_row w H 3 _ _ _ hH
  simp at a0 a1 a2 a3
  simp [results, Tryz.results64, go_sem, h2, a0, a1, a2, a3]

set_option maxRecDepth 100000 in
set_option maxHeartbeats 2000000 in
theorem copy_decl {x : De} {w : World} {s : Value} (ho : DeOk x) (h : Reads w (.row 9 1 x.names.length (nmsD x.names)) s) :
    Calls Tryz.prog 64 #[.agg #[.string (bs x.kind), .string (bs x.type), s, .int .i64 (x.at_ : Int)]] w fun e w' => ∃ (p : Option Addr) (q : Nat) (bk : List Nat), e = .returned (.agg #[.string (bs x.kind), .string (bs x.type), .slice p x.names.length q, .int .i64 (x.at_ : Int)]) ∧ Lies w' w.heap.size (.row 9 1 x.names.length (nmsD x.names)) (.slice p x.names.length q) bk ∧ bk.Nodup ∧ Below w.heap.size w w' := by
  obtain ⟨a, c, rfl⟩ := Reads.slice h
  have hb0 := ((Below.refl _ w).alloc (Nat.le_refl _) (.cells #[.string (bs x.kind), .string (bs x.type), .slice a x.names.length c, .int .i64 (x.at_ : Int)] 62)).alloc (by simp) (.cells #[.string { data := #[] }, .string { data := #[] }, .slice none 0 0, .int .i64 0] 62)
  have H1 := Lib.hid (Reads.below hb0 h); clear h
  have HC := Lib.hid (fun (w : World) (s : Value) => copy_texts (w := w) (s := s) ho)
  have g1 := alloc1 w (.cells #[.string (bs x.kind), .string (bs x.type), .slice a x.names.length c, .int .i64 (x.at_ : Int)] 62) (.cells #[.string { data := #[] }, .string { data := #[] }, .slice none 0 0, .int .i64 0] 62)
  have g2 := alloc2 w (.cells #[.string (bs x.kind), .string (bs x.type), .slice a x.names.length c, .int .i64 (x.at_ : Int)] 62) (.cells #[.string { data := #[] }, .string { data := #[] }, .slice none 0 0, .int .i64 0] 62)
  have G1 := Lib.hid g1; have G2 := Lib.hid g2; clear g1 g2
  go_enter Tryz.func64, Tryz.ntmps64
  go_wp2_with (go_at_call 79; go_must (refine (HC.out _ _ H1.out).mono ?_); rintro e w1 ⟨p, q, bk, rfl, hL, hnd, hb1⟩; have HL := Lib.hid hL; clear hL; have y1 := (hb1.block w.heap.size (by simp <;> omega)).trans G1.out; have y2 := (hb1.block (w.heap.size + 1) (by simp <;> omega)).trans G2.out; have Y1 := Lib.hid y1; have Y2 := Lib.hid y2; obtain ⟨_, _⟩ := cells4 y1; obtain ⟨_, _⟩ := cells4 y2; clear y1 y2)
  have y2 := Y2.out
  have hs := size2 w (.cells #[.string (bs x.kind), .string (bs x.type), .slice a x.names.length c, .int .i64 (x.at_ : Int)] 62) (.cells #[.string { data := #[] }, .string { data := #[] }, .slice none 0 0, .int .i64 0] 62)
  have hbz := (hb0.trans (hb1.mono (by rw [hs]; omega))).setCell (p := ⟨w.heap.size, 2, none⟩) (Nat.le_refl _) (.slice p x.names.length q)
  have key := heap_setCell_same _ (w.heap.size + 1) 3 _ _ (.int .i64 (x.at_ : Int)) (heap_setCell_same _ (w.heap.size + 1) 2 _ _ (.slice p x.names.length q) (heap_setCell_same _ (w.heap.size + 1) 1 _ _ (.string (bs x.type)) (heap_setCell_same _ (w.heap.size + 1) 0 _ _ (.string (bs x.kind)) ((Below.heap_setCell w1 ⟨w.heap.size, 2, none⟩ (.slice p x.names.length q) (w.heap.size + 1) (by simp)).trans y2))))
  have hlt := Lies.lt HL.out
  have h1 : ∀ b ∈ bk, some b ≠ some w.heap.size := fun b hb e => by have := (hlt b hb).1; rw [hs] at this; have : b = w.heap.size := Option.some.inj e; omega
  have h2 : ∀ b ∈ bk, some b ≠ some (w.heap.size + 1) := fun b hb e => by have := (hlt b hb).1; rw [hs] at this; have : b = w.heap.size + 1 := Option.some.inj e; omega
  have hL0 := Lies.kept (Heap.grown_set w1 ⟨w.heap.size, 2, none⟩ (.slice p x.names.length q)) HL.out h1
  have hL1 := Lies.kept (Heap.grown_set _ ⟨w.heap.size + 1, 0, none⟩ (.string (bs x.kind))) hL0 h2
  have hL2 := Lies.kept (Heap.grown_set _ ⟨w.heap.size + 1, 1, none⟩ (.string (bs x.type))) hL1 h2
  have hL3 := Lies.kept (Heap.grown_set _ ⟨w.heap.size + 1, 2, none⟩ (.slice p x.names.length q)) hL2 h2
  have hL4 := Lies.kept (Heap.grown_set _ ⟨w.heap.size + 1, 3, none⟩ (.int .i64 (x.at_ : Int))) hL3 h2
  refine bodyPost_ret (res_copy_decl key rfl) rfl ?_
  exact ⟨p, q, bk, rfl, Lies.base (by rw [hs]; omega) hL4, hnd, ((((hbz.setCell (p := ⟨w.heap.size + 1, 0, none⟩) (by simp) (.string (bs x.kind))).setCell (p := ⟨w.heap.size + 1, 1, none⟩) (by simp) (.string (bs x.type))).setCell (p := ⟨w.heap.size + 1, 2, none⟩) (by simp) (.slice p x.names.length q)).setCell (p := ⟨w.heap.size + 1, 3, none⟩) (by simp) (.int .i64 (x.at_ : Int)))⟩

theorem take_alsD (l : List Al) (k : Nat) (hk : k < l.length) : alsD (l.take (k + 1)) = alsD (l.take k) ++ alD (l[k]) := by
  rw [List.take_succ_eq_append_getElem hk, alsD_snoc]
set_option maxRecDepth 100000 in
set_option maxHeartbeats 2000000 in
theorem copy_alts {l : List Al} (ho : ∀ x ∈ l, AlOk x) (hl : l.length ≤ 1000000) {w : World} {s : Value} (h : Reads w (.row 35 6 l.length (alsD l)) s) :
    Calls Tryz.prog 80 #[s] w fun e w' => Made w w' 35 6 l.length (alsD l) e := by
  obtain ⟨ti, hi, hz0, hz1, hz2⟩ := info_parts aInfo
  obtain ⟨a, c, rfl⟩ := Reads.slice h
  have H := Lib.hid h; clear h
  have HO := Lib.hid ho; clear ho
  go_enter Tryz.func80, Tryz.ntmps80
  go_wp2_with fail
  go_loopg [3, 4] l.length (fun gk v i wr => ∃ (k : Nat) (bk : List Nat), k ≤ l.length ∧ gk = l.length - k ∧ i = .int .i64 (k : Int) ∧ Lies wr w.heap.size (.row 35 6 k (alsD (l.take k))) v bk ∧ bk.Nodup ∧ Below w.heap.size w wr)
  case atStart => exact ⟨0, [], by omega, by omega, rfl, by simpa [alsD] using Lies.nil _ _ _ _, List.nodup_nil, Below.refl _ _⟩
  case round =>
    obtain ⟨k, bk, hk, rfl, rfl, hL, hnd, hbw⟩ := hrel
    obtain ⟨va, vc, rfl⟩ := row_slice' hL
    have HL := Lib.hid hL; have HN := Lib.hid hnd; clear hL hnd
    by_cases hlt : k < l.length
    · have q1 := Reads.below hbw H.out
      obtain ⟨b1, o1, rfl, r1⟩ := Reads.elems q1 (by omega)
      have HT := Lib.hid (take_alsD l k hlt)
      obtain ⟨e0, f0, d0, d1, d2, d3, d4, d5, m0⟩ := alt_cells r1 hlt
      have HO1 := Lib.hid (HO.out _ (List.getElem_mem hlt))
      generalize l[k] = y at *
      have M0 := Lib.hid m0; clear m0

      clear r1 q1 H
      have j0 : (0 : Int) ≤ (k : Int) := by omega
      have j1 : (k : Int) < (l.length : Int) := by omega
      have hsw := hbw.size
      go_wp2_with (first | (at_builtin; go_loud (refine wpList_append_lies _ rfl _ _ _ rfl w.heap.size 35 ti _ 6 80 Tryz.underlying36 hi hz0 hz1 hz2 rfl (by omega) _ k xs rfl ((ho.alloc _).alloc _) ⟨w2.heap.size + 1, 0, none⟩ 1 1 [.slice p0 y.words.length q0, .string (bs y.prec), .bool y.has, .string (bs y.action), .int .i64 (y.whr : Int), .int .i64 (y.at_ : Int)] (by first | rfl | simp) (by rfl) (World.news_of_block (alloc2 _ _ _)) (by simp [Value.oneCell']) (by omega) (by unfold maxLen; omega) (by omega) (by simp; omega) (w2.heap.size + 2) (by simp) ?_; intro g cap w3 hown3 hgrow hat hlt3)) | (go_at_call 91; go_loud (refine (copy_alt (x := y) HO1.out M0.out).mono ?_; rintro e w2 ⟨p0, q0, k0, rfl, hD0, hn2, hb2⟩; have hL2 := HL.out.new hb2; obtain ⟨xs, bs', ho, hlx, hob, hil⟩ := hL2.own; have HLX := Lib.hid hlx; have HOB := Lib.hid hob; have HIL := Lib.hid hil; have HN2 := Lib.hid hn2; have hs2 := hb2.size; have HD0 := Lib.hid hD0; clear hD0; clear hL2 hlx hob hil hn2)))
      have hbel : Below w2.heap.size w2 ((w2.alloc (.cells #[.slice p0 y.words.length q0, .string (bs y.prec), .bool y.has, .string (bs y.action), .int .i64 (y.whr : Int), .int .i64 (y.at_ : Int)] 35)).alloc (.cells #[.slice p0 y.words.length q0, .string (bs y.prec), .bool y.has, .string (bs y.action), .int .i64 (y.whr : Int), .int .i64 (y.at_ : Int)] 35)) := ((Below.refl _ w2).alloc (Nat.le_refl _) _).alloc (by simp) _
      have hLD : LiesL w2 wr.heap.size (alD y) [.slice p0 y.words.length q0, .string (bs y.prec), .bool y.has, .string (bs y.action), .int .i64 (y.whr : Int), .int .i64 (y.at_ : Int)] (k0 ++ ([])) := LiesL.more HD0.out (LiesL.lit (LiesL.lit (LiesL.lit (LiesL.lit (LiesL.lit (LiesL.nil.2 ⟨rfl, rfl⟩))))))
      have hdl := LiesL.lt hLD
      have hbl : ∀ b ∈ bk, b < wr.heap.size := fun b hb => (Lies.lt HL.out b hb).2
      have hn3 : (bk ++ (k0 ++ ([]))).Nodup := List.nodup_append.2 ⟨HN.out, by simpa using HN2.out, fun x hx y hy e => by have := hbl x hx; have := (hdl y hy).1; omega⟩
      obtain ⟨z1, z2, _⟩ := Lies.snoc (LiesL.new HLX.out hbel) HIL.out (LiesL.base (show w.heap.size ≤ wr.heap.size by omega) (LiesL.new hLD hbel)) rfl HOB.out hn3 hown3 hgrow (hat.imp id (fun h => by simp; omega))
      have hb4 : Below w.heap.size w ((w2.alloc (.cells #[.slice p0 y.words.length q0, .string (bs y.prec), .bool y.has, .string (bs y.action), .int .i64 (y.whr : Int), .int .i64 (y.at_ : Int)] 35)).alloc (.cells #[.slice p0 y.words.length q0, .string (bs y.prec), .bool y.has, .string (bs y.action), .int .i64 (y.whr : Int), .int .i64 (y.at_ : Int)] 35)) := (hbw.trans (hb2.mono hsw)).trans (hbel.mono (by omega))
      have hb5 : Below w.heap.size w w3 := hb4.grown hgrow (by simp; omega) (fun j hj => (ho.lt j hj).1)
      go_roundg (l.length - (k + 1))
      case measure => omega
      case rel => exact ⟨k + 1, _, by omega, rfl, by go_num, by rw [HT.out]; exact z1, z2, hb5⟩
    · obtain rfl : k = l.length := by omega
      go_wp2_with fail
      go_ret
      have hL := HL.out
      rw [List.take_length] at hL
      exact ⟨va, vc, bk, rfl, hL, HN.out, hbw⟩

theorem take_desD (l : List De) (k : Nat) (hk : k < l.length) : desD (l.take (k + 1)) = desD (l.take k) ++ deD (l[k]) := by
  rw [List.take_succ_eq_append_getElem hk, desD_snoc]
set_option maxRecDepth 100000 in
set_option maxHeartbeats 2000000 in
theorem copy_decls {l : List De} (ho : ∀ x ∈ l, DeOk x) (hl : l.length ≤ 1000000) {w : World} {s : Value} (h : Reads w (.row 62 4 l.length (desD l)) s) :
    Calls Tryz.prog 40 #[s] w fun e w' => Made w w' 62 4 l.length (desD l) e := by
  obtain ⟨ti, hi, hz0, hz1, hz2⟩ := info_parts dInfo
  obtain ⟨a, c, rfl⟩ := Reads.slice h
  have H := Lib.hid h; clear h
  have HO := Lib.hid ho; clear ho
  go_enter Tryz.func40, Tryz.ntmps40
  go_wp2_with fail
  go_loopg [3, 4] l.length (fun gk v i wr => ∃ (k : Nat) (bk : List Nat), k ≤ l.length ∧ gk = l.length - k ∧ i = .int .i64 (k : Int) ∧ Lies wr w.heap.size (.row 62 4 k (desD (l.take k))) v bk ∧ bk.Nodup ∧ Below w.heap.size w wr)
  case atStart => exact ⟨0, [], by omega, by omega, rfl, by simpa [desD] using Lies.nil _ _ _ _, List.nodup_nil, Below.refl _ _⟩
  case round =>
    obtain ⟨k, bk, hk, rfl, rfl, hL, hnd, hbw⟩ := hrel
    obtain ⟨va, vc, rfl⟩ := row_slice' hL
    have HL := Lib.hid hL; have HN := Lib.hid hnd; clear hL hnd
    by_cases hlt : k < l.length
    · have q1 := Reads.below hbw H.out
      obtain ⟨b1, o1, rfl, r1⟩ := Reads.elems q1 (by omega)
      have HT := Lib.hid (take_desD l k hlt)
      obtain ⟨e2, f2, d0, d1, d2, d3, m2⟩ := decl_cells r1 hlt
      have HO1 := Lib.hid (HO.out _ (List.getElem_mem hlt))
      generalize l[k] = y at *
      have M2 := Lib.hid m2; clear m2

      clear r1 q1 H
      have j0 : (0 : Int) ≤ (k : Int) := by omega
      have j1 : (k : Int) < (l.length : Int) := by omega
      have hsw := hbw.size
      go_wp2_with (first | (at_builtin; go_loud (refine wpList_append_lies _ rfl _ _ _ rfl w.heap.size 62 ti _ 4 64 Tryz.underlying25 hi hz0 hz1 hz2 rfl (by omega) _ k xs rfl ((ho.alloc _).alloc _) ⟨w2.heap.size + 1, 0, none⟩ 1 1 [.string (bs y.kind), .string (bs y.type), .slice p2 y.names.length q2, .int .i64 (y.at_ : Int)] (by first | rfl | simp) (by rfl) (World.news_of_block (alloc2 _ _ _)) (by simp [Value.oneCell']) (by omega) (by unfold maxLen; omega) (by omega) (by simp; omega) (w2.heap.size + 2) (by simp) ?_; intro g cap w3 hown3 hgrow hat hlt3)) | (go_at_call 64; go_loud (refine (copy_decl (x := y) HO1.out M2.out).mono ?_; rintro e w2 ⟨p2, q2, k2, rfl, hD2, hn2, hb2⟩; have hL2 := HL.out.new hb2; obtain ⟨xs, bs', ho, hlx, hob, hil⟩ := hL2.own; have HLX := Lib.hid hlx; have HOB := Lib.hid hob; have HIL := Lib.hid hil; have HN2 := Lib.hid hn2; have hs2 := hb2.size; have HD2 := Lib.hid hD2; clear hD2; clear hL2 hlx hob hil hn2)))
      have hbel : Below w2.heap.size w2 ((w2.alloc (.cells #[.string (bs y.kind), .string (bs y.type), .slice p2 y.names.length q2, .int .i64 (y.at_ : Int)] 62)).alloc (.cells #[.string (bs y.kind), .string (bs y.type), .slice p2 y.names.length q2, .int .i64 (y.at_ : Int)] 62)) := ((Below.refl _ w2).alloc (Nat.le_refl _) _).alloc (by simp) _
      have hLD : LiesL w2 wr.heap.size (deD y) [.string (bs y.kind), .string (bs y.type), .slice p2 y.names.length q2, .int .i64 (y.at_ : Int)] (k2 ++ ([])) := LiesL.lit (LiesL.lit (LiesL.more HD2.out (LiesL.lit (LiesL.nil.2 ⟨rfl, rfl⟩))))
      have hdl := LiesL.lt hLD
      have hbl : ∀ b ∈ bk, b < wr.heap.size := fun b hb => (Lies.lt HL.out b hb).2
      have hn3 : (bk ++ (k2 ++ ([]))).Nodup := List.nodup_append.2 ⟨HN.out, by simpa using HN2.out, fun x hx y hy e => by have := hbl x hx; have := (hdl y hy).1; omega⟩
      obtain ⟨z1, z2, _⟩ := Lies.snoc (LiesL.new HLX.out hbel) HIL.out (LiesL.base (show w.heap.size ≤ wr.heap.size by omega) (LiesL.new hLD hbel)) rfl HOB.out hn3 hown3 hgrow (hat.imp id (fun h => by simp; omega))
      have hb4 : Below w.heap.size w ((w2.alloc (.cells #[.string (bs y.kind), .string (bs y.type), .slice p2 y.names.length q2, .int .i64 (y.at_ : Int)] 62)).alloc (.cells #[.string (bs y.kind), .string (bs y.type), .slice p2 y.names.length q2, .int .i64 (y.at_ : Int)] 62)) := (hbw.trans (hb2.mono hsw)).trans (hbel.mono (by omega))
      have hb5 : Below w.heap.size w w3 := hb4.grown hgrow (by simp; omega) (fun j hj => (ho.lt j hj).1)
      go_roundg (l.length - (k + 1))
      case measure => omega
      case rel => exact ⟨k + 1, _, by omega, rfl, by go_num, by rw [HT.out]; exact z1, z2, hb5⟩
    · obtain rfl : k = l.length := by omega
      go_wp2_with fail
      go_ret
      have hL := HL.out
      rw [List.take_length] at hL
      exact ⟨va, vc, bk, rfl, hL, HN.out, hbw⟩

theorem res_copy_rule {w : World} {H : Nat} {v0 v1 v2 v3 : Value} {tmps : Array Value} (hH : w.heap[H]? = some (.cells #[v0, v1, v2, v3] 38 (0, 0)))
    (h2 : tmps[2]?.getD undef = .pointer (some ⟨H, 0, none⟩)) : (results Tryz.f65 tmps).run Tryz.prog w = .ok (.agg #[v0, v1, v2, v3]) w := by
  have a0 := cell_of_row w H 0 _ _ _ hH
  have a1 := cell_of_row w H 1 _ _ _ hH
  have a2 := cell_of_row w H 2 _ _ _ hH
  have a3 := cell_of_row w H 3 _ _ _ hH
  simp at a0 a1 a2 a3
  simp [results, Tryz.results65, go_sem, h2, a0, a1, a2, a3]

set_option maxRecDepth 100000 in
set_option maxHeartbeats 4000000 in
theorem copy_rule {x : Ru} {w : World} {s1 s2 : Value} (ho : RuOk x) (h1 : Reads w (.row 9 1 x.params.length (nmsD x.params)) s1) (h2 : Reads w (.row 35 6 x.alts.length (alsD x.alts)) s2) :
    Calls Tryz.prog 65 #[.agg #[.string (bs x.name), s1, s2, .int .i64 (x.at_ : Int)]] w fun e w' => ∃ (p1 : Option Addr) (q1 : Nat) (k1 : List Nat) (p2 : Option Addr) (q2 : Nat) (k2 : List Nat), e = .returned (.agg #[.string (bs x.name), .slice p1 x.params.length q1, .slice p2 x.alts.length q2, .int .i64 (x.at_ : Int)]) ∧ Lies w' w.heap.size (.row 9 1 x.params.length (nmsD x.params)) (.slice p1 x.params.length q1) k1 ∧ Lies w' w.heap.size (.row 35 6 x.alts.length (alsD x.alts)) (.slice p2 x.alts.length q2) k2 ∧ (k1 ++ k2).Nodup ∧ Below w.heap.size w w' := by
  obtain ⟨a1, c1, rfl⟩ := Reads.slice h1
  obtain ⟨a2, c2, rfl⟩ := Reads.slice h2
  have hb0 := ((Below.refl _ w).alloc (Nat.le_refl _) (.cells #[.string (bs x.name), .slice a1 x.params.length c1, .slice a2 x.alts.length c2, .int .i64 (x.at_ : Int)] 38)).alloc (by simp) (.cells #[.string { data := #[] }, .slice none 0 0, .slice none 0 0, .int .i64 0] 38)
  have H1 := Lib.hid (Reads.below hb0 h1); clear h1
  have H2 := Lib.hid h2; clear h2
  have HC1 := Lib.hid (fun (w : World) (s : Value) => copy_texts (w := w) (s := s) ho.n)
  have HC2 := Lib.hid (fun (w : World) (s : Value) => copy_alts (w := w) (s := s) ho.alts ho.m)
  have g1 := alloc1 w (.cells #[.string (bs x.name), .slice a1 x.params.length c1, .slice a2 x.alts.length c2, .int .i64 (x.at_ : Int)] 38) (.cells #[.string { data := #[] }, .slice none 0 0, .slice none 0 0, .int .i64 0] 38)
  have g2 := alloc2 w (.cells #[.string (bs x.name), .slice a1 x.params.length c1, .slice a2 x.alts.length c2, .int .i64 (x.at_ : Int)] 38) (.cells #[.string { data := #[] }, .slice none 0 0, .slice none 0 0, .int .i64 0] 38)
  have G1 := Lib.hid g1; have G2 := Lib.hid g2; clear g1 g2
  have hs := size2 w (.cells #[.string (bs x.name), .slice a1 x.params.length c1, .slice a2 x.alts.length c2, .int .i64 (x.at_ : Int)] 38) (.cells #[.string { data := #[] }, .slice none 0 0, .slice none 0 0, .int .i64 0] 38)
  have HS := Lib.hid hs; clear hs
  go_enter Tryz.func65, Tryz.ntmps65
  go_wp2_with (first | (go_at_call 80; go_loud (refine (HC2.out _ _ (Reads.below hbz1 H2.out)).mono ?_; rintro e w2 ⟨p2, q2, k2, rfl, hL, hnd, hb2⟩; have HM := Lib.hid hL; have HK := Lib.hid hnd; clear hL hnd; have z1 := (hb2.block w.heap.size (by simp; omega)).trans X1.out; have z2 := (hb2.block (w.heap.size + 1) (by simp; omega)).trans X2.out; have Z2 := Lib.hid z2; obtain ⟨_, _⟩ := cells4 z1; obtain ⟨_, _⟩ := cells4 z2; clear z1 z2)) | (go_at_call 79; go_loud (refine (HC1.out _ _ H1.out).mono ?_; rintro e w1 ⟨p1, q1, k1, rfl, hL, hnd, hb1⟩; have HL := Lib.hid hL; have HN := Lib.hid hnd; clear hL hnd; have hz1 := hb1.size; rw [HS.out] at hz1; have y1 := (hb1.block w.heap.size (by rw [HS.out]; omega)).trans G1.out; have y2 := (hb1.block (w.heap.size + 1) (by rw [HS.out]; omega)).trans G2.out; have X1 := Lib.hid (heap_setCell_same w1 w.heap.size 1 _ _ (.slice p1 x.params.length q1) y1); have X2 := Lib.hid ((Below.heap_setCell w1 ⟨w.heap.size, 1, none⟩ (.slice p1 x.params.length q1) (w.heap.size + 1) (by simp)).trans y2); have hbz1 := (hb0.trans (hb1.mono (by rw [HS.out]; omega))).setCell (p := ⟨w.heap.size, 1, none⟩) (Nat.le_refl _) (.slice p1 x.params.length q1); obtain ⟨_, _⟩ := cells4 y1; clear y1 y2)))
  have z2 := Z2.out
  have key := heap_setCell_same _ (w.heap.size + 1) 3 _ _ (.int .i64 (x.at_ : Int)) (heap_setCell_same _ (w.heap.size + 1) 2 _ _ (.slice p2 x.alts.length q2) (heap_setCell_same _ (w.heap.size + 1) 1 _ _ (.slice p1 x.params.length q1) (heap_setCell_same _ (w.heap.size + 1) 0 _ _ (.string (bs x.name)) ((Below.heap_setCell w2 ⟨w.heap.size, 2, none⟩ (.slice p2 x.alts.length q2) (w.heap.size + 1) (by simp)).trans z2))))
  have hlt1 := Lies.lt HL.out
  rw [HS.out] at hlt1
  have hk1 : ∀ b ∈ k1, some b ≠ some w.heap.size := fun b hb e => by have := (hlt1 b hb).1; have : b = w.heap.size := Option.some.inj e; omega
  have hk2 : ∀ b ∈ k1, some b ≠ some (w.heap.size + 1) := fun b hb e => by have := (hlt1 b hb).1; have : b = w.heap.size + 1 := Option.some.inj e; omega
  have hlt2 := Lies.lt HM.out
  have hw1s : (w1.setCell ⟨w.heap.size, 1, none⟩ (.slice p1 x.params.length q1)).heap.size = w1.heap.size := by simp
  rw [hw1s] at hlt2
  have hm1 : ∀ b ∈ k2, some b ≠ some w.heap.size := fun b hb e => by have := (hlt2 b hb).1; have : b = w.heap.size := Option.some.inj e; omega
  have hm2 : ∀ b ∈ k2, some b ≠ some (w.heap.size + 1) := fun b hb e => by have := (hlt2 b hb).1; have : b = w.heap.size + 1 := Option.some.inj e; omega
  have hLx := (Lies.kept (Heap.grown_set w1 ⟨w.heap.size, 1, none⟩ (.slice p1 x.params.length q1)) HL.out hk1).new hb2
  have hL0 := Lies.kept (Heap.grown_set w2 ⟨w.heap.size, 2, none⟩ (.slice p2 x.alts.length q2)) hLx hk1
  have hM0 := Lies.kept (Heap.grown_set w2 ⟨w.heap.size, 2, none⟩ (.slice p2 x.alts.length q2)) HM.out hm1
  have hL1 := Lies.kept (Heap.grown_set _ ⟨w.heap.size + 1, 0, none⟩ (.string (bs x.name))) hL0 hk2
  have hL2 := Lies.kept (Heap.grown_set _ ⟨w.heap.size + 1, 1, none⟩ (.slice p1 x.params.length q1)) hL1 hk2
  have hL3 := Lies.kept (Heap.grown_set _ ⟨w.heap.size + 1, 2, none⟩ (.slice p2 x.alts.length q2)) hL2 hk2
  have hL4 := Lies.kept (Heap.grown_set _ ⟨w.heap.size + 1, 3, none⟩ (.int .i64 (x.at_ : Int))) hL3 hk2
  have hM1 := Lies.kept (Heap.grown_set _ ⟨w.heap.size + 1, 0, none⟩ (.string (bs x.name))) hM0 hm2
  have hM2 := Lies.kept (Heap.grown_set _ ⟨w.heap.size + 1, 1, none⟩ (.slice p1 x.params.length q1)) hM1 hm2
  have hM3 := Lies.kept (Heap.grown_set _ ⟨w.heap.size + 1, 2, none⟩ (.slice p2 x.alts.length q2)) hM2 hm2
  have hM4 := Lies.kept (Heap.grown_set _ ⟨w.heap.size + 1, 3, none⟩ (.int .i64 (x.at_ : Int))) hM3 hm2
  have hbz := (hbz1.trans (hb2.mono (by rw [hw1s]; omega))).setCell (p := ⟨w.heap.size, 2, none⟩) (Nat.le_refl _) (.slice p2 x.alts.length q2)
  refine bodyPost_ret (res_copy_rule key rfl) rfl ?_
  exact ⟨p1, q1, k1, p2, q2, k2, rfl, Lies.base (by rw [HS.out]; omega) hL4, Lies.base (by rw [hw1s]; omega) hM4, List.nodup_append.2 ⟨HN.out, HK.out, fun x hx y hy e => by have := (hlt1 x hx).2; have := (hlt2 y hy).1; omega⟩, ((((hbz.setCell (p := ⟨w.heap.size + 1, 0, none⟩) (by simp) (.string (bs x.name))).setCell (p := ⟨w.heap.size + 1, 1, none⟩) (by simp) (.slice p1 x.params.length q1)).setCell (p := ⟨w.heap.size + 1, 2, none⟩) (by simp) (.slice p2 x.alts.length q2)).setCell (p := ⟨w.heap.size + 1, 3, none⟩) (by simp) (.int .i64 (x.at_ : Int)))⟩

theorem take_rusD (l : List Ru) (k : Nat) (hk : k < l.length) : rusD (l.take (k + 1)) = rusD (l.take k) ++ ruD (l[k]) := by
  rw [List.take_succ_eq_append_getElem hk, rusD_snoc]
set_option maxRecDepth 100000 in
set_option maxHeartbeats 2000000 in
theorem copy_rules {l : List Ru} (ho : ∀ x ∈ l, RuOk x) (hl : l.length ≤ 1000000) {w : World} {s : Value} (h : Reads w (.row 38 4 l.length (rusD l)) s) :
    Calls Tryz.prog 41 #[s] w fun e w' => Made w w' 38 4 l.length (rusD l) e := by
  obtain ⟨ti, hi, hz0, hz1, hz2⟩ := info_parts rInfo
  obtain ⟨a, c, rfl⟩ := Reads.slice h
  have H := Lib.hid h; clear h
  have HO := Lib.hid ho; clear ho
  go_enter Tryz.func41, Tryz.ntmps41
  go_wp2_with fail
  go_loopg [3, 4] l.length (fun gk v i wr => ∃ (k : Nat) (bk : List Nat), k ≤ l.length ∧ gk = l.length - k ∧ i = .int .i64 (k : Int) ∧ Lies wr w.heap.size (.row 38 4 k (rusD (l.take k))) v bk ∧ bk.Nodup ∧ Below w.heap.size w wr)
  case atStart => exact ⟨0, [], by omega, by omega, rfl, by simpa [rusD] using Lies.nil _ _ _ _, List.nodup_nil, Below.refl _ _⟩
  case round =>
    obtain ⟨k, bk, hk, rfl, rfl, hL, hnd, hbw⟩ := hrel
    obtain ⟨va, vc, rfl⟩ := row_slice' hL
    have HL := Lib.hid hL; have HN := Lib.hid hnd; clear hL hnd
    by_cases hlt : k < l.length
    · have q1 := Reads.below hbw H.out
      obtain ⟨b1, o1, rfl, r1⟩ := Reads.elems q1 (by omega)
      have HT := Lib.hid (take_rusD l k hlt)
      obtain ⟨e1, f1, e2, f2, d0, d1, d2, d3, m1, m2⟩ := rule_cells r1 hlt
      have HO1 := Lib.hid (HO.out _ (List.getElem_mem hlt))
      generalize l[k] = y at *
      have M1 := Lib.hid m1; clear m1
      have M2 := Lib.hid m2; clear m2

      clear r1 q1 H
      have j0 : (0 : Int) ≤ (k : Int) := by omega
      have j1 : (k : Int) < (l.length : Int) := by omega
      have hsw := hbw.size
      go_wp2_with (first | (at_builtin; go_loud (refine wpList_append_lies _ rfl _ _ _ rfl w.heap.size 38 ti _ 4 72 Tryz.underlying26 hi hz0 hz1 hz2 rfl (by omega) _ k xs rfl ((ho.alloc _).alloc _) ⟨w2.heap.size + 1, 0, none⟩ 1 1 [.string (bs y.name), .slice p1 y.params.length q1, .slice p2 y.alts.length q2, .int .i64 (y.at_ : Int)] (by first | rfl | simp) (by rfl) (World.news_of_block (alloc2 _ _ _)) (by simp [Value.oneCell']) (by omega) (by unfold maxLen; omega) (by omega) (by simp; omega) (w2.heap.size + 2) (by simp) ?_; intro g cap w3 hown3 hgrow hat hlt3)) | (go_at_call 65; go_loud (refine (copy_rule (x := y) HO1.out M1.out M2.out).mono ?_; rintro e w2 ⟨p1, q1, k1, p2, q2, k2, rfl, hD1, hD2, hn2, hb2⟩; have hL2 := HL.out.new hb2; obtain ⟨xs, bs', ho, hlx, hob, hil⟩ := hL2.own; have HLX := Lib.hid hlx; have HOB := Lib.hid hob; have HIL := Lib.hid hil; have HN2 := Lib.hid hn2; have hs2 := hb2.size; have HD1 := Lib.hid hD1; clear hD1; have HD2 := Lib.hid hD2; clear hD2; clear hL2 hlx hob hil hn2)))
      have hbel : Below w2.heap.size w2 ((w2.alloc (.cells #[.string (bs y.name), .slice p1 y.params.length q1, .slice p2 y.alts.length q2, .int .i64 (y.at_ : Int)] 38)).alloc (.cells #[.string (bs y.name), .slice p1 y.params.length q1, .slice p2 y.alts.length q2, .int .i64 (y.at_ : Int)] 38)) := ((Below.refl _ w2).alloc (Nat.le_refl _) _).alloc (by simp) _
      have hLD : LiesL w2 wr.heap.size (ruD y) [.string (bs y.name), .slice p1 y.params.length q1, .slice p2 y.alts.length q2, .int .i64 (y.at_ : Int)] (k1 ++ (k2 ++ ([]))) := LiesL.lit (LiesL.more HD1.out (LiesL.more HD2.out (LiesL.lit (LiesL.nil.2 ⟨rfl, rfl⟩))))
      have hdl := LiesL.lt hLD
      have hbl : ∀ b ∈ bk, b < wr.heap.size := fun b hb => (Lies.lt HL.out b hb).2
      have hn3 : (bk ++ (k1 ++ (k2 ++ ([])))).Nodup := List.nodup_append.2 ⟨HN.out, by simpa using HN2.out, fun x hx y hy e => by have := hbl x hx; have := (hdl y hy).1; omega⟩
      obtain ⟨z1, z2, _⟩ := Lies.snoc (LiesL.new HLX.out hbel) HIL.out (LiesL.base (show w.heap.size ≤ wr.heap.size by omega) (LiesL.new hLD hbel)) rfl HOB.out hn3 hown3 hgrow (hat.imp id (fun h => by simp; omega))
      have hb4 : Below w.heap.size w ((w2.alloc (.cells #[.string (bs y.name), .slice p1 y.params.length q1, .slice p2 y.alts.length q2, .int .i64 (y.at_ : Int)] 38)).alloc (.cells #[.string (bs y.name), .slice p1 y.params.length q1, .slice p2 y.alts.length q2, .int .i64 (y.at_ : Int)] 38)) := (hbw.trans (hb2.mono hsw)).trans (hbel.mono (by omega))
      have hb5 : Below w.heap.size w w3 := hb4.grown hgrow (by simp; omega) (fun j hj => (ho.lt j hj).1)
      go_roundg (l.length - (k + 1))
      case measure => omega
      case rel => exact ⟨k + 1, _, by omega, rfl, by go_num, by rw [HT.out]; exact z1, z2, hb5⟩
    · obtain rfl : k = l.length := by omega
      go_wp2_with fail
      go_ret
      have hL := HL.out
      rw [List.take_length] at hL
      exact ⟨va, vc, bk, rfl, hL, HN.out, hbw⟩

theorem res_copy_source {w : World} {H : Nat} {v0 v1 : Value} {tmps : Array Value} (hH : w.heap[H]? = some (.cells #[v0, v1] 28 (0, 0)))
    (h2 : tmps[2]?.getD undef = .pointer (some ⟨H, 0, none⟩)) : (results Tryz.f20 tmps).run Tryz.prog w = .ok (.agg #[v0, v1]) w := by
  have a0 := cell_of_row w H 0 _ _ _ hH
  have a1 := cell_of_row w H 1 _ _ _ hH
  simp at a0 a1
  simp [results, Tryz.results20, go_sem, h2, a0, a1]

set_option maxRecDepth 100000 in
set_option maxHeartbeats 4000000 in
theorem copy_source {x : Tx} {w : World} {s1 s2 : Value} (ho : TxOk x) (h1 : Reads w (.row 62 4 x.decls.length (desD x.decls)) s1) (h2 : Reads w (.row 38 4 x.rules.length (rusD x.rules)) s2) :
    Calls Tryz.prog 20 #[.agg #[s1, s2]] w fun e w' => ∃ (p0 : Option Addr) (q0 : Nat) (k0 : List Nat) (p1 : Option Addr) (q1 : Nat) (k1 : List Nat), e = .returned (.agg #[.slice p0 x.decls.length q0, .slice p1 x.rules.length q1]) ∧ Lies w' w.heap.size (.row 62 4 x.decls.length (desD x.decls)) (.slice p0 x.decls.length q0) k0 ∧ Lies w' w.heap.size (.row 38 4 x.rules.length (rusD x.rules)) (.slice p1 x.rules.length q1) k1 ∧ (k0 ++ k1).Nodup ∧ Below w.heap.size w w' := by
  obtain ⟨a1, c1, rfl⟩ := Reads.slice h1
  obtain ⟨a2, c2, rfl⟩ := Reads.slice h2
  have hb0 := ((Below.refl _ w).alloc (Nat.le_refl _) (.cells #[.slice a1 x.decls.length c1, .slice a2 x.rules.length c2] 28)).alloc (by simp) (.cells #[.slice none 0 0, .slice none 0 0] 28)
  have H1 := Lib.hid (Reads.below hb0 h1); clear h1
  have H2 := Lib.hid h2; clear h2
  have HC1 := Lib.hid (fun (w : World) (s : Value) => copy_decls (w := w) (s := s) ho.decls ho.n)
  have HC2 := Lib.hid (fun (w : World) (s : Value) => copy_rules (w := w) (s := s) ho.rules ho.m)
  have g1 := alloc1 w (.cells #[.slice a1 x.decls.length c1, .slice a2 x.rules.length c2] 28) (.cells #[.slice none 0 0, .slice none 0 0] 28)
  have g2 := alloc2 w (.cells #[.slice a1 x.decls.length c1, .slice a2 x.rules.length c2] 28) (.cells #[.slice none 0 0, .slice none 0 0] 28)
  have G1 := Lib.hid g1; have G2 := Lib.hid g2; clear g1 g2
  have hs := size2 w (.cells #[.slice a1 x.decls.length c1, .slice a2 x.rules.length c2] 28) (.cells #[.slice none 0 0, .slice none 0 0] 28)
  have HS := Lib.hid hs; clear hs
  go_enter Tryz.func20, Tryz.ntmps20
  go_wp2_with (first | (go_at_call 41; go_loud (refine (HC2.out _ _ (Reads.below hbz1 H2.out)).mono ?_; rintro e w2 ⟨p1, q1, k1, rfl, hL, hnd, hb2⟩; have HM := Lib.hid hL; have HK := Lib.hid hnd; clear hL hnd; have z1 := (hb2.block w.heap.size (by simp; omega)).trans X1.out; have z2 := (hb2.block (w.heap.size + 1) (by simp; omega)).trans X2.out; have Z2 := Lib.hid z2; obtain ⟨_, _⟩ := cells2 z1; obtain ⟨_, _⟩ := cells2 z2; clear z1 z2)) | (go_at_call 40; go_loud (refine (HC1.out _ _ H1.out).mono ?_; rintro e w1 ⟨p0, q0, k0, rfl, hL, hnd, hb1⟩; have HL := Lib.hid hL; have HN := Lib.hid hnd; clear hL hnd; have hz1 := hb1.size; rw [HS.out] at hz1; have y1 := (hb1.block w.heap.size (by rw [HS.out]; omega)).trans G1.out; have y2 := (hb1.block (w.heap.size + 1) (by rw [HS.out]; omega)).trans G2.out; have X1 := Lib.hid (heap_setCell_same w1 w.heap.size 0 _ _ (.slice p0 x.decls.length q0) y1); have X2 := Lib.hid ((Below.heap_setCell w1 ⟨w.heap.size, 0, none⟩ (.slice p0 x.decls.length q0) (w.heap.size + 1) (by simp)).trans y2); have hbz1 := (hb0.trans (hb1.mono (by rw [HS.out]; omega))).setCell (p := ⟨w.heap.size, 0, none⟩) (Nat.le_refl _) (.slice p0 x.decls.length q0); obtain ⟨_, _⟩ := cells2 y1; clear y1 y2)))
  have z2 := Z2.out
  have key := heap_setCell_same _ (w.heap.size + 1) 1 _ _ (.slice p1 x.rules.length q1) (heap_setCell_same _ (w.heap.size + 1) 0 _ _ (.slice p0 x.decls.length q0) ((Below.heap_setCell w2 ⟨w.heap.size, 1, none⟩ (.slice p1 x.rules.length q1) (w.heap.size + 1) (by simp)).trans z2))
  have hlt1 := Lies.lt HL.out
  rw [HS.out] at hlt1
  have hk1 : ∀ b ∈ k0, some b ≠ some w.heap.size := fun b hb e => by have := (hlt1 b hb).1; have : b = w.heap.size := Option.some.inj e; omega
  have hk2 : ∀ b ∈ k0, some b ≠ some (w.heap.size + 1) := fun b hb e => by have := (hlt1 b hb).1; have : b = w.heap.size + 1 := Option.some.inj e; omega
  have hlt2 := Lies.lt HM.out
  have hw1s : (w1.setCell ⟨w.heap.size, 0, none⟩ (.slice p0 x.decls.length q0)).heap.size = w1.heap.size := by simp
  rw [hw1s] at hlt2
  have hm1 : ∀ b ∈ k1, some b ≠ some w.heap.size := fun b hb e => by have := (hlt2 b hb).1; have : b = w.heap.size := Option.some.inj e; omega
  have hm2 : ∀ b ∈ k1, some b ≠ some (w.heap.size + 1) := fun b hb e => by have := (hlt2 b hb).1; have : b = w.heap.size + 1 := Option.some.inj e; omega
  have hLx := (Lies.kept (Heap.grown_set w1 ⟨w.heap.size, 0, none⟩ (.slice p0 x.decls.length q0)) HL.out hk1).new hb2
  have hL0 := Lies.kept (Heap.grown_set w2 ⟨w.heap.size, 1, none⟩ (.slice p1 x.rules.length q1)) hLx hk1
  have hM0 := Lies.kept (Heap.grown_set w2 ⟨w.heap.size, 1, none⟩ (.slice p1 x.rules.length q1)) HM.out hm1
  have hL1 := Lies.kept (Heap.grown_set _ ⟨w.heap.size + 1, 0, none⟩ (.slice p0 x.decls.length q0)) hL0 hk2
  have hL2 := Lies.kept (Heap.grown_set _ ⟨w.heap.size + 1, 1, none⟩ (.slice p1 x.rules.length q1)) hL1 hk2
  have hM1 := Lies.kept (Heap.grown_set _ ⟨w.heap.size + 1, 0, none⟩ (.slice p0 x.decls.length q0)) hM0 hm2
  have hM2 := Lies.kept (Heap.grown_set _ ⟨w.heap.size + 1, 1, none⟩ (.slice p1 x.rules.length q1)) hM1 hm2
  have hbz := (hbz1.trans (hb2.mono (by rw [hw1s]; omega))).setCell (p := ⟨w.heap.size, 1, none⟩) (Nat.le_refl _) (.slice p1 x.rules.length q1)
  refine bodyPost_ret (res_copy_source key rfl) rfl ?_
  exact ⟨p0, q0, k0, p1, q1, k1, rfl, Lies.base (by rw [HS.out]; omega) hL2, Lies.base (by rw [hw1s]; omega) hM2, List.nodup_append.2 ⟨HN.out, HK.out, fun x hx y hy e => by have := (hlt1 x hx).2; have := (hlt2 y hy).1; omega⟩, ((hbz.setCell (p := ⟨w.heap.size + 1, 0, none⟩) (by simp) (.slice p0 x.decls.length q0)).setCell (p := ⟨w.heap.size + 1, 1, none⟩) (by simp) (.slice p1 x.rules.length q1))⟩
end Go.Proofs.YtghebacphjglbaaGreat.Copy
