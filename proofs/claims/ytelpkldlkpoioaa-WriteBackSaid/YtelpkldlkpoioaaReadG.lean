/- The reader of grammars' texts: a word, walked. -/
import Derived.Test.YtelpkldlkpoioaaReadF
namespace Go.Proofs.Ytelpkldlkpoioaa.ReadG
open Go.RowKit Go.Proofs.Ytelpkldlkpoioaa.Lexy Go.Proofs.Ytelpkldlkpoioaa.LexA Go.Proofs.Ytelpkldlkpoioaa.LexB Go.Proofs.Ytelpkldlkpoioaa.LexC Go.Proofs.Ytelpkldlkpoioaa.LexD Go.Proofs.Ytelpkldlkpoioaa.LexE Go.Proofs.Ytelpkldlkpoioaa.LexF Go.Proofs.Ytelpkldlkpoioaa.LexG Go.Proofs.Ytelpkldlkpoioaa.Heap Go.Proofs.Ytelpkldlkpoioaa.Dat Go.Proofs.Ytelpkldlkpoioaa.Ready Go.Proofs.Ytelpkldlkpoioaa.ReadA Go.Proofs.Ytelpkldlkpoioaa.ReadB Go.Proofs.Ytelpkldlkpoioaa.ReadC Go.Proofs.Ytelpkldlkpoioaa.ReadE Go.Proofs.Ytelpkldlkpoioaa.ReadD Go.Proofs.Ytelpkldlkpoioaa.ReadF

/-- three blocks, just laid -/
theorem alloc3 (w : World) (o1 o2 o3 : Obj) : (((w.alloc o1).alloc o2).alloc o3).heap[w.heap.size]? = some o1 ∧ (((w.alloc o1).alloc o2).alloc o3).heap[w.heap.size + 1]? = some o2 ∧ (((w.alloc o1).alloc o2).alloc o3).heap[w.heap.size + 1 + 1]? = some o3 := by
  refine ⟨?_, ?_, ?_⟩
  · rw [Below.heap_alloc _ _ _ (by simp <;> omega), Below.heap_alloc _ _ _ (by simp)]; exact heap_alloc_new w _
  · rw [Below.heap_alloc _ _ _ (by simp)]; have := heap_alloc_new (w.alloc o1) o2; simpa using this
  · have := heap_alloc_new ((w.alloc o1).alloc o2) o3; simpa using this
/-- what stands ahead of a word's parts -/
structure WS (w w' : World) (b g c : Nat) (T : List Tok) (k d : Nat) : Prop where
  bx : Bx w.heap.size b w w'
  rr : Rr w' b g c T k
  hr : w'.heap[w.heap.size]? = some (.cells #[.pointer (some ⟨b, 0, none⟩)] 71 (0, 0))
  hd : w'.heap[w.heap.size + 1]? = some (.cells #[.int .i64 (d : Int)] 3 (0, 0))
  hz : w'.heap[w.heap.size + 1 + 1]? = some (.cells #[.string { data := #[] }, .slice none 0 0, .int .i64 0] 54 (0, 0))
theorem WS.start {w : World} {b g c : Nat} {T : List Tok} {k d : Nat} (h : Rr w b g c T k) : WS w (((w.alloc (.cells #[.pointer (some ⟨b, 0, none⟩)] 71)).alloc (.cells #[.int .i64 (d : Int)] 3)).alloc (.cells #[.string { data := #[] }, .slice none 0 0, .int .i64 0] 54)) b g c T k d := by
  have hb := (((Below.refl w.heap.size w).alloc (Nat.le_refl _) (.cells #[.pointer (some ⟨b, 0, none⟩)] 71)).alloc (by simp) (.cells #[.int .i64 (d : Int)] 3)).alloc (by simp; omega) (.cells #[.string { data := #[] }, .slice none 0 0, .int .i64 0] 54)
  obtain ⟨h1, h2, h3⟩ := alloc3 w (.cells #[.pointer (some ⟨b, 0, none⟩)] 71) (.cells #[.int .i64 (d : Int)] 3) (.cells #[.string { data := #[] }, .slice none 0 0, .int .i64 0] 54)
  exact ⟨(Bx.refl _ b w).below hb (Nat.le_refl _), h.new hb, h1, h2, h3⟩
theorem WS.below {w w1 w2 : World} {b g c : Nat} {T : List Tok} {k d : Nat} (h : WS w w1 b g c T k d) (hb : Below w1.heap.size w1 w2) : WS w w2 b g c T k d := by
  have l1 := (Array.getElem?_eq_some_iff.1 h.hr).1; have l2 := (Array.getElem?_eq_some_iff.1 h.hd).1; have l3 := (Array.getElem?_eq_some_iff.1 h.hz).1
  exact ⟨h.bx.below hb h.bx.size, h.rr.new hb, (hb.block _ l1).trans h.hr, (hb.block _ l2).trans h.hd, (hb.block _ l3).trans h.hz⟩
theorem WS.go {w w1 w2 : World} {b g c : Nat} {T : List Tok} {k k' d : Nat} (h : WS w w1 b g c T k d) (hbw : b < w.heap.size) (hg : w1.grownBy w2 (some b)) (hR : Rr w2 b g c T k') : WS w w2 b g c T k' d := by
  have l1 := (Array.getElem?_eq_some_iff.1 h.hr).1; have l2 := (Array.getElem?_eq_some_iff.1 h.hd).1; have l3 := (Array.getElem?_eq_some_iff.1 h.hz).1
  exact ⟨h.bx.grown hg h.bx.size (fun j hj => .inl (Option.some.inj hj).symm), hR, (hg.block _ l1 (by simp; omega)).trans h.hr, (hg.block _ l2 (by simp; omega)).trans h.hd, (hg.block _ l3 (by simp; omega)).trans h.hz⟩

theorem WS.put {w w1 : World} {b g c : Nat} {T : List Tok} {k d : Nat} (h : WS w w1 b g c T k d) {H i : Nat} {v : Value} (hH : w.heap.size + 1 + 1 < H) (hb : H ≠ b) (hg : H ≠ g) : WS w (w1.setCell ⟨H, i, none⟩ v) b g c T k d := by
  have hgr := Heap.grown_set w1 ⟨H, i, none⟩ v
  have l1 := (Array.getElem?_eq_some_iff.1 h.hr).1; have l2 := (Array.getElem?_eq_some_iff.1 h.hd).1; have l3 := (Array.getElem?_eq_some_iff.1 h.hz).1
  exact ⟨h.bx.grown hgr h.bx.size (fun j hj => .inr (by have : H = j := Option.some.inj hj; omega)), h.rr.grown hgr (by simpa using fun e => hb e.symm) (by simpa using fun e => hg e.symm), (hgr.block _ l1 (by simp; omega)).trans h.hr, (hgr.block _ l2 (by simp; omega)).trans h.hd, (hgr.block _ l3 (by simp; omega)).trans h.hz⟩
theorem WS.bxs {w w1 w2 : World} {b g c : Nat} {T : List Tok} {k k' d : Nat} (h : WS w w1 b g c T k d) (hbw : b < w.heap.size) (hB : Bx (w.heap.size + 1 + 1 + 1) b w1 w2) (hR : Rr w2 b g c T k') : WS w w2 b g c T k' d :=
  ⟨h.bx.trans ⟨hB.os, hB.tape, hB.output, hB.size, fun i hi hb => hB.block i (by omega) hb⟩, hR, (hB.block _ (by omega) (by omega)).trans h.hr, (hB.block _ (by omega) (by omega)).trans h.hd, (hB.block _ (by omega) (by omega)).trans h.hz⟩
theorem row_slice {w : World} {B E S n : Nat} {items : List Dat} {v : Value} {bk : List Nat} (h : Lies w B (.row E S n items) v bk) : ∃ a c, v = .slice a n c := by
  obtain ⟨xs, bs', hown, _⟩ := h.own
  rcases hown.2 with ⟨h, h0⟩ | ⟨g, cap, cur, h, _⟩
  · exact ⟨none, 0, by rw [h, h0]⟩
  · exact ⟨_, _, h⟩
/-- what stands behind a word's last store -/
theorem word_done {w w4 w5 : World} {b g c k k1 d Hw pa : Nat} {T : List Tok} {nm : List UInt8} {xs : List Wd} {v0 v1 v2 va : Value} (hbw : b < w.heap.size) (hgw : g < w.heap.size) (S4 : WS w w4 b g c T k d) (hH : w.heap.size + 1 + 1 < Hw) (hI : WordI Hw w.heap.size (w.heap.size + 1) b g c d (Hw + 1) T (bs nm) (pa : Int) k1 xs w5) (hb5 : Bx (w.heap.size + 1 + 1 + 1) b w4 w5)
    (hva : w5.cell? ⟨Hw, 1, none⟩ = some va) (h0 : v0 = .string (bs nm)) (h1 : v1 = va) (h2 : v2 = .int .i64 (pa : Int)) :
    WordQ b g c T w (.one (.mk nm xs pa) k1) (.returned (.agg #[v0, v1, v2])) (((w5.setCell ⟨w.heap.size + 1 + 1, 0, none⟩ v0).setCell ⟨w.heap.size + 1 + 1, 1, none⟩ v1).setCell ⟨w.heap.size + 1 + 1, 2, none⟩ v2) := by
  subst h0 h1 h2
  obtain ⟨hR, ⟨vb, bk, hE, hL, hnd⟩, hbase⟩ := hI
  have e : some v1 = some vb := hva.symm.trans (cell_of_row w5 Hw 1 _ _ _ hE.hw)
  cases e
  obtain ⟨a, cc, rfl⟩ := row_slice hL
  have hg := Heap.grown_trans (Heap.grown_trans (Heap.grown_set w5 ⟨w.heap.size + 1 + 1, 0, none⟩ (.string (bs nm))) (Heap.grown_set _ ⟨w.heap.size + 1 + 1, 1, none⟩ (.slice a xs.length cc))) (Heap.grown_set _ ⟨w.heap.size + 1 + 1, 2, none⟩ (.int .i64 (pa : Int)))
  have hs5 := (S4.bxs hbw hb5 hR).bx
  have := hs5.size
  refine ⟨a, cc, bk, rfl, Lies.base (by omega) (Lies.kept hg hL fun j hj e => ?_), hnd, (hs5.grown hg hs5.size (fun j hj => .inr ?_)).to, hR.grown hg (by simp; omega) (by simp; omega)⟩
  · have := (Lies.lt hL j hj).1; have : j = w.heap.size + 1 + 1 := Option.some.inj e; omega
  · have : w.heap.size + 1 + 1 = j := Option.some.inj hj; omega
set_option maxRecDepth 100000 in
set_option maxHeartbeats 2000000 in
theorem word_none {w : World} {b g c k d : Nat} {T : List Tok} (hR : Rr w b g c T k) (hk : k < T.length) (hT2 : T.length ≤ 1000000) (h2 : isK T k 2 = false) :
    Calls Try.prog 88 #[.pointer (some ⟨b, 0, none⟩), .int .i64 (d : Int)] w (WordQ b g c T w (.bad 102 (tok T k).at_)) := by
  obtain ⟨kd, hkd⟩ : ∃ x, (tok T k).kind = x := ⟨_, rfl⟩
  obtain ⟨tx, htx⟩ : ∃ x, bs (tok T k).text = x := ⟨_, rfl⟩
  obtain ⟨pa, hpa⟩ : ∃ x, (tok T k).at_ = x := ⟨_, rfl⟩
  have hfl := field_at
  have HN := Lib.hid (fun (w : World) (h : Rr w b g c T k) => next_is h hk hT2 hkd htx hpa)
  have HI := Lib.hid (fun (w : World) (h : Rr w b g c T k) => is_kind (kz := 2) h hk hT2 h2 rfl)
  have HF := Lib.hid (show ∀ (w : World), Rr w b g c T k → Calls Try.prog 61 #[.pointer (some ⟨b, 0, none⟩)] w fun e w' => e = .panicked (thrownF 102 (pa : Int)) ∧ Below w.heap.size w w' from fun w h => by rw [← hpa]; exact name_f h hk hT2 h2)
  have HS := Lib.hid (WS.start (d := d) hR)
  rw [hpa]
  clear hR hkd htx h2 hpa
  go_enter Try.func88, Try.ntmps88
  go_wp2_with (first | (go_at_call 59; go_must (refine (HN.out _ HS.out.rr).mono ?_); rintro e w1 ⟨rfl, hb1⟩; have S1 := Lib.hid ((HS.out.below hb1).below ((Below.refl _ _).alloc (Nat.le_refl _) (.cells #[.string { data := #[] }, .slice none 0 0, .int .i64 (pa : Int)] 54))); have hcw := heap_alloc_new w1 (.cells #[.string { data := #[] }, .slice none 0 0, .int .i64 (pa : Int)] 54); have cr := cell_of_row _ _ 0 _ _ _ S1.out.hr; have cd := cell_of_row _ _ 0 _ _ _ S1.out.hd) | (go_at_call 35; go_must (refine (HI.out _ S1.out.rr).mono ?_); rintro e w2 ⟨rfl, hb2⟩; have S2 := Lib.hid (S1.out.below hb2); have hcw2 := (hb2.block _ (by simp)).trans hcw; have cr2 := cell_of_row _ _ 0 _ _ _ S2.out.hr; have cd2 := cell_of_row _ _ 0 _ _ _ S2.out.hd) | (go_at_call 61; go_must (refine (HF.out _ S2.out.rr).mono ?_); rintro e w3 ⟨rfl, hb3⟩))
  exact ⟨rfl, rfl, (S2.out.bx.below hb3 S2.out.bx.size).to⟩
set_option maxRecDepth 100000 in
set_option maxHeartbeats 2000000 in
theorem word_deep {w : World} {b g c k d : Nat} {T : List Tok} (hR : Rr w b g c T k) (hk : k < T.length) (hT2 : T.length ≤ 1000000) (hd : 60 < d) (h2 : isK T k 2 = true) :
    Calls Try.prog 88 #[.pointer (some ⟨b, 0, none⟩), .int .i64 (d : Int)] w (WordQ b g c T w (.bad 103 (tok T k).at_)) := by
  obtain ⟨kd, hkd⟩ : ∃ x, (tok T k).kind = x := ⟨_, rfl⟩
  obtain ⟨tx, htx⟩ : ∃ x, bs (tok T k).text = x := ⟨_, rfl⟩
  obtain ⟨pa, hpa⟩ : ∃ x, (tok T k).at_ = x := ⟨_, rfl⟩
  have hfl := field_at
  have HN := Lib.hid (fun (w : World) (h : Rr w b g c T k) => next_is h hk hT2 hkd htx hpa)
  have HI := Lib.hid (fun (w : World) (h : Rr w b g c T k) => is_kind (kz := 2) h hk hT2 h2 rfl)
  have HF := Lib.hid (show ∀ (w : World), Rr w b g c T k → Calls Try.prog 63 #[.pointer (some ⟨b, 0, none⟩), .int .i64 103] w fun e w' => e = .panicked (thrownF 103 (pa : Int)) ∧ Below w.heap.size w w' from fun w h => by rw [← hpa]; exact throw_any h hk hT2)
  have HS := Lib.hid (WS.start (d := d) hR)
  rw [hpa]
  clear hR hkd htx h2 hpa
  have hdz : (60 : Int) < (d : Int) := by omega
  go_enter Try.func88, Try.ntmps88
  go_wp2_with (first | (go_at_call 59; go_must (refine (HN.out _ HS.out.rr).mono ?_); rintro e w1 ⟨rfl, hb1⟩; have S1 := Lib.hid ((HS.out.below hb1).below ((Below.refl _ _).alloc (Nat.le_refl _) (.cells #[.string { data := #[] }, .slice none 0 0, .int .i64 (pa : Int)] 54))); have hcw := heap_alloc_new w1 (.cells #[.string { data := #[] }, .slice none 0 0, .int .i64 (pa : Int)] 54); have cr := cell_of_row _ _ 0 _ _ _ S1.out.hr; have cd := cell_of_row _ _ 0 _ _ _ S1.out.hd) | (go_at_call 35; go_must (refine (HI.out _ S1.out.rr).mono ?_); rintro e w2 ⟨rfl, hb2⟩; have S2 := Lib.hid (S1.out.below hb2); have hcw2 := (hb2.block _ (by simp)).trans hcw; have cr2 := cell_of_row _ _ 0 _ _ _ S2.out.hr; have cd2 := cell_of_row _ _ 0 _ _ _ S2.out.hd) | (go_at_call 63; go_must (refine (HF.out _ S2.out.rr).mono ?_); rintro e w3 ⟨rfl, hb3⟩))
  exact ⟨rfl, rfl, (S2.out.bx.below hb3 S2.out.bx.size).to⟩
theorem res_word {w : World} {H : Nat} {v0 v1 v2 : Value} {tmps : Array Value} (hH : w.heap[H]? = some (.cells #[v0, v1, v2] 54 (0, 0)))
    (h2 : tmps[4]?.getD undef = .pointer (some ⟨H, 0, none⟩)) : (results Try.f88 tmps).run Try.prog w = .ok (.agg #[v0, v1, v2]) w := by
  obtain ⟨a0, a1, a2, _⟩ := cells3 hH
  simp [results, Try.results88, go_sem, h2, a0, a1, a2]
set_option maxRecDepth 100000 in
set_option maxHeartbeats 2000000 in
theorem word_some {w : World} {b g c k d : Nat} {T : List Tok} {o : Ends2 (List Wd)} (hR : Rr w b g c T k) (hT : Ready.Ends T) (hk : k < T.length) (hT2 : T.length ≤ 1000000) (hd : d ≤ 60) (h2 : isK T k 2 = true) (ho : GR T (WPS T k (d + 1)) (k + 1) [] o)
    (hW : ∀ k1 a w1, k < k1 → k1 < T.length → PR T (.word k1 (d + 1)) a → Rr w1 b g c T k1 → Calls Try.prog 88 #[.pointer (some ⟨b, 0, none⟩), .int .i64 ((d : Int) + 1)] w1 (WordQ b g c T w1 a)) :
    Calls Try.prog 88 #[.pointer (some ⟨b, 0, none⟩), .int .i64 (d : Int)] w fun e w' => match o with
      | .inl (k1, xs) => WordQ b g c T w (.one (.mk (tok T k).text xs (tok T k).at_) k1) e w'
      | .inr (x, p) => WordQ b g c T w (.bad x p) e w' := by
  obtain ⟨kd, hkd⟩ : ∃ x, (tok T k).kind = x := ⟨_, rfl⟩
  obtain ⟨tx, htx⟩ : ∃ x, bs (tok T k).text = x := ⟨_, rfl⟩
  obtain ⟨pa, hpa⟩ : ∃ x, (tok T k).at_ = x := ⟨_, rfl⟩
  have hfl := field_at
  have HN := Lib.hid (fun (w : World) (h : Rr w b g c T k) => next_is h hk hT2 hkd htx hpa)
  have HI := Lib.hid (fun (w : World) (h : Rr w b g c T k) => is_kind (kz := 2) h hk hT2 h2 rfl)
  have HM := Lib.hid (show ∀ (w : World), Rr w b g c T k → Calls Try.prog 61 #[.pointer (some ⟨b, 0, none⟩)] w fun e w' => e = .returned (.string tx) ∧ w.grownBy w' (some b) ∧ Rr w' b g c T (k + 1) from fun w h => by rw [← htx]; exact name_t h hk hT2 h2)
  have HS := Lib.hid (WS.start (d := d) hR)
  have HK1 := Lib.hid (hT.ltK hk h2)
  have hbw := hR.bl
  have hgw := hR.gl
  have hgb := hR.gb
  have HW := Lib.hid hW
  have HO := Lib.hid ho
  have HTX := Lib.hid htx
  clear hR hkd h2 ho hW htx
  have hdz : ¬ (60 : Int) < (d : Int) := by omega
  rcases o with ⟨k1, xs⟩ | ⟨xe, pe⟩
  · go_enter Try.func88, Try.ntmps88
    go_wp2_with (first | (go_at_call 59; go_must (refine (HN.out _ HS.out.rr).mono ?_); rintro e w1 ⟨rfl, hb1⟩; have S1 := Lib.hid ((HS.out.below hb1).below ((Below.refl _ _).alloc (Nat.le_refl _) (.cells #[.string { data := #[] }, .slice none 0 0, .int .i64 (pa : Int)] 54))); have hcw := heap_alloc_new w1 (.cells #[.string { data := #[] }, .slice none 0 0, .int .i64 (pa : Int)] 54); have cr := cell_of_row _ _ 0 _ _ _ S1.out.hr; have cd := cell_of_row _ _ 0 _ _ _ S1.out.hd) | (go_at_call 35; go_must (refine (HI.out _ S1.out.rr).mono ?_); rintro e w2 ⟨rfl, hb2⟩; have S2 := Lib.hid (S1.out.below hb2); have hcw2 := (hb2.block _ (by simp)).trans hcw; have cr2 := cell_of_row _ _ 0 _ _ _ S2.out.hr; have cd2 := cell_of_row _ _ 0 _ _ _ S2.out.hd) | (go_at_call 61; go_must (refine (HM.out _ S2.out.rr).mono ?_); rintro e w3 ⟨rfl, hg3, hR3⟩; have S3 := Lib.hid (S2.out.go hbw hg3 hR3); have z1 : w.heap.size + 1 + 1 + 1 ≤ w1.heap.size := (by have := hb1.size; simpa using this); have hcw3 := (hg3.block _ (Array.getElem?_eq_some_iff.1 hcw2).1 (by simp; omega)).trans hcw2; have cr3 := cell_of_row _ _ 0 _ _ _ S3.out.hr; have cd3 := cell_of_row _ _ 0 _ _ _ S3.out.hd; have cw3 := cell_of_row _ _ 0 _ _ _ hcw3; have cf3 := frozen_of_row _ _ 0 _ _ hcw3; have S4 := Lib.hid (S3.out.put (H := w1.heap.size) (i := 0) (v := .string tx) (by omega) (by omega) (by omega)); have cr4 := cell_of_row _ _ 0 _ _ _ S4.out.hr; have I4 := Lib.hid (show WordI w1.heap.size w.heap.size (w.heap.size + 1) b g c d (w1.heap.size + 1) T tx (pa : Int) (k + 1) [] (w3.setCell ⟨w1.heap.size, 0, none⟩ (.string tx)) from ⟨S4.out.rr, ⟨_, [], ⟨heap_setCell_same _ _ 0 _ _ _ hcw3, S4.out.hr, S4.out.hd⟩, by simpa [wdsD_nil] using Lies.nil _ _ _ _, List.nodup_nil⟩, by have := (Array.getElem?_eq_some_iff.1 hcw3).1; simp; omega⟩)) | (go_at_call 64; go_must (refine (given_any (word_part (B := w1.heap.size + 1) (B1 := w.heap.size + 1 + 1 + 1) (k0 := k) (n := tx) (p := (pa : Int)) hT hT2 ⟨by omega, by omega, by omega, by omega, by omega⟩ ⟨by omega, by omega, by omega, by omega, by omega, by omega⟩ (by omega) (by omega) HW.out) hT hT2 HO.out HK1.out I4.out).mono ?_); rintro e w5 ⟨rfl, hI5, hb5⟩; have HI5 := Lib.hid hI5; obtain ⟨hR5, ⟨va5, bk5, hE5, hL5, hnd5⟩, hbs5⟩ := hI5; obtain ⟨a5, c5, rfl⟩ := row_slice hL5; have S5 := Lib.hid (S4.out.bxs hbw hb5 hR5); obtain ⟨q0, q1, q2, _⟩ := cells3 hE5.hw; have hz5 := S5.out.hz; obtain ⟨r0, r1, r2, t0, t1, t2⟩ := cells3 hz5; clear hE5 hL5 hnd5 hbs5 hR5))
    refine bodyPost_ret (res_word (tok3h hz5 _ _ _) rfl) rfl ?_
    have hnm := HTX.out
    subst hnm
    subst hpa
    exact word_done hbw hgw S4.out (by omega) HI5.out hb5 q1 rfl rfl rfl
  · go_enter Try.func88, Try.ntmps88
    go_wp2_with (first | (go_at_call 59; go_must (refine (HN.out _ HS.out.rr).mono ?_); rintro e w1 ⟨rfl, hb1⟩; have S1 := Lib.hid ((HS.out.below hb1).below ((Below.refl _ _).alloc (Nat.le_refl _) (.cells #[.string { data := #[] }, .slice none 0 0, .int .i64 (pa : Int)] 54))); have hcw := heap_alloc_new w1 (.cells #[.string { data := #[] }, .slice none 0 0, .int .i64 (pa : Int)] 54); have cr := cell_of_row _ _ 0 _ _ _ S1.out.hr; have cd := cell_of_row _ _ 0 _ _ _ S1.out.hd) | (go_at_call 35; go_must (refine (HI.out _ S1.out.rr).mono ?_); rintro e w2 ⟨rfl, hb2⟩; have S2 := Lib.hid (S1.out.below hb2); have hcw2 := (hb2.block _ (by simp)).trans hcw; have cr2 := cell_of_row _ _ 0 _ _ _ S2.out.hr; have cd2 := cell_of_row _ _ 0 _ _ _ S2.out.hd) | (go_at_call 61; go_must (refine (HM.out _ S2.out.rr).mono ?_); rintro e w3 ⟨rfl, hg3, hR3⟩; have S3 := Lib.hid (S2.out.go hbw hg3 hR3); have z1 : w.heap.size + 1 + 1 + 1 ≤ w1.heap.size := (by have := hb1.size; simpa using this); have hcw3 := (hg3.block _ (Array.getElem?_eq_some_iff.1 hcw2).1 (by simp; omega)).trans hcw2; have cr3 := cell_of_row _ _ 0 _ _ _ S3.out.hr; have cd3 := cell_of_row _ _ 0 _ _ _ S3.out.hd; have cw3 := cell_of_row _ _ 0 _ _ _ hcw3; have cf3 := frozen_of_row _ _ 0 _ _ hcw3; have S4 := Lib.hid (S3.out.put (H := w1.heap.size) (i := 0) (v := .string tx) (by omega) (by omega) (by omega)); have cr4 := cell_of_row _ _ 0 _ _ _ S4.out.hr; have I4 := Lib.hid (show WordI w1.heap.size w.heap.size (w.heap.size + 1) b g c d (w1.heap.size + 1) T tx (pa : Int) (k + 1) [] (w3.setCell ⟨w1.heap.size, 0, none⟩ (.string tx)) from ⟨S4.out.rr, ⟨_, [], ⟨heap_setCell_same _ _ 0 _ _ _ hcw3, S4.out.hr, S4.out.hd⟩, by simpa [wdsD_nil] using Lies.nil _ _ _ _, List.nodup_nil⟩, by have := (Array.getElem?_eq_some_iff.1 hcw3).1; simp; omega⟩)) | (go_at_call 64; go_must (refine (given_any (word_part (B := w1.heap.size + 1) (B1 := w.heap.size + 1 + 1 + 1) (k0 := k) (n := tx) (p := (pa : Int)) hT hT2 ⟨by omega, by omega, by omega, by omega, by omega⟩ ⟨by omega, by omega, by omega, by omega, by omega, by omega⟩ (by omega) (by omega) HW.out) hT hT2 HO.out HK1.out I4.out).mono ?_); rintro e w5 ⟨rfl, hb5⟩))
    exact ⟨rfl, rfl, (S4.out.bx.trans ⟨hb5.os, hb5.tape, hb5.output, hb5.size, fun i hi hb => hb5.block i (by omega) hb⟩).to⟩
/-- a word, whatever it is -/
theorem word_any {b g c : Nat} {T : List Tok} (hT : Ready.Ends T) (hT2 : T.length ≤ 1000000) : ∀ (m k d : Nat) (a : Ans) (w : World), T.length - k ≤ m → k < T.length → d ≤ 61 → PR T (.word k d) a → Rr w b g c T k →
    Calls Try.prog 88 #[.pointer (some ⟨b, 0, none⟩), .int .i64 (d : Int)] w (WordQ b g c T w a) := by
  intro m
  induction m with
  | zero => intro k d a w h hk; omega
  | succ m ih =>
    intro k d a w h hk hd hp hR
    cases h2 : isK T k 2 with
    | false =>
      cases hp with
      | none => exact word_none hR hk hT2 h2
      | _ => rename_i h _; rw [h2] at *; contradiction
    | true =>
      by_cases hd' : d ≤ 60
      · obtain ⟨o, ho, hao⟩ := word_GR hT hp h2 hd' hk
        refine (word_some hR hT hk hT2 hd' h2 ho fun k1 a w1 h1 h2 h3 h4 => ?_).mono fun e w' h => ?_
        · have := ih k1 (d + 1) a w1 (by omega) h2 (by omega) h3 h4
          simpa using this
        · rcases o with ⟨k1, xs⟩ | ⟨x, p⟩
          · rw [hao]; exact h
          · rw [hao]; exact h
      · cases hp with
        | deep h1 h3 => exact word_deep hR hk hT2 (by omega) h2
        | none h => rw [h] at h2; cases h2
        | _ => omega
end Go.Proofs.Ytelpkldlkpoioaa.ReadG
