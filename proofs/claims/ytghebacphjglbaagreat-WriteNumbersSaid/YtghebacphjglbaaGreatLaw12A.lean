/- The law's own examples: a small text, built. -/
import Derived.Test.YtghebacphjglbaaGreatWrN
namespace Go.Proofs.YtghebacphjglbaaGreat.Law12A
open Go.Proofs.YtghebacphjglbaaGreat.ReadO (desD rusD txD)
open Go.RowKit Go.Proofs.YtghebacphjglbaaGreat.Lexy Go.Proofs.YtghebacphjglbaaGreat.LexA Go.Proofs.YtghebacphjglbaaGreat.LexB Go.Proofs.YtghebacphjglbaaGreat.LexC Go.Proofs.YtghebacphjglbaaGreat.LexD Go.Proofs.YtghebacphjglbaaGreat.LexE Go.Proofs.YtghebacphjglbaaGreat.LexF Go.Proofs.YtghebacphjglbaaGreat.LexG Go.Proofs.YtghebacphjglbaaGreat.Heap Go.Proofs.YtghebacphjglbaaGreat.Dat Go.Proofs.YtghebacphjglbaaGreat.Ready Go.Proofs.YtghebacphjglbaaGreat.ReadA Go.Proofs.YtghebacphjglbaaGreat.ReadC Go.Proofs.YtghebacphjglbaaGreat.ReadI Go.Proofs.YtghebacphjglbaaGreat.Same Go.Proofs.YtghebacphjglbaaGreat.Cut Go.Proofs.YtghebacphjglbaaGreat.WrB Go.Proofs.YtghebacphjglbaaGreat.WrD Go.Proofs.YtghebacphjglbaaGreat.WrE Go.Proofs.YtghebacphjglbaaGreat.WrG Go.Proofs.YtghebacphjglbaaGreat.WrK Go.Proofs.YtghebacphjglbaaGreat.WrN

def smallT : Tx := ⟨[⟨[116, 111, 107, 101, 110], [105, 110, 116], [[78]], 0⟩], [⟨[108], [[88]], [⟨[.mk [88] [] 0], [], false, [], 0, 0⟩, ⟨[.mk [108] [.mk [88] [] 0] 0, .mk [78] [] 0], [78], true, [97], 0, 0⟩], 0⟩]⟩
def smallS : List UInt8 := [37, 116, 111, 107, 101, 110, 32, 60, 105, 110, 116, 62, 32, 78, 59, 10, 37, 37, 10, 108, 40, 88, 41, 58, 32, 88, 10, 9, 124, 32, 108, 40, 88, 41, 32, 78, 32, 37, 112, 114, 101, 99, 32, 78, 32, 123, 97, 125, 10, 9, 59, 10]
def leftT : Tx := ⟨[⟨[108, 101, 102, 116], [], [], 0⟩], []⟩
theorem small_wr : wrT smallT = smallS := by decide +kernel
theorem small_ok : okT smallT = true := by decide +kernel
theorem left_ok : okT leftT = false := by decide +kernel
theorem small_tx : TxOk smallT := ⟨by decide, by decide, by simp [smallT, DeOk], fun a ha => by
  obtain rfl : a = _ := by simpa [smallT] using ha
  refine ⟨by decide, by decide, fun b hb => ?_⟩
  simp only [List.mem_cons, List.not_mem_nil, or_false] at hb
  rcases hb with rfl | rfl
  · exact ⟨by decide, wdsOk_sz _ (by decide)⟩
  · exact ⟨by decide, wdsOk_sz _ (by decide)⟩⟩
theorem left_tx : TxOk leftT := ⟨by decide, by decide, by simp [leftT, DeOk], by simp [leftT]⟩
/-- things made, one behind the other -/
def allocs (w : World) (os : List Obj) : World := os.foldl World.alloc w
theorem allocs_size : ∀ (os : List Obj) (w : World), (allocs w os).heap.size = w.heap.size + os.length
  | [], _ => rfl
  | o :: os, w => by
    show (allocs (w.alloc o) os).heap.size = _
    rw [allocs_size os]; simp; omega
theorem allocs_below : ∀ (os : List Obj) (w : World), Below w.heap.size w (allocs w os)
  | [], w => Below.refl _ _
  | o :: os, w => ((Below.refl _ w).alloc (Nat.le_refl _) o).trans ((allocs_below os (w.alloc o)).mono (by simp))
theorem allocs_heap : ∀ (os : List Obj) (w : World) (i : Nat) (o : Obj), os[i]? = some o → (allocs w os).heap[w.heap.size + i]? = some o
  | [], _, _, _, h => by simp at h
  | x :: os, w, 0, o, h => by
    have : x = o := by simpa using h
    subst this
    exact ((allocs_below os (w.alloc x)).block _ (by simp)).trans (heap_alloc_new w x)
  | x :: os, w, i + 1, o, h => by
    have := allocs_heap os (w.alloc x) i o (by simpa using h)
    have e : (w.alloc x).heap.size + i = w.heap.size + (i + 1) := by simp; omega
    rw [e] at this
    exact this
/-- what the small text is made of -/
def smallO (H : Nat) : List Obj := [
  .cells #[.slice (some ⟨H + 4, 0, none⟩) 1 1, .slice (some ⟨H + 8, 0, none⟩) 1 1] 28 (0, 0),
  .cells #[.string { data := #[88] }, .slice none 0 0, .int .i64 0] 33 (0, 0),
  .cells #[.string { data := #[108] }, .slice (some ⟨H + 1, 0, none⟩) 1 1, .int .i64 0, .string { data := #[78] }, .slice none 0 0, .int .i64 0] 33 (0, 0),
  .cells #[.string { data := #[78] }] 9 (0, 0),
  .cells #[.string { data := #[116, 111, 107, 101, 110] }, .string { data := #[105, 110, 116] }, .slice (some ⟨H + 3, 0, none⟩) 1 1, .int .i64 0] 62 (0, 0),
  .cells #[.string { data := #[88] }] 9 (0, 0),
  .cells #[.string { data := #[88] }, .slice none 0 0, .int .i64 0] 33 (0, 0),
  .cells #[.slice (some ⟨H + 6, 0, none⟩) 1 1, .string { data := #[] }, .bool false, .string { data := #[] }, .int .i64 0, .int .i64 0, .slice (some ⟨H + 2, 0, none⟩) 2 2, .string { data := #[78] }, .bool true, .string { data := #[97] }, .int .i64 0, .int .i64 0] 35 (0, 0),
  .cells #[.string { data := #[108] }, .slice (some ⟨H + 5, 0, none⟩) 1 1, .slice (some ⟨H + 7, 0, none⟩) 2 2, .int .i64 0] 38 (0, 0)]
theorem reads_row {W : World} {b n S : Nat} {E : TypeId} {items : List Dat} (hl : items.length = n * S) (hm : n ≤ maxLen) (hr : ReadsL W b 0 items) : Reads W (.row E S n items) (.slice (some ⟨b, 0, none⟩) n n) :=
  Reads.row_iff.2 ⟨hl, hm, _, _, rfl, .inr (.inl ⟨_, _, rfl, hr⟩)⟩
theorem reads_nil {W : World} {S : Nat} {E : TypeId} : Reads W (.row E S 0 []) (.slice none 0 0) := Reads.row_iff.2 ⟨by simp, Nat.zero_le _, _, _, rfl, .inl ⟨rfl, rfl, rfl⟩⟩
theorem reads_at {W : World} {b o : Nat} {d : Dat} {ds : List Dat} {u : Value} (h : W.cell? ⟨b, o, none⟩ = some u) (hd : Reads W d u) (hr : ReadsL W b (o + 1) ds) : ReadsL W b o (d :: ds) := ReadsL.cons.2 ⟨⟨u, h, hd⟩, hr⟩
theorem reads_lit {W : World} {b o : Nat} {ds : List Dat} {u : Value} (h : W.cell? ⟨b, o, none⟩ = some u) (hr : ReadsL W b (o + 1) ds) : ReadsL W b o (.lit u :: ds) := reads_at h (Reads.lit_iff.2 rfl) hr
theorem reads_end {W : World} {b o : Nat} : ReadsL W b o [] := ReadsL.nil.2 trivial
set_option maxRecDepth 100000 in
theorem small_reads {W : World} {H : Nat} (h : ∀ i o, (smallO H)[i]? = some o → W.heap[H + i]? = some o) :
    Reads W (.row 62 4 smallT.decls.length (desD smallT.decls)) (.slice (some ⟨H + 4, 0, none⟩) 1 1) ∧ Reads W (.row 38 4 smallT.rules.length (rusD smallT.rules)) (.slice (some ⟨H + 8, 0, none⟩) 1 1) := by
  have h1 := h 1 _ rfl; have h2 := h 2 _ rfl; have h3 := h 3 _ rfl; have h4 := h 4 _ rfl; have h5 := h 5 _ rfl; have h6 := h 6 _ rfl; have h7 := h 7 _ rfl; have h8 := h 8 _ rfl
  have r1 : Reads W (.row 33 3 1 (wdsD [.mk [88] [] 0])) (.slice (some ⟨H + 1, 0, none⟩) 1 1) := reads_row rfl (by decide) (reads_lit (cell_of_row W _ 0 _ _ (0, 0) h1) (reads_at (cell_of_row W _ 1 _ _ (0, 0) h1) reads_nil (reads_lit (cell_of_row W _ 2 _ _ (0, 0) h1) reads_end)))
  have r6 : Reads W (.row 33 3 1 (wdsD [.mk [88] [] 0])) (.slice (some ⟨H + 6, 0, none⟩) 1 1) := reads_row rfl (by decide) (reads_lit (cell_of_row W _ 0 _ _ (0, 0) h6) (reads_at (cell_of_row W _ 1 _ _ (0, 0) h6) reads_nil (reads_lit (cell_of_row W _ 2 _ _ (0, 0) h6) reads_end)))
  have r2 : Reads W (.row 33 3 2 (wdsD [.mk [108] [.mk [88] [] 0] 0, .mk [78] [] 0])) (.slice (some ⟨H + 2, 0, none⟩) 2 2) := reads_row rfl (by decide) (reads_lit (cell_of_row W _ 0 _ _ (0, 0) h2) (reads_at (cell_of_row W _ 1 _ _ (0, 0) h2) r1 (reads_lit (cell_of_row W _ 2 _ _ (0, 0) h2)
    (reads_lit (cell_of_row W _ 3 _ _ (0, 0) h2) (reads_at (cell_of_row W _ 4 _ _ (0, 0) h2) reads_nil (reads_lit (cell_of_row W _ 5 _ _ (0, 0) h2) reads_end))))))
  have r3 : Reads W (.row 9 1 1 (nmsD [[78]])) (.slice (some ⟨H + 3, 0, none⟩) 1 1) := reads_row rfl (by decide) (reads_lit (cell_of_row W _ 0 _ _ (0, 0) h3) reads_end)
  have r5 : Reads W (.row 9 1 1 (nmsD [[88]])) (.slice (some ⟨H + 5, 0, none⟩) 1 1) := reads_row rfl (by decide) (reads_lit (cell_of_row W _ 0 _ _ (0, 0) h5) reads_end)
  have r7 : Reads W (.row 35 6 2 (alsD [⟨[.mk [88] [] 0], [], false, [], 0, 0⟩, ⟨[.mk [108] [.mk [88] [] 0] 0, .mk [78] [] 0], [78], true, [97], 0, 0⟩])) (.slice (some ⟨H + 7, 0, none⟩) 2 2) := reads_row rfl (by decide)
    (reads_at (cell_of_row W _ 0 _ _ (0, 0) h7) r6 (reads_lit (cell_of_row W _ 1 _ _ (0, 0) h7) (reads_lit (cell_of_row W _ 2 _ _ (0, 0) h7) (reads_lit (cell_of_row W _ 3 _ _ (0, 0) h7) (reads_lit (cell_of_row W _ 4 _ _ (0, 0) h7) (reads_lit (cell_of_row W _ 5 _ _ (0, 0) h7)
    (reads_at (cell_of_row W _ 6 _ _ (0, 0) h7) r2 (reads_lit (cell_of_row W _ 7 _ _ (0, 0) h7) (reads_lit (cell_of_row W _ 8 _ _ (0, 0) h7) (reads_lit (cell_of_row W _ 9 _ _ (0, 0) h7) (reads_lit (cell_of_row W _ 10 _ _ (0, 0) h7) (reads_lit (cell_of_row W _ 11 _ _ (0, 0) h7) reads_end))))))))))))
  refine ⟨reads_row rfl (by decide) (reads_lit (cell_of_row W _ 0 _ _ (0, 0) h4) (reads_lit (cell_of_row W _ 1 _ _ (0, 0) h4) (reads_at (cell_of_row W _ 2 _ _ (0, 0) h4) r3 (reads_lit (cell_of_row W _ 3 _ _ (0, 0) h4) reads_end)))), ?_⟩
  exact reads_row rfl (by decide) (reads_lit (cell_of_row W _ 0 _ _ (0, 0) h8) (reads_at (cell_of_row W _ 1 _ _ (0, 0) h8) r5 (reads_at (cell_of_row W _ 2 _ _ (0, 0) h8) r7 (reads_lit (cell_of_row W _ 3 _ _ (0, 0) h8) reads_end))))
theorem res_small {w : World} {H : Nat} {v0 v1 : Value} {tmps : Array Value} {t : TypeId} (hH : w.heap[H]? = some (.cells #[v0, v1] t (0, 0)))
    (h2 : tmps[0]?.getD undef = .pointer (some ⟨H, 0, none⟩)) : (results Tryz.f7 tmps).run Tryz.prog w = .ok (.agg #[v0, v1]) w := by
  have a0 : w.cell? ⟨H, 0, none⟩ = some v0 := cell_of_row w H 0 _ _ (0, 0) hH
  have a1 : w.cell? ⟨H, 1, none⟩ = some v1 := cell_of_row w H 1 _ _ (0, 0) hH
  simp [results, Tryz.results7, go_sem, h2, a0, a1]
set_option maxRecDepth 100000 in
set_option maxHeartbeats 2000000 in
theorem small_any (w : World) : Calls Tryz.prog 7 #[] w fun e w' => ∃ sd sr, e = .returned (.agg #[sd, sr]) ∧ Reads w' (.row 62 4 smallT.decls.length (desD smallT.decls)) sd ∧ Reads w' (.row 38 4 smallT.rules.length (rusD smallT.rules)) sr ∧ Below w.heap.size w w' := by
  go_enter Tryz.func7, Tryz.ntmps7
  go_wp2
  have hb := allocs_below (smallO w.heap.size) w
  have hh := allocs_heap (smallO w.heap.size) w
  have h0 := hh 0 _ rfl
  obtain ⟨r1, r2⟩ := small_reads hh
  exact ⟨rfl, _, res_small h0 rfl, _, _, rfl, r1, r2, hb⟩
theorem small_text {w : World} {m : Int} {sd sr : Value} (hm : w.cell? ⟨0, 0, none⟩ = some (.int .i64 m)) (hD : Reads w (.row 62 4 smallT.decls.length (desD smallT.decls)) sd) (hR : Reads w (.row 38 4 smallT.rules.length (rusD smallT.rules)) sr) :
    Calls Tryz.prog 17 #[.agg #[sd, sr]] w fun e w' => e = .returned (.tuple #[.string (bs smallS), .int .i64 0]) ∧ Below w.heap.size w w' := by
  refine (text_any hm hD hR small_tx (by rw [← WrT.len_ok small_ok, small_wr]; decide)).mono ?_
  rintro e w' ⟨hb, rfl⟩
  rw [small_ok, small_wr]
  exact ⟨rfl, hb⟩
theorem left_reads {W : World} {H : Nat} (h : W.heap[H]? = some (.cells #[.string { data := #[108, 101, 102, 116] }, .string { data := #[] }, .slice none 0 0, .int .i64 0] 62 (0, 0))) :
    Reads W (.row 62 4 leftT.decls.length (desD leftT.decls)) (.slice (some ⟨H, 0, none⟩) 1 1) ∧ Reads W (.row 38 4 leftT.rules.length (rusD leftT.rules)) (.slice none 0 0) :=
  ⟨reads_row rfl (by decide) (reads_lit (cell_of_row W _ 0 _ _ (0, 0) h) (reads_lit (cell_of_row W _ 1 _ _ (0, 0) h) (reads_at (cell_of_row W _ 2 _ _ (0, 0) h) reads_nil (reads_lit (cell_of_row W _ 3 _ _ (0, 0) h) reads_end)))), reads_nil⟩
theorem left_text {w : World} {m : Int} {g : Nat} (hg : g = w.heap.size) (hm : w.cell? ⟨0, 0, none⟩ = some (.int .i64 m)) :
    Calls Tryz.prog 17 #[.agg #[.slice (some ⟨g, 0, none⟩) 1 1, .slice none 0 0]] (w.alloc (.cells #[.string { data := #[108, 101, 102, 116] }, .string { data := #[] }, .slice none 0 0, .int .i64 0] 62)) fun e w' => e = .returned (.tuple #[.string { data := #[] }, .int .i64 4]) ∧ Below w.heap.size w w' := by
  subst hg
  obtain ⟨h1, hb, hs⟩ := box1 w (.cells #[.string { data := #[108, 101, 102, 116] }, .string { data := #[] }, .slice none 0 0, .int .i64 0] 62)
  obtain ⟨r1, r2⟩ := left_reads h1
  have hm' := (hb.cell (p := ⟨0, 0, none⟩) (World.block_lt_of_cell? _ _ hm)).trans hm
  refine (text_any hm' r1 r2 left_tx (by decide +kernel)).mono ?_
  rintro e w' ⟨hb2, rfl⟩
  rw [left_ok]
  exact ⟨rfl, hb.trans (hb2.mono hb.size)⟩
set_option maxRecDepth 100000 in
set_option maxHeartbeats 2000000 in
theorem awake_any {w : World} {m : Int} (hm : w.cell? ⟨0, 0, none⟩ = some (.int .i64 m)) :
    Calls Tryz.prog 8 #[] w fun e w' => e = .returned (.bool true) ∧ Below w.heap.size w w' := by
  have hml := World.block_lt_of_cell? _ _ hm
  have HM := Lib.hid hm
  have HS := Lib.hid (fun (u : World) (sd sr : Value) (hb : Below w.heap.size w u) (h1 : Reads u (.row 62 4 smallT.decls.length (desD smallT.decls)) sd) (h2 : Reads u (.row 38 4 smallT.rules.length (rusD smallT.rules)) sr) => small_text ((hb.cell (p := ⟨0, 0, none⟩) hml).trans hm) h1 h2)
  have t1 : ((bs smallS).toList == ({ data := #[37, 116, 111, 107, 101, 110, 32, 60, 105, 110, 116, 62, 32, 78, 59, 10, 37, 37, 10, 108, 40, 88, 41, 58, 32, 88, 10, 9, 124, 32, 108, 40, 88, 41, 32, 78, 32, 37, 112, 114, 101, 99, 32, 78, 32, 123, 97, 125, 10, 9, 59, 10] } : ByteArray).toList) = true := (strs_eq smallS smallS).trans (decide_eq_true rfl)
  have t2 : ((bs smallS).toList == ([37, 116, 111, 107, 101, 110, 32, 60, 105, 110, 116, 62, 32, 78, 59, 10, 37, 37, 10, 108, 40, 88, 41, 58, 32, 88, 10, 9, 124, 32, 108, 40, 88, 41, 32, 78, 32, 37, 112, 114, 101, 99, 32, 78, 32, 123, 97, 125, 10, 9, 59, 10] : List UInt8)) = true := by rw [bs_toList]; exact beq_iff_eq.2 rfl
  clear hm
  generalize bs smallS = zs at *
  go_enter Tryz.func8, Tryz.ntmps8
  go_upto_region 2 with (first | (go_at_call 7; refine (small_any w).mono ?_; rintro e w1 ⟨sd, sr, rfl, h1, h2, hb1⟩; have H1 := Lib.hid h1; have H2 := Lib.hid h2; clear h1 h2) | (go_at_call 17; refine (HS.out w1 _ _ hb1 H1.out H2.out).mono ?_; rintro e w2 ⟨rfl, hb2⟩))
  have hb3 := hb1.trans (hb2.mono hb1.size)
  have HC := Lib.hid (left_text (w := w2) rfl ((hb3.cell (p := ⟨0, 0, none⟩) hml).trans HM.out))
  clear H1 H2 HS
  go_wp2_with (go_at_call 17; refine (HC.out).mono ?_; rintro e w4 ⟨rfl, hb4⟩)
  go_ret
  exact ⟨rfl, hb3.trans (hb4.mono hb3.size)⟩
end Go.Proofs.YtghebacphjglbaaGreat.Law12A
