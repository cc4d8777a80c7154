/- The laws of reading: the chapter's examples, walked. -/
import Derived.Test.YtelpkldlkpoioaaLaw11A
namespace Go.Proofs.Ytelpkldlkpoioaa.Law11B
open Go.RowKit Go.Proofs.Ytelpkldlkpoioaa.Lexy Go.Proofs.Ytelpkldlkpoioaa.LexA Go.Proofs.Ytelpkldlkpoioaa.LexB Go.Proofs.Ytelpkldlkpoioaa.LexC Go.Proofs.Ytelpkldlkpoioaa.LexD Go.Proofs.Ytelpkldlkpoioaa.LexE Go.Proofs.Ytelpkldlkpoioaa.LexF Go.Proofs.Ytelpkldlkpoioaa.LexG Go.Proofs.Ytelpkldlkpoioaa.Heap Go.Proofs.Ytelpkldlkpoioaa.Dat Go.Proofs.Ytelpkldlkpoioaa.Ready Go.Proofs.Ytelpkldlkpoioaa.ReadA Go.Proofs.Ytelpkldlkpoioaa.ReadC Go.Proofs.Ytelpkldlkpoioaa.ReadG Go.Proofs.Ytelpkldlkpoioaa.ReadH Go.Proofs.Ytelpkldlkpoioaa.ReadI Go.Proofs.Ytelpkldlkpoioaa.ReadJ Go.Proofs.Ytelpkldlkpoioaa.ReadM Go.Proofs.Ytelpkldlkpoioaa.ReadO Go.Proofs.Ytelpkldlkpoioaa.ReadQ Go.Proofs.Ytelpkldlkpoioaa.Same Go.Proofs.Ytelpkldlkpoioaa.Law11A

abbrev exB1 : ByteArray := { data := #[37, 116, 111, 107, 101, 110, 32, 60, 105, 110, 116, 62, 32, 78, 59, 32, 37, 37, 32, 108, 40, 88, 41, 58, 32, 88, 32, 124, 32, 108, 40, 88, 41, 32, 78, 32, 37, 112, 114, 101, 99, 32, 78, 32, 123, 32, 36, 36, 32, 61, 32, 36, 50, 32, 125, 59, 32, 115, 58, 32, 59] }
abbrev exB2 : ByteArray := { data := #[37, 37, 32, 101, 58, 32, 40, 32, 58] }
abbrev exB3 : ByteArray := { data := #[37, 108, 101, 102, 116, 32, 60, 105, 110, 116, 62, 32, 80, 59] }
theorem ex_says : SaysR exB1.data.toList (.ok exX 26) := .good exS_toks ex_text
theorem ex_says2 : SaysR exB2.data.toList (.bad 102 6) := .good exS2_toks ex_text2
theorem ex_says3 : SaysR exB3.data.toList (.bad 102 6) := .good exS3_toks ex_text3
/-- blocks made one behind the other -/
def allocs (w : World) : List Obj → World
  | [] => w
  | o :: os => allocs (w.alloc o) os
theorem allocs_below (w : World) : ∀ (os : List Obj) (u : World), w.heap.size ≤ u.heap.size → Below w.heap.size w u → Below w.heap.size w (allocs u os)
  | [], u, _, h => h
  | o :: os, u, hs, h => allocs_below w os (u.alloc o) (by simp; omega) (h.alloc hs o)
theorem allocs_get : ∀ (os : List Obj) (w : World) (i : Nat) (o : Obj), os[i]? = some o → (allocs w os).heap[w.heap.size + i]? = some o
  | [], w, i, o, h => by simp at h
  | p :: os, w, 0, o, h => by
    obtain rfl : p = o := by simpa using h
    have hb := allocs_below (w.alloc p) os (w.alloc p) (Nat.le_refl _) (Below.refl _ _)
    exact (hb.block _ (by simp)).trans (heap_alloc_new w p)
  | p :: os, w, i + 1, o, h => by
    have := allocs_get os (w.alloc p) i o (by simpa using h)
    have hs : (w.alloc p).heap.size = w.heap.size + 1 := by simp
    rw [hs] at this
    rw [show w.heap.size + (i + 1) = w.heap.size + 1 + i by omega]
    exact this
/-- cells read as data, one by one -/
def AllR (w : World) : List Dat → List Value → Prop
  | [], _ => True
  | _ :: _, [] => False
  | d :: ds, v :: vs => Reads w d v ∧ AllR w ds vs
theorem readsL_block {w : World} {b : Nat} {cs : Array Value} {t : TypeId} {fr : Nat × Nat} (h : w.heap[b]? = some (.cells cs t fr)) : ∀ (ds : List Dat) (o : Nat) (vs : List Value), cs.toList.drop o = vs → AllR w ds vs → ReadsL w b o ds
  | [], o, vs, _, _ => by rw [ReadsL.nil]; trivial
  | d :: ds, o, [], _, ha => ha.elim
  | d :: ds, o, v :: vs, hv, ha => by
    have ho : cs.toList[o]? = some v := by
      have := congrArg List.head? hv
      simpa using this
    rw [ReadsL.cons]
    refine ⟨⟨v, ?_, ha.1⟩, readsL_block h ds (o + 1) vs ?_ ha.2⟩
    · have := cell_of_row w b o cs t fr h
      rw [this]; simpa using ho
    · rw [← List.drop_drop, hv]; rfl
theorem rd_row {w : World} {b n S c : Nat} {E : TypeId} {items : List Dat} {cs : Array Value} {t : TypeId} {fr : Nat × Nat} (h : w.heap[b]? = some (.cells cs t fr)) (hl : items.length = n * S) (hn : n ≤ 1000) (ha : AllR w items cs.toList) : Reads w (.row E S n items) (.slice (some ⟨b, 0, none⟩) n c) :=
  Reads.row_iff.2 ⟨hl, by unfold maxLen; omega, _, c, rfl, .inr ⟨b, 0, rfl, readsL_block h items 0 _ (by simp) ha⟩⟩
theorem rd_lit {w : World} {v : Value} : Reads w (.lit v) v := Reads.lit_iff.2 rfl
theorem rd_nil {w : World} {E : TypeId} {S : Nat} : Reads w (.row E S 0 []) (.slice none 0 0) := Reads.row_iff.2 ⟨by simp, Nat.zero_le _, none, 0, rfl, .inl ⟨rfl, rfl, rfl⟩⟩
abbrev wantO (h : Nat) (v0 v1 : Value) : List Obj := [.cells #[v0, v1] 39, .cells #[.int .i64 0, .int .i64 0] 26, .cells #[.string { data := #[88] }, .slice none 0 0, .int .i64 31] 54,
  .cells #[.string { data := #[108] }, .slice (some ⟨h + 1 + 1, 0, none⟩) 1 1, .int .i64 29, .string { data := #[78] }, .slice none 0 0, .int .i64 34] 54,
  .cells #[.string { data := #[88] }, .slice none 0 0, .int .i64 25] 54,
  .cells #[.slice (some ⟨h + 1 + 1 + 1 + 1, 0, none⟩) 1 1, .string { data := #[] }, .bool false, .string { data := #[] }, .int .i64 0, .int .i64 25, .slice (some ⟨h + 1 + 1 + 1, 0, none⟩) 2 2, .string { data := #[78] }, .bool true, .string { data := #[32, 36, 36, 32, 61, 32, 36, 50, 32] }, .int .i64 45, .int .i64 29] 51,
  .cells #[.string { data := #[78] }] 9,
  .cells #[.string { data := #[116, 111, 107, 101, 110] }, .string { data := #[105, 110, 116] }, .slice (some ⟨h + 1 + 1 + 1 + 1 + 1 + 1, 0, none⟩) 1 1, .int .i64 0] 45,
  .cells #[.string { data := #[88] }] 9,
  .cells #[.slice none 0 0, .string { data := #[] }, .bool false, .string { data := #[] }, .int .i64 0, .int .i64 60] 51,
  .cells #[.string { data := #[108] }, .slice (some ⟨h + 1 + 1 + 1 + 1 + 1 + 1 + 1 + 1, 0, none⟩) 1 1, .slice (some ⟨h + 1 + 1 + 1 + 1 + 1, 0, none⟩) 2 2, .int .i64 19, .string { data := #[115] }, .slice none 0 0, .slice (some ⟨h + 1 + 1 + 1 + 1 + 1 + 1 + 1 + 1 + 1, 0, none⟩) 1 1, .int .i64 57] 48,
  .cells #[.slice (some ⟨h + 1 + 1 + 1 + 1 + 1 + 1 + 1, 0, none⟩) 1 1, .slice (some ⟨h + 1 + 1 + 1 + 1 + 1 + 1 + 1 + 1 + 1 + 1, 0, none⟩) 2 2] 39]
theorem want_reads (w : World) (v0 v1 : Value) : Reads (allocs w (wantO w.heap.size v0 v1)) (.row 45 4 exX.decls.length (desD exX.decls)) (.slice (some ⟨w.heap.size + 1 + 1 + 1 + 1 + 1 + 1 + 1, 0, none⟩) 1 1) ∧
    Reads (allocs w (wantO w.heap.size v0 v1)) (.row 48 4 exX.rules.length (rusD exX.rules)) (.slice (some ⟨w.heap.size + 1 + 1 + 1 + 1 + 1 + 1 + 1 + 1 + 1 + 1, 0, none⟩) 2 2) := by
  have G := fun i o h => allocs_get (wantO w.heap.size v0 v1) w i o h
  have r2 : Reads (allocs w (wantO w.heap.size v0 v1)) (.row 54 3 1 (wdsD [.mk [88] [] 31])) (.slice (some ⟨w.heap.size + 2, 0, none⟩) 1 1) := rd_row (G 2 _ rfl) (by simp [wdsD, wdD]) (by omega) (by simp only [wdsD, wdD, List.append_nil]; exact ⟨rd_lit, rd_nil, rd_lit, trivial⟩)
  have r3 : Reads (allocs w (wantO w.heap.size v0 v1)) (.row 54 3 2 (wdsD [.mk [108] [.mk [88] [] 31] 29, .mk [78] [] 34])) (.slice (some ⟨w.heap.size + 3, 0, none⟩) 2 2) := rd_row (G 3 _ rfl) (by simp [wdsD, wdD]) (by omega) (by rw [wdsD_cons, wdsD_cons, wdsD_nil]; simp only [wdD]; exact ⟨rd_lit, r2, rd_lit, rd_lit, (by simpa [wdsD] using rd_nil), rd_lit, trivial⟩)
  have r4 : Reads (allocs w (wantO w.heap.size v0 v1)) (.row 54 3 1 (wdsD [.mk [88] [] 25])) (.slice (some ⟨w.heap.size + 4, 0, none⟩) 1 1) := rd_row (G 4 _ rfl) (by simp [wdsD, wdD]) (by omega) (by simp only [wdsD, wdD, List.append_nil]; exact ⟨rd_lit, rd_nil, rd_lit, trivial⟩)
  have r5 : Reads (allocs w (wantO w.heap.size v0 v1)) (.row 51 6 2 (alsD [exA, exB])) (.slice (some ⟨w.heap.size + 5, 0, none⟩) 2 2) := rd_row (G 5 _ rfl) rfl (by omega) ⟨r4, rd_lit, rd_lit, rd_lit, rd_lit, rd_lit, r3, rd_lit, rd_lit, rd_lit, rd_lit, rd_lit, trivial⟩
  have r6 : Reads (allocs w (wantO w.heap.size v0 v1)) (.row 9 1 1 (nmsD [[78]])) (.slice (some ⟨w.heap.size + 6, 0, none⟩) 1 1) := rd_row (G 6 _ rfl) rfl (by omega) ⟨rd_lit, trivial⟩
  have r8 : Reads (allocs w (wantO w.heap.size v0 v1)) (.row 9 1 1 (nmsD [[88]])) (.slice (some ⟨w.heap.size + 8, 0, none⟩) 1 1) := rd_row (G 8 _ rfl) rfl (by omega) ⟨rd_lit, trivial⟩
  have r9 : Reads (allocs w (wantO w.heap.size v0 v1)) (.row 51 6 1 (alsD [⟨[], [], false, [], 0, 60⟩])) (.slice (some ⟨w.heap.size + 9, 0, none⟩) 1 1) := rd_row (G 9 _ rfl) rfl (by omega) ⟨(by simpa [wdsD] using rd_nil), rd_lit, rd_lit, rd_lit, rd_lit, rd_lit, trivial⟩
  exact ⟨rd_row (G 7 _ rfl) rfl (by decide) ⟨rd_lit, rd_lit, r6, rd_lit, trivial⟩, rd_row (G 10 _ rfl) rfl (by decide) ⟨rd_lit, r8, r5, rd_lit, rd_lit, rd_nil, r9, rd_lit, trivial⟩⟩
theorem want_lit (w : World) (v0 v1 : Value) : Reads ((((((((((((w.alloc (.cells #[v0, v1] 39)).alloc (.cells #[.int .i64 0, .int .i64 0] 26)).alloc (.cells #[.string { data := #[88] }, .slice none 0 0, .int .i64 31] 54)).alloc (.cells #[.string { data := #[108] }, .slice (some ⟨w.heap.size + 1 + 1, 0, none⟩) 1 1, .int .i64 29, .string { data := #[78] }, .slice none 0 0, .int .i64 34] 54)).alloc (.cells #[.string { data := #[88] }, .slice none 0 0, .int .i64 25] 54)).alloc (.cells #[.slice (some ⟨w.heap.size + 1 + 1 + 1 + 1, 0, none⟩) 1 1, .string { data := #[] }, .bool false, .string { data := #[] }, .int .i64 0, .int .i64 25, .slice (some ⟨w.heap.size + 1 + 1 + 1, 0, none⟩) 2 2, .string { data := #[78] }, .bool true, .string { data := #[32, 36, 36, 32, 61, 32, 36, 50, 32] }, .int .i64 45, .int .i64 29] 51)).alloc (.cells #[.string { data := #[78] }] 9)).alloc (.cells #[.string { data := #[116, 111, 107, 101, 110] }, .string { data := #[105, 110, 116] }, .slice (some ⟨w.heap.size + 1 + 1 + 1 + 1 + 1 + 1, 0, none⟩) 1 1, .int .i64 0] 45)).alloc (.cells #[.string { data := #[88] }] 9)).alloc (.cells #[.slice none 0 0, .string { data := #[] }, .bool false, .string { data := #[] }, .int .i64 0, .int .i64 60] 51)).alloc (.cells #[.string { data := #[108] }, .slice (some ⟨w.heap.size + 1 + 1 + 1 + 1 + 1 + 1 + 1 + 1, 0, none⟩) 1 1, .slice (some ⟨w.heap.size + 1 + 1 + 1 + 1 + 1, 0, none⟩) 2 2, .int .i64 19, .string { data := #[115] }, .slice none 0 0, .slice (some ⟨w.heap.size + 1 + 1 + 1 + 1 + 1 + 1 + 1 + 1 + 1, 0, none⟩) 1 1, .int .i64 57] 48)).alloc (.cells #[.slice (some ⟨w.heap.size + 1 + 1 + 1 + 1 + 1 + 1 + 1, 0, none⟩) 1 1, .slice (some ⟨w.heap.size + 1 + 1 + 1 + 1 + 1 + 1 + 1 + 1 + 1 + 1, 0, none⟩) 2 2] 39)) (.row 45 4 exX.decls.length (desD exX.decls)) (.slice (some ⟨w.heap.size + 1 + 1 + 1 + 1 + 1 + 1 + 1, 0, none⟩) 1 1) ∧
    Reads ((((((((((((w.alloc (.cells #[v0, v1] 39)).alloc (.cells #[.int .i64 0, .int .i64 0] 26)).alloc (.cells #[.string { data := #[88] }, .slice none 0 0, .int .i64 31] 54)).alloc (.cells #[.string { data := #[108] }, .slice (some ⟨w.heap.size + 1 + 1, 0, none⟩) 1 1, .int .i64 29, .string { data := #[78] }, .slice none 0 0, .int .i64 34] 54)).alloc (.cells #[.string { data := #[88] }, .slice none 0 0, .int .i64 25] 54)).alloc (.cells #[.slice (some ⟨w.heap.size + 1 + 1 + 1 + 1, 0, none⟩) 1 1, .string { data := #[] }, .bool false, .string { data := #[] }, .int .i64 0, .int .i64 25, .slice (some ⟨w.heap.size + 1 + 1 + 1, 0, none⟩) 2 2, .string { data := #[78] }, .bool true, .string { data := #[32, 36, 36, 32, 61, 32, 36, 50, 32] }, .int .i64 45, .int .i64 29] 51)).alloc (.cells #[.string { data := #[78] }] 9)).alloc (.cells #[.string { data := #[116, 111, 107, 101, 110] }, .string { data := #[105, 110, 116] }, .slice (some ⟨w.heap.size + 1 + 1 + 1 + 1 + 1 + 1, 0, none⟩) 1 1, .int .i64 0] 45)).alloc (.cells #[.string { data := #[88] }] 9)).alloc (.cells #[.slice none 0 0, .string { data := #[] }, .bool false, .string { data := #[] }, .int .i64 0, .int .i64 60] 51)).alloc (.cells #[.string { data := #[108] }, .slice (some ⟨w.heap.size + 1 + 1 + 1 + 1 + 1 + 1 + 1 + 1, 0, none⟩) 1 1, .slice (some ⟨w.heap.size + 1 + 1 + 1 + 1 + 1, 0, none⟩) 2 2, .int .i64 19, .string { data := #[115] }, .slice none 0 0, .slice (some ⟨w.heap.size + 1 + 1 + 1 + 1 + 1 + 1 + 1 + 1 + 1, 0, none⟩) 1 1, .int .i64 57] 48)).alloc (.cells #[.slice (some ⟨w.heap.size + 1 + 1 + 1 + 1 + 1 + 1 + 1, 0, none⟩) 1 1, .slice (some ⟨w.heap.size + 1 + 1 + 1 + 1 + 1 + 1 + 1 + 1 + 1 + 1, 0, none⟩) 2 2] 39)) (.row 48 4 exX.rules.length (rusD exX.rules)) (.slice (some ⟨w.heap.size + 1 + 1 + 1 + 1 + 1 + 1 + 1 + 1 + 1 + 1, 0, none⟩) 2 2) := want_reads w v0 v1
theorem below12 (w : World) (o1 o2 o3 o4 o5 o6 o7 o8 o9 o10 o11 o12 : Obj) : Below w.heap.size w ((((((((((((w.alloc o1).alloc o2).alloc o3).alloc o4).alloc o5).alloc o6).alloc o7).alloc o8).alloc o9).alloc o10).alloc o11).alloc o12) := allocs_below w [o1, o2, o3, o4, o5, o6, o7, o8, o9, o10, o11, o12] w (Nat.le_refl _) (Below.refl _ _)
theorem fault_b {w : World} {m : Int} (hm : w.cell? ⟨0, 0, none⟩ = some (.int .i64 m)) :
    Calls Try.prog 33 #[.string { data := #[37, 37, 32, 101, 58, 32, 40, 32, 58] }, .int .i64 102, .int .i64 6] w fun e w' => e = .returned (.bool true) ∧ Below w.heap.size w w' := fault_text (s := exB2) (x := 102) (p := 6) (by decide) hm ex_says2
theorem fault_c {w : World} {m : Int} (hm : w.cell? ⟨0, 0, none⟩ = some (.int .i64 m)) :
    Calls Try.prog 33 #[.string { data := #[37, 108, 101, 102, 116, 32, 60, 105, 110, 116, 62, 32, 80, 59] }, .int .i64 102, .int .i64 6] w fun e w' => e = .returned (.bool true) ∧ Below w.heap.size w w' := fault_text (s := exB3) (x := 102) (p := 6) (by decide) hm ex_says3
/-- a text in memory, in its two rows -/
theorem tx_rows {w : World} {B : Nat} {x : Tx} {v0 v1 : Value} {bk : List Nat} (h : LiesL w B (txD x) [v0, v1] bk) : ∃ k0 k1, bk = k0 ++ k1 ∧ Lies w B (.row 45 4 x.decls.length (desD x.decls)) v0 k0 ∧ Lies w B (.row 48 4 x.rules.length (rusD x.rules)) v1 k1 := by
  unfold txD at h
  rw [LiesL.cons] at h
  obtain ⟨y0, ys, b1, b2, he, rfl, h1, h2⟩ := h
  rw [LiesL.cons] at h2
  obtain ⟨y1, zs, b3, b4, he2, rfl, h3, h4⟩ := h2
  rw [LiesL.nil] at h4
  obtain ⟨rfl, rfl⟩ := h4
  subst he2
  simp only [List.cons.injEq, and_true] at he
  obtain ⟨rfl, rfl⟩ := he
  exact ⟨b1, b3, by simp, h1, h3⟩
theorem same_want {w1 : World} {da ra : Option Addr} {dc rc : Nat} (R0 : Reads w1 (.row 45 4 exX.decls.length (desD exX.decls)) (.slice da exX.decls.length dc)) (R1 : Reads w1 (.row 48 4 exX.rules.length (rusD exX.rules)) (.slice ra exX.rules.length rc)) :
    Calls Try.prog 17 #[.agg #[.slice da exX.decls.length dc, .slice ra exX.rules.length rc], .agg #[.slice (some ⟨w1.heap.size + 1 + 1 + 1 + 1 + 1 + 1 + 1, 0, none⟩) 1 1, .slice (some ⟨w1.heap.size + 1 + 1 + 1 + 1 + 1 + 1 + 1 + 1 + 1 + 1, 0, none⟩) 2 2]] ((((((((((((w1.alloc (.cells #[(.slice da exX.decls.length dc), (.slice ra exX.rules.length rc)] 39)).alloc (.cells #[.int .i64 0, .int .i64 0] 26)).alloc (.cells #[.string { data := #[88] }, .slice none 0 0, .int .i64 31] 54)).alloc (.cells #[.string { data := #[108] }, .slice (some ⟨w1.heap.size + 1 + 1, 0, none⟩) 1 1, .int .i64 29, .string { data := #[78] }, .slice none 0 0, .int .i64 34] 54)).alloc (.cells #[.string { data := #[88] }, .slice none 0 0, .int .i64 25] 54)).alloc (.cells #[.slice (some ⟨w1.heap.size + 1 + 1 + 1 + 1, 0, none⟩) 1 1, .string { data := #[] }, .bool false, .string { data := #[] }, .int .i64 0, .int .i64 25, .slice (some ⟨w1.heap.size + 1 + 1 + 1, 0, none⟩) 2 2, .string { data := #[78] }, .bool true, .string { data := #[32, 36, 36, 32, 61, 32, 36, 50, 32] }, .int .i64 45, .int .i64 29] 51)).alloc (.cells #[.string { data := #[78] }] 9)).alloc (.cells #[.string { data := #[116, 111, 107, 101, 110] }, .string { data := #[105, 110, 116] }, .slice (some ⟨w1.heap.size + 1 + 1 + 1 + 1 + 1 + 1, 0, none⟩) 1 1, .int .i64 0] 45)).alloc (.cells #[.string { data := #[88] }] 9)).alloc (.cells #[.slice none 0 0, .string { data := #[] }, .bool false, .string { data := #[] }, .int .i64 0, .int .i64 60] 51)).alloc (.cells #[.string { data := #[108] }, .slice (some ⟨w1.heap.size + 1 + 1 + 1 + 1 + 1 + 1 + 1 + 1, 0, none⟩) 1 1, .slice (some ⟨w1.heap.size + 1 + 1 + 1 + 1 + 1, 0, none⟩) 2 2, .int .i64 19, .string { data := #[115] }, .slice none 0 0, .slice (some ⟨w1.heap.size + 1 + 1 + 1 + 1 + 1 + 1 + 1 + 1 + 1, 0, none⟩) 1 1, .int .i64 57] 48)).alloc (.cells #[.slice (some ⟨w1.heap.size + 1 + 1 + 1 + 1 + 1 + 1 + 1, 0, none⟩) 1 1, .slice (some ⟨w1.heap.size + 1 + 1 + 1 + 1 + 1 + 1 + 1 + 1 + 1 + 1, 0, none⟩) 2 2] 39)) fun e w' => e = .returned (.bool true) ∧ Below w1.heap.size w1 w' := by
  have h := want_lit w1 (.slice da exX.decls.length dc) (.slice ra exX.rules.length rc)
  have hb := below12 w1
  refine (same_source (x := exX) (Reads.below (hb _ _ _ _ _ _ _ _ _ _ _ _) R0) h.1 (Reads.below (hb _ _ _ _ _ _ _ _ _ _ _ _) R1) h.2).mono ?_
  rintro e w2 ⟨rfl, hb2⟩
  exact ⟨rfl, (hb _ _ _ _ _ _ _ _ _ _ _ _).trans (hb2.mono (hb _ _ _ _ _ _ _ _ _ _ _ _).size)⟩
end Go.Proofs.Ytelpkldlkpoioaa.Law11B
