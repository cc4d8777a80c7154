/- The reader of grammars' texts: a rule's parts, walked. -/
import Derived.Test.YtelpkldlkpoioaaReadH
import Derived.Test.YtelpkldlkpoioaaTwo
namespace Go.Proofs.Ytelpkldlkpoioaa.ReadI
open Go.RowKit Go.Proofs.Ytelpkldlkpoioaa.Lexy Go.Proofs.Ytelpkldlkpoioaa.LexA Go.Proofs.Ytelpkldlkpoioaa.LexB Go.Proofs.Ytelpkldlkpoioaa.LexC Go.Proofs.Ytelpkldlkpoioaa.LexD Go.Proofs.Ytelpkldlkpoioaa.LexE Go.Proofs.Ytelpkldlkpoioaa.LexF Go.Proofs.Ytelpkldlkpoioaa.LexG Go.Proofs.Ytelpkldlkpoioaa.Heap Go.Proofs.Ytelpkldlkpoioaa.Dat Go.Proofs.Ytelpkldlkpoioaa.Ready Go.Proofs.Ytelpkldlkpoioaa.ReadA Go.Proofs.Ytelpkldlkpoioaa.ReadB Go.Proofs.Ytelpkldlkpoioaa.ReadC Go.Proofs.Ytelpkldlkpoioaa.ReadE Go.Proofs.Ytelpkldlkpoioaa.ReadD Go.Proofs.Ytelpkldlkpoioaa.ReadF Go.Proofs.Ytelpkldlkpoioaa.ReadG Go.Proofs.Ytelpkldlkpoioaa.ReadH Go.Proofs.Ytelpkldlkpoioaa.Cut

/-- names' cells -/
def nmsD (l : List (List UInt8)) : List Dat := l.map fun x => .lit (.string (bs x))
theorem nmsD_len (l : List (List UInt8)) : (nmsD l).length = l.length := by simp [nmsD]
theorem nmsD_snoc (l : List (List UInt8)) (x : List UInt8) : nmsD (l ++ [x]) = nmsD l ++ [.lit (.string (bs x))] := by simp [nmsD]
def alsD : List Al → List Dat
  | [] => []
  | x :: xs => alD x ++ alsD xs
theorem alsD_snoc (xs : List Al) (x : Al) : alsD (xs ++ [x]) = alsD xs ++ alD x := by
  induction xs with
  | nil => simp [alsD]
  | cons y ys ih => simp [alsD, ih]
/-- a rule's cells -/
def ruD (x : Ru) : List Dat := [.lit (.string (bs x.name)), .row 9 1 x.params.length (nmsD x.params), .row 51 6 x.alts.length (alsD x.alts), .lit (.int .i64 (x.at_ : Int))]
theorem strInfo : (Try.prog.info? 9).map (fun i => (i.zero, i.size, i.bytes)) = some (some (.string { data := #[] }), 1, 16) := by kernel_rfl
theorem stInfo : ∃ ti, Try.prog.info? 9 = some ti ∧ ti.zero = some (.string { data := #[] }) ∧ ti.size = 1 ∧ ti.bytes = 16 := by
  obtain ⟨ti0, hi0, hz0, hz1, hz2⟩ := info_parts strInfo
  exact ⟨ti0, hi0, hz0, hz1, hz2⟩
theorem aiInfo : ∃ ti, Try.prog.info? 51 = some ti ∧ ti.zero = some (.agg #[.slice none 0 0, .string { data := #[] }, .bool false, .string { data := #[] }, .int .i64 0, .int .i64 0]) ∧ ti.size = 6 ∧ ti.bytes = 80 := by
  obtain ⟨ti0, hi0, hz0, hz1, hz2⟩ := info_parts altInfo
  exact ⟨ti0, hi0, hz0, hz1, hz2⟩
/-- behind an append: another row, whose blocks are none of it -/
theorem append_other {w wa : World} {B E S n b : Nat} {items : List Dat} {rv v : Value} {bk bo : List Nat} {d : Dat} (hL : Lies w B (.row E S n items) rv bk) (hLo : Lies w B d v bo) (hdis : ∀ j ∈ bo, j ∉ bk) (hb : b < B) (h : w.grownBy wa (some b) ∨ ∃ wx, w.grownBy wx (some b) ∧ wx.grownBy wa rv.ownBlock) : Lies wa B d v bo := by
  have hnb : ∀ j ∈ bo, some j ≠ some b := fun j hj e => by have := (Lies.lt hLo j hj).1; have : j = b := Option.some.inj e; omega
  rcases h with h | ⟨wx, h1, h2⟩
  · exact Lies.kept h hLo hnb
  · refine Lies.kept h2 (Lies.kept h1 hLo hnb) fun j hj e => ?_
    obtain ⟨xs, bs', _, _, hob, _⟩ := hL.own
    rcases hob with ⟨h0, _, _⟩ | ⟨q, hq, hbk⟩
    · rw [h0] at e; cases e
    · have : j = q := Option.some.inj (e.trans hq)
      exact hdis j hj (by rw [hbk, this]; simp)
theorem cells4 {w : World} {b : Nat} {v0 v1 v2 v3 : Value} {t : TypeId} (h : w.heap[b]? = some (.cells #[v0, v1, v2, v3] t (0, 0))) :
    (w.cell? ⟨b, 0, none⟩ = some v0 ∧ w.cell? ⟨b, 1, none⟩ = some v1 ∧ w.cell? ⟨b, 2, none⟩ = some v2 ∧ w.cell? ⟨b, 3, none⟩ = some v3) ∧ (w.frozen? ⟨b, 0, none⟩ = false ∧ w.frozen? ⟨b, 1, none⟩ = false ∧ w.frozen? ⟨b, 2, none⟩ = false ∧ w.frozen? ⟨b, 3, none⟩ = false) :=
  ⟨⟨cell_of_row w b 0 _ t (0, 0) h, cell_of_row w b 1 _ t (0, 0) h, cell_of_row w b 2 _ t (0, 0) h, cell_of_row w b 3 _ t (0, 0) h⟩, frozen_of_row w b 0 _ t h, frozen_of_row w b 1 _ t h, frozen_of_row w b 2 _ t h, frozen_of_row w b 3 _ t h⟩

/-- a rule that is being read -/
structure RuleI (Hx Hr b g c B : Nat) (T : List Tok) (nm : ByteArray) (at_ : Int) (k : Nat) (ps : List (List UInt8)) (zs : List Al) (w : World) : Prop where
  rr : Rr w b g c T k
  hr : w.heap[Hr]? = some (.cells #[.pointer (some ⟨b, 0, none⟩)] 71 (0, 0))
  row : ∃ vp va bp ba, w.heap[Hx]? = some (.cells #[.string nm, vp, va, .int .i64 at_] 48 (0, 0)) ∧ Lies w B (.row 9 1 ps.length (nmsD ps)) vp bp ∧ Lies w B (.row 51 6 zs.length (alsD zs)) va ba ∧ (bp ++ ba).Nodup
  base : B ≤ w.heap.size
theorem RuleI.go {Hx Hr b g c B : Nat} {T : List Tok} {nm : ByteArray} {at_ : Int} {k k' : Nat} {ps : List (List UInt8)} {zs : List Al} {w w' : World} (h : RuleI Hx Hr b g c B T nm at_ k ps zs w) (hB : b < B ∧ g < B ∧ Hx < B ∧ Hr < B) (hne : Hx ≠ b ∧ Hr ≠ b) (hg : w.grownBy w' (some b)) (hR : Rr w' b g c T k') : RuleI Hx Hr b g c B T nm at_ k' ps zs w' := by
  obtain ⟨vp, va, bp, ba, hH, hp, ha, hnd⟩ := h.row
  have key : ∀ {d v bk}, Lies w B d v bk → ∀ j ∈ bk, some j ≠ some b := fun hL j hj e => by have := (Lies.lt hL j hj).1; have : j = b := Option.some.inj e; omega
  exact ⟨hR, (hg.block _ (Array.getElem?_eq_some_iff.1 h.hr).1 (by simp; omega)).trans h.hr, ⟨vp, va, bp, ba, (hg.block _ (Array.getElem?_eq_some_iff.1 hH).1 (by simp; omega)).trans hH, Lies.kept hg hp (key hp), Lies.kept hg ha (key ha), hnd⟩, Nat.le_trans h.base hg.size⟩

/-- a name zs a part: one more -/
def NPS (T : List Tok) (k : Nat) (s : List (List UInt8)) : Ends2 (List (List UInt8)) → Prop
  | .inl (k1, s1) => s.length ≤ k ∧ isK T k 2 = true ∧ k1 = k + 1 ∧ s1 = s ++ [(tok T k).text]
  | .inr (e, p) => s.length ≤ k ∧ isK T k 2 = false ∧ e = 102 ∧ p = (tok T k).at_
/-- an alternative zs a part: one more -/
def APS (T : List Tok) (k : Nat) (s : List Al) : Ends2 (List Al) → Prop
  | .inl (k1, s1) => s.length ≤ k ∧ ∃ x, AltR T k (.ok x k1) ∧ s1 = s ++ [x]
  | .inr (e, p) => s.length ≤ k ∧ AltR T k (.bad e p)

set_option maxRecDepth 100000 in
set_option maxHeartbeats 4000000 in
theorem part1_any {w : World} {b g c Hx Hr B B1 k : Nat} {T : List Tok} {nm : ByteArray} {at_ : Int} {ps : List (List UInt8)} {zs : List Al} {o : Ends2 (List (List UInt8))} (hT2 : T.length ≤ 1000000) (hk : k < T.length)
    (hI : RuleI Hx Hr b g c B T nm at_ k ps zs w) (hB : b < B ∧ g < B ∧ Hx < B ∧ Hr < B) (hne : Hx ≠ b ∧ Hr ≠ b ∧ Hr ≠ Hx ∧ Hx ≠ g) (hB1 : B1 ≤ Hx) (ho : NPS T k ps o) :
    Calls Try.prog 65 #[.pointer (some ⟨Hx, 0, none⟩), .pointer (some ⟨Hr, 0, none⟩)] w (ReadE.Told B1 b w (fun k ps w => RuleI Hx Hr b g c B T nm at_ k ps zs w) o) := by
  obtain ⟨ti0, hi0, hz0, hz1, hz2⟩ := stInfo
  obtain ⟨hR, hHr, ⟨vp, va, bp, ba, hH, hp, ha, hnd⟩, b6⟩ := hI
  obtain ⟨b1, b2, b3, b4⟩ := hB
  obtain ⟨n1, n2, n3, n4⟩ := hne
  obtain ⟨⟨c0, c1, c2, c3⟩, f0, f1, f2, f3⟩ := cells4 hH
  have e2 : w.cell? ⟨Hr, 0, none⟩ = some (.pointer (some ⟨b, 0, none⟩)) := cell_of_row w Hr 0 _ _ _ hHr
  obtain ⟨oa, oc, rfl⟩ := row_slice hp
  have hnd1 := (List.nodup_append.1 hnd).1
  have hdis : ∀ j ∈ ba, j ∉ bp := fun j hj hj' => (List.nodup_append.1 hnd).2.2 j hj' j hj rfl
  have hlen : ps.length ≤ 1000000 := by rcases o with ⟨k1, s1⟩ | ⟨e, p⟩ <;> exact Nat.le_trans ho.1 (by omega)
  go_enter Try.func65, Try.ntmps65
  go_wp2
  refine append8 (α := Unit) (val := fun _ => .string (bs (tok T k).text)) (us := fun _ => [.string (bs (tok T k).text)]) (ds := fun _ => [.lit (.string (bs (tok T k).text))]) (X := fun _ u => o = .inl (k + 1, ps ++ [(tok T k).text]) ∧ Rr u b g c T (k + 1)) (S2 := fun u => u.cell? ⟨Hr, 0, none⟩ = some (.pointer (some ⟨b, 0, none⟩))) (rr := some b) (H := Hx) (fo := 1) (B := B) (bk := bp) (items := nmsD ps) (n := ps.length) (E := 9) (S := 1) (R := 43) (bytes := 16) (ti := ti0) (z := .string { data := #[] }) (v2 := .pointer (some ⟨b, 0, none⟩)) (f := 61) (args := #[.pointer (some ⟨b, 0, none⟩)]) (by kernel_rfl) (by kernel_rfl) loose_body c1 f1 hp hnd1 b3 b6 Try.underlying43 hi0 hz0 hz1 hz2 (by rfl) (by omega) hlen (by omega) ?hus ?y0 ?y1 (by simpa using e2) ?hS2n ?y2 ?y3 ?hc ?y4 (by rfl) ?y5a ?y5b ?y6 ?y7 ?hfin
  case hus => intro x; exact ⟨rfl, rfl, by simp [Value.oneCell']⟩
  case y0 => intro u; go_simp
  case y1 => intro u hu; go_simp
  case y2 => intro u hu; go_simp
  case y3 => intro u; go_simp
  case y4 => intro x u; go_simp
  case y5a => intro x v4; rfl
  case y5b => intro x v4; rfl
  case y6 => intro x v4 v5 u; go_simp
  case y7 => intro x v4 gg cp u h0 h1; go_simp
  case hS2n => intro u o h1; exact (World.cell?_alloc_past _ _ _ (World.block_lt_of_cell? _ _ h1)).trans h1
  case hc =>
    rcases o with ⟨k1, s1⟩ | ⟨e, p⟩
    · obtain ⟨_, h2, rfl, rfl⟩ := ho
      refine (name_t (hR.drewN 1) hk hT2 h2).mono ?_
      rintro e w1 ⟨rfl, hg1, hR1⟩
      have hg : w.grownBy w1 (some b) := kept_b (Below.refl _ w).drew hg1
      exact .inr ⟨(), [], rfl, ⟨rfl, hR1⟩, (World.cell?_of_block (hg.block Hr (by omega) (by simp; omega))).trans e2, ⟨LiesL.lit (LiesL.nil.2 ⟨rfl, rfl⟩), List.nodup_nil, hg, fun j hj => by cases hj; exact ⟨b1, fun e => n1 e.symm⟩⟩⟩
    · obtain ⟨_, h2, rfl, rfl⟩ := ho
      refine (name_f (hR.drewN 1) hk hT2 h2).mono ?_
      rintro e w1 ⟨rfl, hb1⟩
      exact .inl ⟨_, rfl, rfl, rfl, (Bx.refl B1 b w).below ((Below.refl _ w).drew.trans hb1) (by omega)⟩
  case hfin =>
    rintro x w1 wa gg cp bk' v4 ⟨rfl, hR1⟩ ⟨r, hgr, hrb⟩ hgw hL' hnd' hbk hsz hH'
    have hlt := Lies.lt hp
    have hr0 : ∀ j, j < B → some j ≠ r := fun j hj e => by have := (hlt j (hrb j e.symm)).1; omega
    have hbx := append_bx hp b6 hgw
    have hg := Heap.grown_set wa ⟨Hx, 1, none⟩ (.slice (some ⟨gg, 0, none⟩) (ps.length + 1) cp)
    have hoth := append_other hp ha hdis b1 hgw
    go_end0
    refine ⟨rfl, ⟨(hR1.grown hgr (hr0 _ b1) (hr0 _ b2)).grown hg (by simp; omega) (by simp; omega), (hg.block _ (by omega) (by simp; omega)).trans ((hbx.block _ b4 n2).trans hHr), ⟨_, va, bk', ba, heap_setCell_same _ _ 1 _ _ _ ((hbx.block _ b3 n1).trans hH), ?_, Lies.kept hg hoth (fun j hj e => by have := (Lies.lt ha j hj).1; have : j = Hx := Option.some.inj e; omega), ?_⟩, by simp; omega⟩, (bx_less hbx (by omega)).set (.inr (by omega)) 1 _ (by omega)⟩
    · rw [nmsD_snoc, List.length_append]; exact hL'
    · refine List.nodup_append.2 ⟨hnd', (List.nodup_append.1 hnd).2.1, fun i hi j hj e => ?_⟩
      subst e
      rcases hbk i hi with h | h
      · exact hdis i hj h
      · have := (Lies.lt ha i hj).2; omega
set_option maxRecDepth 100000 in
set_option maxHeartbeats 4000000 in
theorem part2_any {w : World} {b g c Hx Hr B B1 k : Nat} {T : List Tok} {nm : ByteArray} {at_ : Int} {ps : List (List UInt8)} {zs : List Al} {o : Ends2 (List Al)} (hAt : ∀ i, (tok T i).at_ ≤ 1000000000) (hT : Ready.Ends T) (hT2 : T.length ≤ 1000000) (hk : k < T.length)
    (hI : RuleI Hx Hr b g c B T nm at_ k ps zs w) (hB : b < B ∧ g < B ∧ Hx < B ∧ Hr < B) (hne : Hx ≠ b ∧ Hr ≠ b ∧ Hr ≠ Hx ∧ Hx ≠ g) (hB1 : B1 ≤ Hx) (ho : APS T k zs o) :
    Calls Try.prog 67 #[.pointer (some ⟨Hx, 0, none⟩), .pointer (some ⟨Hr, 0, none⟩)] w (ReadE.Told B1 b w (fun k zs w => RuleI Hx Hr b g c B T nm at_ k ps zs w) o) := by
  obtain ⟨ti0, hi0, hz0, hz1, hz2⟩ := aiInfo
  obtain ⟨hR, hHr, ⟨vp, va, bp, ba, hH, hp, ha, hnd⟩, b6⟩ := hI
  obtain ⟨b1, b2, b3, b4⟩ := hB
  obtain ⟨n1, n2, n3, n4⟩ := hne
  obtain ⟨⟨c0, c1, c2, c3⟩, f0, f1, f2, f3⟩ := cells4 hH
  have e2 : w.cell? ⟨Hr, 0, none⟩ = some (.pointer (some ⟨b, 0, none⟩)) := cell_of_row w Hr 0 _ _ _ hHr
  obtain ⟨oa, oc, rfl⟩ := row_slice ha
  have hnd1 := (List.nodup_append.1 hnd).2.1
  have hdis : ∀ j ∈ bp, j ∉ ba := fun j hj hj' => (List.nodup_append.1 hnd).2.2 j hj j hj' rfl
  have hlen : zs.length ≤ 1000000 := by rcases o with ⟨k1, s1⟩ | ⟨e, p⟩ <;> exact Nat.le_trans ho.1 (by omega)
  go_enter Try.func67, Try.ntmps67
  go_wp2
  refine append8 (α := Option Addr × Nat × Al) (val := fun x => .agg #[.slice x.1 x.2.2.words.length x.2.1, .string (bs x.2.2.prec), .bool x.2.2.has, .string (bs x.2.2.action), .int .i64 (x.2.2.whr : Int), .int .i64 (x.2.2.at_ : Int)]) (us := fun x => [.slice x.1 x.2.2.words.length x.2.1, .string (bs x.2.2.prec), .bool x.2.2.has, .string (bs x.2.2.action), .int .i64 (x.2.2.whr : Int), .int .i64 (x.2.2.at_ : Int)]) (ds := fun x => alD x.2.2) (X := fun x u => ∃ k1, o = .inl (k1, zs ++ [x.2.2]) ∧ Rr u b g c T k1) (S2 := fun u => u.cell? ⟨Hr, 0, none⟩ = some (.pointer (some ⟨b, 0, none⟩))) (rr := some b) (H := Hx) (fo := 2) (B := B) (bk := ba) (items := alsD zs) (n := zs.length) (E := 51) (S := 6) (R := 46) (bytes := 80) (ti := ti0) (z := .agg #[.slice none 0 0, .string { data := #[] }, .bool false, .string { data := #[] }, .int .i64 0, .int .i64 0]) (v2 := .pointer (some ⟨b, 0, none⟩)) (f := 68) (args := #[.pointer (some ⟨b, 0, none⟩)]) (by kernel_rfl) (by kernel_rfl) loose_body c2 f2 ha hnd1 b3 b6 Try.underlying46 hi0 hz0 hz1 hz2 (by rfl) (by omega) hlen (by omega) ?hus ?y0 ?y1 (by simpa using e2) ?hS2n ?y2 ?y3 ?hc ?y4 (by rfl) ?y5a ?y5b ?y6 ?y7 ?hfin
  case hus => intro x; exact ⟨rfl, rfl, by simp [Value.oneCell']⟩
  case y0 => intro u; go_simp
  case y1 => intro u hu; go_simp
  case y2 => intro u hu; go_simp
  case y3 => intro u; go_simp
  case y4 => intro x u; go_simp
  case y5a => intro x v4; rfl
  case y5b => intro x v4; rfl
  case y6 => intro x v4 v5 u; go_simp
  case y7 => intro x v4 gg cp u h0 h1; go_simp
  case hS2n => intro u o h1; exact (World.cell?_alloc_past _ _ _ (World.block_lt_of_cell? _ _ h1)).trans h1
  case hc =>
    rcases o with ⟨k1, s1⟩ | ⟨e, p⟩
    · obtain ⟨_, x, hx, rfl⟩ := ho
      refine (alt_any hAt hT hT2 (hR.drewN 1) hk hx).mono ?_
      rintro e w1 ⟨vx, vc, bx, rfl, hLx, hndx, hg1, hR1⟩
      have hg : w.grownBy w1 (some b) := kept_b (Below.refl _ w).drew hg1
      refine .inr ⟨(vx, vc, x), bx ++ [], rfl, ⟨_, rfl, hR1⟩, (World.cell?_of_block (hg.block Hr (by omega) (by simp; omega))).trans e2, ⟨LiesL.more hLx (LiesL.lit (LiesL.lit (LiesL.lit (LiesL.lit (LiesL.lit (LiesL.nil.2 ⟨rfl, rfl⟩)))))), by simpa using hndx, hg, fun j hj => by cases hj; exact ⟨b1, fun e => n1 e.symm⟩⟩⟩
    · obtain ⟨_, hx⟩ := ho
      refine (alt_any hAt hT hT2 (hR.drewN 1) hk hx).mono ?_
      rintro e w1 ⟨rfl, hg1⟩
      exact .inl ⟨_, rfl, rfl, rfl, (Bx.refl B1 b w).grown (kept_b (Below.refl _ w).drew hg1) (by omega) (fun j hj => .inl (Option.some.inj hj).symm)⟩
  case hfin =>
    rintro ⟨vx, vc, x⟩ w1 wa gg cp bk' v4 ⟨k1, rfl, hR1⟩ ⟨r, hgr, hrb⟩ hgw hL' hnd' hbk hsz hH'
    have hlt := Lies.lt ha
    have hr0 : ∀ j, j < B → some j ≠ r := fun j hj e => by have := (hlt j (hrb j e.symm)).1; omega
    have hbx := append_bx ha b6 hgw
    have hg := Heap.grown_set wa ⟨Hx, 2, none⟩ (.slice (some ⟨gg, 0, none⟩) (zs.length + 1) cp)
    have hoth := append_other ha hp hdis b1 hgw
    go_end0
    refine ⟨rfl, ⟨(hR1.grown hgr (hr0 _ b1) (hr0 _ b2)).grown hg (by simp; omega) (by simp; omega), (hg.block _ (by omega) (by simp; omega)).trans ((hbx.block _ b4 n2).trans hHr), ⟨vp, _, bp, bk', heap_setCell_same _ _ 2 _ _ _ ((hbx.block _ b3 n1).trans hH), Lies.kept hg hoth (fun j hj e => by have := (Lies.lt hp j hj).1; have : j = Hx := Option.some.inj e; omega), ?_, ?_⟩, by simp; omega⟩, (bx_less hbx (by omega)).set (.inr (by omega)) 2 _ (by omega)⟩
    · rw [alsD_snoc, List.length_append]; exact hL'
    · refine List.nodup_append.2 ⟨(List.nodup_append.1 hnd).1, hnd', fun i hi j hj e => ?_⟩
      subst e
      rcases hbk i hj with h | h
      · exact hdis i hi h
      · have := (Lies.lt hp i hi).2; omega

/-! they are parts -/
theorem words_past {T : List Tok} (hT : Ready.Ends T) {k : Nat} {acc : List Wd} {o : Out (List Wd)} (h : WordsR T k acc o) (hk : k < T.length) : o.past k T.length := by
  induction h with
  | stop _ => exact ⟨Nat.le_refl _, hk⟩
  | fail _ _ => trivial
  | @next k k1 acc x o h1 h2 h3 ih =>
    have a1 := past_word hT h2 hk
    have a2 := ih a1.2
    cases o with
    | ok => exact ⟨by have := a2.1; omega, a2.2⟩
    | bad => trivial
theorem alt_past {T : List Tok} (hT : Ready.Ends T) {k : Nat} {o : Out Al} (h : AltR T k o) (hk : k < T.length) : o.past k T.length := by
  cases h with
  | words _ => trivial
  | prec _ _ => trivial
  | @ok ws k1 k2 q h1 h2 =>
    obtain ⟨a1, a2⟩ := words_past hT h1 hk
    have a3 := precL_past hT a2
    rw [h2] at a3
    obtain ⟨a4, a5⟩ := a3
    have a6 := actL_past (k0 := k) (ws := ws) (q := q) hT a5
    exact ⟨by omega, a6.2⟩
theorem rule_part1 {b g c Hx Hr B B1 : Nat} {T : List Tok} {nm : ByteArray} {at_ : Int} {zs : List Al} (hT : Ready.Ends T) (hT2 : T.length ≤ 1000000) (hB : b < B ∧ g < B ∧ Hx < B ∧ Hr < B) (hne : Hx ≠ b ∧ Hr ≠ b ∧ Hr ≠ Hx ∧ Hx ≠ g) (hB1 : B1 ≤ Hx) :
    Part T b g c B1 65 #[.pointer (some ⟨Hx, 0, none⟩), .pointer (some ⟨Hr, 0, none⟩)] (fun k ps w => RuleI Hx Hr b g c B T nm at_ k ps zs w) (NPS T) where
  enters := fun args w => by go_simp
  reads := fun h => h.rr
  base := fun h => by have := h.base; omega
  keeps := fun h hg hR => h.go hB ⟨hne.1, hne.2.1⟩ hg hR
  past := fun {k s k1 s1} hk h => by
    obtain ⟨_, h2, rfl, _⟩ := h
    have := hT.ltK hk h2
    omega
  part := fun h hk hI => part1_any hT2 hk hI hB hne hB1 h
theorem rule_part2 {b g c Hx Hr B B1 : Nat} {T : List Tok} {nm : ByteArray} {at_ : Int} {ps : List (List UInt8)} (hAt : ∀ i, (tok T i).at_ ≤ 1000000000) (hT : Ready.Ends T) (hT2 : T.length ≤ 1000000) (hB : b < B ∧ g < B ∧ Hx < B ∧ Hr < B) (hne : Hx ≠ b ∧ Hr ≠ b ∧ Hr ≠ Hx ∧ Hx ≠ g) (hB1 : B1 ≤ Hx) :
    Part T b g c B1 67 #[.pointer (some ⟨Hx, 0, none⟩), .pointer (some ⟨Hr, 0, none⟩)] (fun k zs w => RuleI Hx Hr b g c B T nm at_ k ps zs w) (APS T) where
  enters := fun args w => by go_simp
  reads := fun h => h.rr
  base := fun h => by have := h.base; omega
  keeps := fun h hg hR => h.go hB ⟨hne.1, hne.2.1⟩ hg hR
  past := fun {k s k1 s1} hk h => by
    obtain ⟨_, x, hx, _⟩ := h
    exact alt_past hT hx hk
  part := fun h hk hI => part2_any hAt hT hT2 hk hI hB hne hB1 h

/-- a rule's parameters, in the words of parts -/
theorem names_LT {T : List Tok} (hT : Ready.Ends T) {k : Nat} {acc : List (List UInt8)} {o : Out (List (List UInt8))} (h : NamesR T k acc o) (hk : k < T.length) (hl : acc.length ≤ k) :
    match o with | .ok xs k1 => LT T [44] (NPS T) k acc (.inl (k1, xs)) | .bad e p => LT T [44] (NPS T) k acc (.inr (e, p)) := by
  induction h with
  | stop h1 => exact .stop h1
  | @fail k acc h1 h2 => exact .fail h1 ⟨by omega, h2, rfl, rfl⟩
  | @next k acc o h1 h2 h3 ih =>
    have hk1 := hT.ltT hk h1
    have hk2 := hT.ltK hk1 h2
    have := ih hk2 (by simp; omega)
    cases o with
    | ok xs k1 => exact .next h1 ⟨by omega, h2, rfl, rfl⟩ this
    | bad e p => exact .next h1 ⟨by omega, h2, rfl, rfl⟩ this
theorem params_GR {T : List Tok} (hT : Ready.Ends T) {k : Nat} {o : Out (List (List UInt8))} (h : ParamsR T k o) (hk : k < T.length) :
    match o with | .ok xs k1 => GR T (NPS T) k [] (.inl (k1, xs)) | .bad e p => GR T (NPS T) k [] (.inr (e, p)) := by
  cases h with
  | none h1 => exact .none h1
  | first h1 h2 => exact .bad h1 (.fail ⟨by simp, h2, rfl, rfl⟩)
  | rest h1 h2 h3 => exact .bad h1 (.more ⟨by simp, h2, rfl, rfl⟩ (names_LT hT h3 (hT.ltK (hT.ltT hk h1) h2) (by simp <;> omega)))
  | close h1 h2 h3 h4 => exact .close h1 (.more ⟨by simp, h2, rfl, rfl⟩ (names_LT hT h3 (hT.ltK (hT.ltT hk h1) h2) (by simp <;> omega))) h4
  | whole h1 h2 h3 h4 => exact .whole h1 (.more ⟨by simp, h2, rfl, rfl⟩ (names_LT hT h3 (hT.ltK (hT.ltT hk h1) h2) (by simp <;> omega))) h4
theorem alts_LT {T : List Tok} (hT : Ready.Ends T) {k : Nat} {acc : List Al} {o : Out (List Al)} (h : AltsR T k acc o) (hk : k < T.length) (hl : acc.length ≤ k) :
    match o with | .ok xs k1 => LT T [124] (APS T) k acc (.inl (k1, xs)) | .bad e p => LT T [124] (APS T) k acc (.inr (e, p)) := by
  induction h with
  | stop h1 => exact .stop h1
  | fail h1 h2 => exact .fail h1 ⟨by omega, h2⟩
  | @next k k1 acc x o h1 h2 h3 ih =>
    have hk1 := hT.ltT hk h1
    have hp := alt_past hT h2 hk1
    have := ih hp.2 (by have := hp.1; simp; omega)
    cases o with
    | ok xs k2 => exact .next h1 ⟨by omega, x, h2, rfl⟩ this
    | bad e p => exact .next h1 ⟨by omega, x, h2, rfl⟩ this
end Go.Proofs.Ytelpkldlkpoioaa.ReadI
