/- The law's own 'plain' and 'bare': places are turned to nought where a copy lies. (Printed by plain_gen.py.) -/
import Derived.Test.YtelpkldlkpoioaaPutTx
import Derived.Test.YtelpkldlkpoioaaCut
namespace Go.Proofs.Ytelpkldlkpoioaa.Plain12
open Go.RowKit Go.Proofs.Ytelpkldlkpoioaa.Lexy Go.Proofs.Ytelpkldlkpoioaa.LexA Go.Proofs.Ytelpkldlkpoioaa.LexB Go.Proofs.Ytelpkldlkpoioaa.LexC Go.Proofs.Ytelpkldlkpoioaa.LexD Go.Proofs.Ytelpkldlkpoioaa.LexE Go.Proofs.Ytelpkldlkpoioaa.LexF Go.Proofs.Ytelpkldlkpoioaa.LexG Go.Proofs.Ytelpkldlkpoioaa.Heap Go.Proofs.Ytelpkldlkpoioaa.Dat Go.Proofs.Ytelpkldlkpoioaa.Ready Go.Proofs.Ytelpkldlkpoioaa.ReadA Go.Proofs.Ytelpkldlkpoioaa.ReadC Go.Proofs.Ytelpkldlkpoioaa.ReadG Go.Proofs.Ytelpkldlkpoioaa.ReadH Go.Proofs.Ytelpkldlkpoioaa.ReadI Go.Proofs.Ytelpkldlkpoioaa.ReadJ Go.Proofs.Ytelpkldlkpoioaa.ReadM Go.Proofs.Ytelpkldlkpoioaa.ReadO Go.Proofs.Ytelpkldlkpoioaa.Same Go.Proofs.Ytelpkldlkpoioaa.Copy Go.Proofs.Ytelpkldlkpoioaa.PutTx Go.Proofs.Ytelpkldlkpoioaa.Cut

/-- of what was there, these blocks alone are turned -/
structure Chg (S : List Nat) (w w' : World) : Prop where
  os : w'.os = w.os
  tape : w'.tape = w.tape
  output : w'.output = w.output
  size : w.heap.size ≤ w'.heap.size
  block : ∀ i, i < w.heap.size → i ∉ S → w'.heap[i]? = w.heap[i]?
theorem Chg.refl (S : List Nat) (w : World) : Chg S w w := ⟨rfl, rfl, rfl, Nat.le_refl _, fun _ _ _ => rfl⟩
theorem Chg.trans {S S' : List Nat} {w w1 w2 : World} (h : Chg S w w1) (k : Chg S' w1 w2) (hs : ∀ i ∈ S', i ∈ S ∨ w.heap.size ≤ i) : Chg S w w2 :=
  ⟨k.os.trans h.os, k.tape.trans h.tape, k.output.trans h.output, Nat.le_trans h.size k.size, fun i hi hn => (k.block i (by have := h.size; omega) (fun h' => (hs i h').elim hn (by omega))).trans (h.block i hi hn)⟩
theorem Chg.below {w w' : World} (S : List Nat) (h : Below w.heap.size w w') : Chg S w w' := ⟨h.os, h.tape, h.output, h.size, fun i hi _ => h.block i hi⟩
theorem Chg.set {S : List Nat} {w w1 : World} (h : Chg S w w1) {g : Nat} (hg : g ∈ S ∨ w.heap.size ≤ g) (o : Nat) (v : Value) : Chg S w (w1.setCell ⟨g, o, none⟩ v) :=
  ⟨h.os, h.tape, h.output, by simpa using h.size, fun i hi hn => (Below.heap_setCell _ _ _ _ (by rintro rfl; exact hg.elim hn (by omega))).trans (h.block i hi hn)⟩
theorem Chg.toBelow {S : List Nat} {w w' : World} {B : Nat} (h : Chg S w w') (hB : B ≤ w.heap.size) (hS : ∀ i ∈ S, B ≤ i) : Below B w w' :=
  ⟨h.os, h.tape, h.output, h.size, fun i hi => h.block i (by omega) (fun h' => by have := hS i h'; omega)⟩
theorem bareWs_len (l : List Wd) : (bareWs l).length = l.length := by simp [bareWs_map]
/-- words, the first ones bare already -/
def part (l : List Wd) (k : Nat) : List Wd := bareWs (l.take k) ++ l.drop k
theorem part_len (l : List Wd) (k : Nat) : (part l k).length = l.length := by simp [part, bareWs_len]; omega
theorem part_zero (l : List Wd) : part l 0 = l := by simp [part, bareWs]
theorem part_all (l : List Wd) : part l l.length = bareWs l := by simp [part]
theorem part_get (l : List Wd) (k : Nat) (hk : k < l.length) : (part l k)[k]'(by rw [part_len]; exact hk) = l[k] := by
  unfold part
  rw [List.getElem_append_right (by simp [bareWs_len]; omega)]
  simp [bareWs_len, Nat.min_eq_left (Nat.le_of_lt hk)]
theorem part_set (l : List Wd) (k : Nat) (hk : k < l.length) (y : Wd) (hy : y = bareW (l[k])) : (part l k).set k y = part l (k + 1) := by
  unfold part
  rw [List.take_succ_eq_append_getElem hk, bareWs_snoc, List.set_append_right _ _ (by simp [bareWs_len]; omega), bareWs_len, List.length_take, Nat.min_eq_left (Nat.le_of_lt hk), Nat.sub_self, List.drop_eq_getElem_cons hk, List.set_cons_zero, hy, List.append_assoc]
  rfl
theorem res_bare {w : World} {H : Nat} {v0 v1 v2 : Value} {tmps : Array Value} (hH : w.heap[H]? = some (.cells #[v0, v1, v2] 54 (0, 0)))
    (h2 : tmps[2]?.getD undef = .pointer (some ⟨H, 0, none⟩)) : (results Try.f52 tmps).run Try.prog w = .ok (.agg #[v0, v1, v2]) w := by
  obtain ⟨a0, a1, a2, _⟩ := cells3 hH
  simp [results, Try.results52, go_sem, h2, a0, a1, a2]

/-- a word is bared where its arguments lie -/
def BareW (x : Wd) : Prop := ∀ (w : World) (B : Nat) (bk : List Nat) (n : List UInt8) (ws : List Wd) (z : Int) (a : Option Addr) (c : Nat), x = .mk n ws z → Lies w B (.row 54 3 ws.length (wdsD ws)) (.slice a ws.length c) bk → bk.Nodup →
  Calls Try.prog 52 #[.agg #[.string (bs n), .slice a ws.length c, .int .i64 (z : Int)]] w fun e w' => e = .returned (.agg #[.string (bs n), .slice a ws.length c, .int .i64 0]) ∧ Lies w' B (.row 54 3 ws.length (wdsD (bareWs ws))) (.slice a ws.length c) bk ∧ Chg bk w w'
set_option maxRecDepth 100000 in
set_option maxHeartbeats 2000000 in
theorem bare_word {n : List UInt8} {ws : List Wd} {z : Int} (hx : ∀ x ∈ ws, BareW x) : BareW (.mk n ws z) := by
  intro w B bk n' ws' z' a c he hL hnd
  cases he
  have HX := Lib.hid hx; clear hx
  have hlt := Lies.lt hL
  have hb0 := ((Below.refl _ w).alloc (Nat.le_refl _) (.cells #[.string (bs n), .slice a ws.length c, .int .i64 0] 54)).alloc (by simp) (.cells #[.string { data := #[] }, .slice none 0 0, .int .i64 0] 54)
  have hL0 := Lies.new hL hb0
  have g1 := alloc1 w (.cells #[.string (bs n), .slice a ws.length c, .int .i64 0] 54) (.cells #[.string { data := #[] }, .slice none 0 0, .int .i64 0] 54)
  have g2 := alloc2 w (.cells #[.string (bs n), .slice a ws.length c, .int .i64 0] 54) (.cells #[.string { data := #[] }, .slice none 0 0, .int .i64 0] 54)
  have G1 := Lib.hid g1; have G2 := Lib.hid g2; have HL0 := Lib.hid hL0; have HB0 := Lib.hid (Chg.below bk hb0); have HND := Lib.hid hnd
  have HLT := Lib.hid hlt
  have hnm : ws.length ≤ maxLen := by
    obtain ⟨xs, bs', ho, _⟩ := hL.own
    exact own_len ho
  clear g1 g2 hL0 hb0 hL hnd hlt
  unfold maxLen at hnm
  go_enter Try.func52, Try.ntmps52
  go_wp2_with fail
  generalize (w.alloc (.cells #[.string (bs n), .slice a ws.length c, .int .i64 0] 54)).alloc (.cells #[.string { data := #[] }, .slice none 0 0, .int .i64 0] 54) = W0 at *
  go_loopg [3] ws.length (fun gk i wr => ∃ k : Nat, k ≤ ws.length ∧ gk = ws.length - k ∧ i = .int .i64 (k : Int) ∧ wr.heap[w.heap.size]? = some (.cells #[.string (bs n), .slice a ws.length c, .int .i64 0] 54 (0, 0)) ∧ wr.heap[w.heap.size + 1]? = some (.cells #[.string { data := #[] }, .slice none 0 0, .int .i64 0] 54 (0, 0)) ∧ Lies wr B (.row 54 3 ws.length (wdsD (part ws k))) (.slice a ws.length c) bk ∧ Chg bk w wr)
  case atStart => exact ⟨0, by omega, by omega, rfl, G1.out, G2.out, by rw [part_zero]; exact HL0.out, HB0.out⟩
  case round =>
    clear G1 G2 HL0 HB0
    obtain ⟨k, hk, rfl, rfl, hH, hR, hL, hC⟩ := hrel
    obtain ⟨_, c1, _, _, f1, _⟩ := cells3 hH
    by_cases hlt : k < ws.length
    · obtain ⟨n', ws', z', hx⟩ : ∃ n1 l1 z1, ws[k] = Wd.mk n1 l1 z1 := ⟨_, _, _, (wd_eta ws[k])⟩
      have hl0 : k < (part ws k).length := by rw [part_len]; exact hlt
      obtain ⟨g, cap, a', c', b2, hv, hBg, hgl, hN, d0, d1, d2, hfr, hLw, hnd2, hgb, hg2, hsub, hput⟩ := word_at hL HND.out hl0 (show (part ws k)[k] = _ by rw [part_get ws k hlt]; exact hx)
      cases hv
      have HE := Lib.hid (HX.out _ (List.getElem_mem hlt)); have HH := Lib.hid hx
      have hgH : g < w.heap.size := (HLT.out g hgb).2
      have hHl := (Array.getElem?_eq_some_iff.1 hH).1
      have hRl := (Array.getElem?_eq_some_iff.1 hR).1
      have F0 := hfr (k * 3); have F1 := hfr (k * 3 + 1); have F2 := hfr (k * 3 + 2)
      have HP := Lib.hid hput; have HLW := Lib.hid hLw; have HC := Lib.hid hC; have KH := Lib.hid hH; have KR := Lib.hid hR
      have HPS := Lib.hid (part_set ws k hlt (.mk n' (bareWs ws') 0) (by rw [hx]; simp only [bareW]))
      clear hput hLw hL hC hH hR hx hfr
      have j0 : (0 : Int) ≤ (k : Int) := by omega
      have j1 : (k : Int) < (ws.length : Int) := by omega
      go_wp2_with fail
      refine wp_region_mix (l1 := [_, _, _, _, _, _, _, _, _]) (l2 := [_, _]) [true, true, true, true, true, true, true, true, false] (fun u => u.cell? ⟨w.heap.size, 1, none⟩ = some (.slice (some ⟨g, 0, none⟩) ws.length c) ∧ u.cell? ⟨g, k * 3, none⟩ = some (.string (bs n')) ∧ u.cell? ⟨g, k * 3 + 1, none⟩ = some (.slice a' ws'.length c') ∧ u.cell? ⟨g, k * 3 + 2, none⟩ = some (.int .i64 (z' : Int))) (by kernel_rfl) (by kernel_rfl) (by repeat (first | refine loose_then ?_ | refine loose_block ?_ | exact loose_body (P := Try.prog) (fn := Try.f52))) ⟨c1, d0, d1, d2⟩ ?_
      refine mix_take (.pointer (some ⟨w.heap.size, 1, none⟩)) (want_none rfl) (fun u hu => by go_simp) ?_
      refine mix_take (.slice (some ⟨g, 0, none⟩) ws.length c) (want_none rfl) (fun u hu => by obtain ⟨h1, h2, h3, h4⟩ := hu; go_simp) ?_
      refine mix_take (.int .i64 (k : Int)) (want_none rfl) (fun u hu => by go_simp) ?_
      refine mix_take (.pointer (some ⟨w.heap.size, 1, none⟩)) (want_none rfl) (fun u hu => by go_simp) ?_
      refine mix_take (.slice (some ⟨g, 0, none⟩) ws.length c) (want_none rfl) (fun u hu => by obtain ⟨h1, h2, h3, h4⟩ := hu; go_simp) ?_
      refine mix_take (.int .i64 (k : Int)) (want_none rfl) (fun u hu => by go_simp) ?_
      refine mix_take (.pointer (some ⟨g, k * 3, none⟩)) (want_none rfl) (fun u hu => by go_simp) ?_
      refine mix_take (.agg #[.string (bs n'), .slice a' ws'.length c', .int .i64 (z' : Int)]) (want_none rfl) (fun u hu => by obtain ⟨h1, h2, h3, h4⟩ := hu; go_simp) ?_
      refine mix_go (want_none rfl) fun K hK => wp_go (f := 52) (args := #[.agg #[.string (bs n'), .slice a' ws'.length c', .int .i64 (z' : Int)]]) (by go_simp) ((HE.out wr.drew _ _ _ _ _ _ _ HH.out (Lies.new HLW.out ((Below.refl _ _).drew)) hnd2).mono ?_)
      rintro e w2 ⟨rfl, hL2, hC2'⟩
      have hC2 : Chg b2 wr w2 := (Chg.below b2 ((Below.refl _ wr).drew)).trans hC2' (fun i hi => .inl hi)
      have hb2 : ∀ i ∈ bk, i ∉ b2 → w2.heap[i]? = wr.heap[i]? := fun i hi hn => hC2.block i (by have := (HLT.out i hi).2; have := HC.out.size; omega) hn
      have hH2 : w2.heap[w.heap.size]? = _ := (hC2.block _ hHl (fun hh => by have := (HLT.out _ (hsub _ hh)).2; omega)).trans KH.out
      have hR2 : w2.heap[w.heap.size + 1]? = _ := (hC2.block _ hRl (fun hh => by have := (HLT.out _ (hsub _ hh)).2; omega)).trans KR.out
      have hg2' := hb2 g hgb hg2
      have e1 := (cells3 hH2).2.1
      have y0 := (World.cell?_of_block hg2').trans d0; have y1 := (World.cell?_of_block hg2').trans d1; have y2 := (World.cell?_of_block hg2').trans d2
      have x0 := (World.frozen?_of_block hg2').trans F0; have x1 := (World.frozen?_of_block hg2').trans F1; have x2 := (World.frozen?_of_block hg2').trans F2
      refine hK.out _ _ ⟨e1, y0, y1, y2⟩ ?_
      show wpList _ _ _ _ _ _
      have hfin := HP.out w2 (bareWs ws') (bareWs_len _) hb2 hL2
      rw [HPS.out] at hfin
      have HF := Lib.hid hfin
      have HC3 := Lib.hid ((((HC.out.trans hC2 (fun i hi => .inl (hsub i hi))).set (.inl hgb) (k * 3) (.string (bs n'))).set (.inl hgb) (k * 3 + 1) (.slice a' ws'.length c')).set (.inl hgb) (k * 3 + 2) (.int .i64 0))
      have hne : w.heap.size ≠ g := by omega
      have hne2 : w.heap.size + 1 ≠ g := by omega
      have KH3 := Lib.hid (((Below.heap_setCell _ ⟨g, k * 3 + 2, none⟩ (.int .i64 0) _ hne).trans ((Below.heap_setCell _ ⟨g, k * 3 + 1, none⟩ (.slice a' ws'.length c') _ hne).trans (Below.heap_setCell w2 ⟨g, k * 3, none⟩ (.string (bs n')) _ hne))).trans hH2)
      have KR3 := Lib.hid (((Below.heap_setCell _ ⟨g, k * 3 + 2, none⟩ (.int .i64 0) _ hne2).trans ((Below.heap_setCell _ ⟨g, k * 3 + 1, none⟩ (.slice a' ws'.length c') _ hne2).trans (Below.heap_setCell w2 ⟨g, k * 3, none⟩ (.string (bs n')) _ hne2))).trans hR2)
      clear hfin hH2 hR2 hb2 hL2 hC2 hg2' hK
      go_wp2_with fail
      go_roundg (ws.length - (k + 1))
      case measure => omega
      case rel => exact ⟨k + 1, by omega, rfl, by go_num, KH3.out, KR3.out, HF.out, HC3.out⟩
    · obtain rfl : k = ws.length := by omega
      obtain ⟨_, _, _, t0, t1, t2⟩ := cells3 hR
      have KR := Lib.hid hR; have HL := Lib.hid hL; have HC := Lib.hid hC; clear hR hL hC
      go_wp2_with fail
      refine bodyPost_ret (res_bare (tok3h KR.out _ _ _) rfl) rfl ?_
      have hr : ∀ b ∈ bk, some b ≠ some (w.heap.size + 1) := fun b hb e => by have := (HLT.out b hb).2; have : b = w.heap.size + 1 := Option.some.inj e; omega
      have hL1 := HL.out
      rw [part_all] at hL1
      exact ⟨rfl, Lies.kept (Heap.grown_set _ ⟨w.heap.size + 1, 2, none⟩ _) (Lies.kept (Heap.grown_set _ ⟨w.heap.size + 1, 1, none⟩ _) (Lies.kept (Heap.grown_set _ ⟨w.heap.size + 1, 0, none⟩ _) hL1 hr) hr) hr, ((HC.out.set (.inr (by omega)) 0 _).set (.inr (by omega)) 1 _).set (.inr (by omega)) 2 _⟩
mutual
theorem bare_w : ∀ x : Wd, BareW x
  | .mk _ ws _ => bare_word (bare_ws ws)
theorem bare_ws : ∀ l : List Wd, ∀ x ∈ l, BareW x
  | [], x, h => by cases h
  | y :: ys, x, h => by
    rcases List.mem_cons.1 h with e | h
    · rw [e]; exact bare_w y
    · exact bare_ws ys x h
end
/-! plain -/
/-- a list, the first ones turned; and with one put at its place -/
def turned {X : Type} (f : X → X) (l : List X) (i : Nat) : List X := (l.take i).map f ++ l.drop i
def turnAt {X : Type} (f : X → X) (l : List X) (i : Nat) (y : X) : List X := (l.take i).map f ++ y :: l.drop (i + 1)
theorem turned_zero {X : Type} (f : X → X) (l : List X) : turned f l 0 = l := by simp [turned]
theorem turned_all {X : Type} (f : X → X) (l : List X) : turned f l l.length = l.map f := by simp [turned]
theorem turned_at {X : Type} (f : X → X) (l : List X) (i : Nat) (hi : i < l.length) : turned f l i = turnAt f l i (l[i]) := by
  unfold turned turnAt; rw [List.drop_eq_getElem_cons hi]
theorem turned_next {X : Type} (f : X → X) (l : List X) (i : Nat) (hi : i < l.length) : turnAt f l i (f (l[i])) = turned f l (i + 1) := by
  unfold turned turnAt; rw [List.take_succ_eq_append_getElem hi, List.map_append, List.append_assoc]; rfl
theorem turnAt_len {X : Type} (f : X → X) (l : List X) (i : Nat) (y : X) (hi : i < l.length) : (turnAt f l i y).length = l.length := by simp [turnAt]; omega
theorem turnAt_get {X : Type} (f : X → X) (l : List X) (i : Nat) (y : X) (hi : i < l.length) : (turnAt f l i y)[i]'(by rw [turnAt_len f l i y hi]; exact hi) = y := by
  unfold turnAt
  rw [List.getElem_append_right (by simp; omega)]
  simp [Nat.min_eq_left (Nat.le_of_lt hi)]
theorem turnAt_set {X : Type} (f : X → X) (l : List X) (i : Nat) (y z : X) (hi : i < l.length) : (turnAt f l i y).set i z = turnAt f l i z := by
  unfold turnAt
  rw [List.set_append_right _ _ (by simp; omega), List.length_map, List.length_take, Nat.min_eq_left (Nat.le_of_lt hi), Nat.sub_self, List.set_cons_zero]
theorem part_turned (l : List Wd) (k : Nat) : part l k = turned bareW l k := by unfold part turned; rw [bareWs_map]
/-- a text whose places are being turned to nought -/
structure PS (w wr : World) (n m : Nat) (D : List De) (R : List Ru) (p0 p1 : Option Addr) (q0 q1 : Nat) (k0 k1 : List Nat) : Prop where
  box : wr.heap[w.heap.size]? = some (.cells #[.slice p0 n q0, .slice p1 m q1] 39 (0, 0))
  res : wr.heap[w.heap.size + 1]? = some (.cells #[.slice none 0 0, .slice none 0 0] 39 (0, 0))
  ld : Lies wr (w.heap.size + 2) (.row 45 4 n (desD D)) (.slice p0 n q0) k0
  lr : Lies wr (w.heap.size + 2) (.row 48 4 m (rusD R)) (.slice p1 m q1) k1
  nd : (k0 ++ k1).Nodup
  below : Below w.heap.size w wr
variable {w wr w2 : World} {n m : Nat} {D D' : List De} {R R' : List Ru} {p0 p1 : Option Addr} {q0 q1 : Nat} {k0 k1 : List Nat}
theorem PS.rule (h : PS w wr n m D R p0 p1 q0 q1 k0 k1) (hC : Chg k1 wr w2) (hL : Lies w2 (w.heap.size + 2) (.row 48 4 m (rusD R')) (.slice p1 m q1) k1) : PS w w2 n m D R' p0 p1 q0 q1 k0 k1 := by
  have hr := Lies.lt h.lr
  have hd := Lies.lt h.ld
  exact ⟨(hC.block _ (Array.getElem?_eq_some_iff.1 h.box).1 (fun hh => by have := (hr _ hh).1; omega)).trans h.box, (hC.block _ (Array.getElem?_eq_some_iff.1 h.res).1 (fun hh => by have := (hr _ hh).1; omega)).trans h.res,
    Lies.same h.ld (fun i hi => hC.block i (hd i hi).2 (fun hh => (List.nodup_append.1 h.nd).2.2 i hi i hh rfl)), hL, h.nd, h.below.trans (hC.toBelow h.below.size (fun i hi => by have := (hr i hi).1; omega))⟩
theorem PS.decl (h : PS w wr n m D R p0 p1 q0 q1 k0 k1) (hC : Chg k0 wr w2) (hL : Lies w2 (w.heap.size + 2) (.row 45 4 n (desD D')) (.slice p0 n q0) k0) : PS w w2 n m D' R p0 p1 q0 q1 k0 k1 := by
  have hr := Lies.lt h.lr
  have hd := Lies.lt h.ld
  exact ⟨(hC.block _ (Array.getElem?_eq_some_iff.1 h.box).1 (fun hh => by have := (hd _ hh).1; omega)).trans h.box, (hC.block _ (Array.getElem?_eq_some_iff.1 h.res).1 (fun hh => by have := (hd _ hh).1; omega)).trans h.res,
    hL, Lies.same h.lr (fun i hi => hC.block i (hr i hi).2 (fun hh => (List.nodup_append.1 h.nd).2.2 i hh i hi rfl)), h.nd, h.below.trans (hC.toBelow h.below.size (fun i hi => by have := (hd i hi).1; omega))⟩
/-- an alternative of a rule -/
theorem deep_at {B i k : Nat} {l : List Ru} {y : Ru} {v : Value} {bk : List Nat} (h : Lies wr B (.row 48 4 m (rusD (turnAt plainR l i y))) v bk) (hnd : bk.Nodup) (hi : i < l.length) (hk : k < y.alts.length) :
    ∃ gr capr ga ca aw cw b3, v = .slice (some ⟨gr, 0, none⟩) m capr ∧ B ≤ gr ∧ gr < wr.heap.size ∧ m ≤ maxLen ∧ wr.cell? ⟨gr, i * 4 + 2, none⟩ = some (.slice (some ⟨ga, 0, none⟩) y.alts.length ca) ∧ B ≤ ga ∧ ga < wr.heap.size ∧ y.alts.length ≤ maxLen ∧ (y.alts[k]).words.length ≤ maxLen ∧ wr.cell? ⟨ga, k * 6, none⟩ = some (.slice aw (y.alts[k]).words.length cw) ∧
      (∃ u, wr.cell? ⟨ga, k * 6 + 4, none⟩ = some u) ∧ (∃ u, wr.cell? ⟨ga, k * 6 + 5, none⟩ = some u) ∧ wr.frozen? ⟨ga, k * 6 + 4, none⟩ = false ∧ wr.frozen? ⟨ga, k * 6 + 5, none⟩ = false ∧ ga ∈ bk ∧ gr ∈ bk ∧ ga ∉ b3 ∧ gr ∉ b3 ∧ gr ≠ ga ∧ (∀ j ∈ b3, j ∈ bk) ∧ b3.Nodup ∧
      Lies wr B (.row 54 3 (y.alts[k]).words.length (wdsD (y.alts[k]).words)) (.slice aw (y.alts[k]).words.length cw) b3 ∧
      Lies ((wr.setCell ⟨ga, k * 6 + 5, none⟩ (.int .i64 0)).setCell ⟨ga, k * 6 + 4, none⟩ (.int .i64 0)) B (.row 48 4 m (rusD (turnAt plainR l i { y with alts := y.alts.set k { y.alts[k] with at_ := 0, whr := 0 } }))) v bk ∧
      ∀ (w2 : World) (zs : List Wd), zs.length = (y.alts[k]).words.length → (∀ j ∈ bk, j ∉ b3 → w2.heap[j]? = wr.heap[j]?) → Lies w2 B (.row 54 3 (y.alts[k]).words.length (wdsD zs)) (.slice aw (y.alts[k]).words.length cw) b3 →
        Lies w2 B (.row 48 4 m (rusD (turnAt plainR l i { y with alts := y.alts.set k { y.alts[k] with words := zs } }))) v bk := by
  have hi' : i < (turnAt plainR l i y).length := by rw [turnAt_len _ _ _ _ hi]; exact hi
  have hget := turnAt_get plainR l i y hi
  obtain ⟨gr, capr, a, c, b2, rfl, hBr, hgr, hN, hgb, hg2, hsub, hnd2, _, hc2, _, hla, _, hput⟩ := rule_at h hnd hi'
  simp only [hget] at hc2 hla hput
  obtain ⟨ga, capa, aw, cw, b3, hv, hBa, hga, hNa, hgab, hga3, hsub3, hnd3, h4, h5, hw, f4, f5, hlw, hz, hputw⟩ := alt_at hla hnd2 hk
  cases hv
  have hset : ∀ zs, (turnAt plainR l i y).set i { y with alts := zs } = turnAt plainR l i { y with alts := zs } := fun zs => turnAt_set plainR l i y _ hi
  have hNw : (y.alts[k]).words.length ≤ maxLen := by
    obtain ⟨xs, bs', ho, _⟩ := hlw.own
    exact own_len ho
  refine ⟨gr, capr, ga, _, aw, cw, b3, rfl, hBr, hgr, hN, hc2, hBa, hga, hNa, hNw, hw, h4, h5, f4, f5, hsub _ hgab, hgb, hga3, fun hh => hg2 (hsub3 _ hh), fun e => hg2 (e ▸ hgab), fun j hj => hsub _ (hsub3 j hj), hnd3, hlw, ?_, fun w2 zs hl hs hw2 => ?_⟩
  · have := hput _ (y.alts.set k { y.alts[k] with at_ := 0, whr := 0 }) (by simp) (fun j hj hn => ?_) hz
    · rw [hset] at this; exact this
    · have hne : j ≠ ga := fun e => hn (e ▸ hgab)
      exact (Below.heap_setCell _ _ _ _ hne).trans (Below.heap_setCell _ _ _ _ hne)
  · have h1 := hputw w2 zs hl (fun j hj hn => hs j (hsub j hj) hn) hw2
    have := hput w2 (y.alts.set k { y.alts[k] with words := zs }) (by simp) (fun j hj hn => hs j hj (fun h3 => hn (hsub3 j h3))) h1
    rw [hset] at this; exact this
/-- .. of the rule that is being turned -/
theorem deep2 {B i k : Nat} {l : List Ru} {y : Ru} {z : Al} {v : Value} {bk : List Nat} (h : Lies wr B (.row 48 4 m (rusD (turnAt plainR l i { y with at_ := 0, alts := turnAt plainA y.alts k z }))) v bk) (hnd : bk.Nodup) (hi : i < l.length) (hk : k < y.alts.length) :
    ∃ gr capr ga ca aw cw b3, v = .slice (some ⟨gr, 0, none⟩) m capr ∧ B ≤ gr ∧ gr < wr.heap.size ∧ m ≤ maxLen ∧ wr.cell? ⟨gr, i * 4 + 2, none⟩ = some (.slice (some ⟨ga, 0, none⟩) y.alts.length ca) ∧ B ≤ ga ∧ ga < wr.heap.size ∧ y.alts.length ≤ maxLen ∧ z.words.length ≤ maxLen ∧ wr.cell? ⟨ga, k * 6, none⟩ = some (.slice aw z.words.length cw) ∧
      (∃ u, wr.cell? ⟨ga, k * 6 + 4, none⟩ = some u) ∧ (∃ u, wr.cell? ⟨ga, k * 6 + 5, none⟩ = some u) ∧ wr.frozen? ⟨ga, k * 6 + 4, none⟩ = false ∧ wr.frozen? ⟨ga, k * 6 + 5, none⟩ = false ∧ ga ∈ bk ∧ gr ∈ bk ∧ ga ∉ b3 ∧ gr ∉ b3 ∧ gr ≠ ga ∧ (∀ j ∈ b3, j ∈ bk) ∧ b3.Nodup ∧
      Lies wr B (.row 54 3 z.words.length (wdsD z.words)) (.slice aw z.words.length cw) b3 ∧
      Lies ((wr.setCell ⟨ga, k * 6 + 5, none⟩ (.int .i64 0)).setCell ⟨ga, k * 6 + 4, none⟩ (.int .i64 0)) B (.row 48 4 m (rusD (turnAt plainR l i { y with at_ := 0, alts := turnAt plainA y.alts k { z with at_ := 0, whr := 0 } }))) v bk ∧
      ∀ (w2 : World) (zs : List Wd), zs.length = z.words.length → (∀ j ∈ bk, j ∉ b3 → w2.heap[j]? = wr.heap[j]?) → Lies w2 B (.row 54 3 z.words.length (wdsD zs)) (.slice aw z.words.length cw) b3 →
        Lies w2 B (.row 48 4 m (rusD (turnAt plainR l i { y with at_ := 0, alts := turnAt plainA y.alts k { z with words := zs } }))) v bk := by
  have hk' : k < (turnAt plainA y.alts k z).length := by rw [turnAt_len _ _ _ _ hk]; exact hk
  have := deep_at h hnd hi (show k < ({ y with at_ := 0, alts := turnAt plainA y.alts k z } : Ru).alts.length from hk')
  simpa only [turnAt_get _ _ _ _ hk, turnAt_set _ _ _ _ _ hk, turnAt_len _ _ _ _ hk] using this
theorem res_plain {w : World} {H : Nat} {v0 v1 : Value} {tmps : Array Value} (hH : w.heap[H]? = some (.cells #[v0, v1] 39 (0, 0)))
    (h2 : tmps[2]?.getD undef = .pointer (some ⟨H, 0, none⟩)) : (results Try.f24 tmps).run Try.prog w = .ok (.agg #[v0, v1]) w := by
  have a0 := cell_of_row w H 0 _ _ _ hH
  have a1 := cell_of_row w H 1 _ _ _ hH
  simp at a0 a1
  simp [results, Try.results24, go_sem, h2, a0, a1]
set_option maxRecDepth 100000 in
set_option maxHeartbeats 4000000 in
theorem plain_any {x : Tx} (hx : TxOk x) {w : World} {s1 s2 : Value} (h1 : Reads w (.row 45 4 x.decls.length (desD x.decls)) s1) (h2 : Reads w (.row 48 4 x.rules.length (rusD x.rules)) s2) :
    Calls Try.prog 24 #[.agg #[s1, s2]] w fun e w' => ∃ (p0 : Option Addr) (q0 : Nat) (k0 : List Nat) (p1 : Option Addr) (q1 : Nat) (k1 : List Nat), e = .returned (.agg #[.slice p0 x.decls.length q0, .slice p1 x.rules.length q1]) ∧ Lies w' w.heap.size (.row 45 4 x.decls.length (desD (plainT x).decls)) (.slice p0 x.decls.length q0) k0 ∧ Lies w' w.heap.size (.row 48 4 x.rules.length (rusD (plainT x).rules)) (.slice p1 x.rules.length q1) k1 ∧ (k0 ++ k1).Nodup ∧ Below w.heap.size w w' := by
  obtain ⟨a1, c1, rfl⟩ := Reads.slice h1
  obtain ⟨a2, c2, rfl⟩ := Reads.slice h2
  have hb0 := ((Below.refl _ w).alloc (Nat.le_refl _) (.cells #[.slice a1 x.decls.length c1, .slice a2 x.rules.length c2] 39)).alloc (by simp) (.cells #[.slice none 0 0, .slice none 0 0] 39)
  have HC := Lib.hid (fun (w : World) (s1 s2 : Value) => copy_source (w := w) (s1 := s1) (s2 := s2) hx)
  have H1 := Lib.hid (Reads.below hb0 h1); have H2 := Lib.hid (Reads.below hb0 h2); clear h1 h2
  have g1 := alloc1 w (.cells #[.slice a1 x.decls.length c1, .slice a2 x.rules.length c2] 39) (.cells #[.slice none 0 0, .slice none 0 0] 39)
  have g2 := alloc2 w (.cells #[.slice a1 x.decls.length c1, .slice a2 x.rules.length c2] 39) (.cells #[.slice none 0 0, .slice none 0 0] 39)
  have hs := size2 w (.cells #[.slice a1 x.decls.length c1, .slice a2 x.rules.length c2] 39) (.cells #[.slice none 0 0, .slice none 0 0] 39)
  have G1 := Lib.hid g1; have G2 := Lib.hid g2; have HS := Lib.hid hs; clear g1 g2 hs
  have hdn := hx.n; have hrn := hx.m
  have hRO := Lib.hid hx.rules
  clear hx
  go_enter Try.func24, Try.ntmps24
  go_wp2_with (go_at_call 40; go_loud (refine (HC.out _ _ _ H1.out H2.out).mono ?_; rintro e w1 ⟨p0, q0, k0, p1, q1, k1, rfl, hL0, hL1, hnd, hb1⟩; rw [HS.out] at hL0 hL1; have hz1 := hb1.size; rw [HS.out] at hz1; have y1 := (hb1.block w.heap.size (by rw [HS.out]; omega)).trans G1.out; have y2 := (hb1.block (w.heap.size + 1) (by rw [HS.out]; omega)).trans G2.out; have hbz := hb0.trans (hb1.mono (by rw [HS.out]; omega)); have Y1 := Lib.hid y1; have Y2 := Lib.hid y2; have L0 := Lib.hid hL0; have L1 := Lib.hid hL1; have HN := Lib.hid hnd; obtain ⟨_, _⟩ := cells2 y1; clear y1 y2 hL0 hL1 hnd))
  have hlt0 := Lies.lt L0.out; have hlt1 := Lies.lt L1.out
  have hf0 : ∀ b ∈ k0, some b ≠ some w.heap.size := fun b hb e => by have := (hlt0 b hb).1; have : b = w.heap.size := Option.some.inj e; omega
  have hf1 : ∀ b ∈ k1, some b ≠ some w.heap.size := fun b hb e => by have := (hlt1 b hb).1; have : b = w.heap.size := Option.some.inj e; omega
  have hPS : PS w ((w1.setCell ⟨w.heap.size, 0, none⟩ (.slice p0 x.decls.length q0)).setCell ⟨w.heap.size, 1, none⟩ (.slice p1 x.rules.length q1)) x.decls.length x.rules.length x.decls x.rules p0 p1 q0 q1 k0 k1 :=
    ⟨heap_setCell_same _ w.heap.size 1 _ _ _ (heap_setCell_same w1 w.heap.size 0 _ _ _ Y1.out), ((Below.heap_setCell _ _ _ _ (by simp)).trans (Below.heap_setCell _ _ _ _ (by simp))).trans Y2.out, Lies.kept (Heap.grown_set _ ⟨w.heap.size, 1, none⟩ _) (Lies.kept (Heap.grown_set _ ⟨w.heap.size, 0, none⟩ _) L0.out hf0) hf0, Lies.kept (Heap.grown_set _ ⟨w.heap.size, 1, none⟩ _) (Lies.kept (Heap.grown_set _ ⟨w.heap.size, 0, none⟩ _) L1.out hf1) hf1, HN.out, (hbz.setCell (p := ⟨w.heap.size, 0, none⟩) (Nat.le_refl _) _).setCell (p := ⟨w.heap.size, 1, none⟩) (Nat.le_refl _) _⟩
  have HPS := Lib.hid hPS
  clear hPS hf0 hf1 hlt0 hlt1 Y1 Y2 L0 L1 HN hbz hb1 hz1 G1 G2 H1 H2 HC hb0 HS
  generalize (w1.setCell ⟨w.heap.size, 0, none⟩ (.slice p0 x.decls.length q0)).setCell ⟨w.heap.size, 1, none⟩ (.slice p1 x.rules.length q1) = W0 at *
  go_loopg [3] x.decls.length (fun gk t3 wr => ∃ i : Nat, i ≤ x.decls.length ∧ gk = x.decls.length - i ∧ t3 = .int .i64 (i : Int) ∧ PS w wr x.decls.length x.rules.length (turned plainD x.decls i) x.rules p0 p1 q0 q1 k0 k1)
  case atStart => exact ⟨0, by omega, by omega, rfl, by rw [turned_zero]; exact HPS.out⟩
  case round =>
    clear HPS
    obtain ⟨i, hi, rfl, rfl, hP⟩ := hrel
    obtain ⟨c0, c1', f0, _⟩ := cells2 hP.box
    by_cases hlt : i < x.decls.length
    · have hk' : i < (turned plainD x.decls i).length := by rw [turned_at _ _ _ hlt, turnAt_len _ _ _ _ hlt]; exact hlt
      obtain ⟨g, cap, hv, hBg, hgl, hN, hgb, ⟨u, hu⟩, hf, hput⟩ := decl_put hP.ld (List.nodup_append.1 hP.nd).1 hk'
      cases hv
      simp only [turned_at _ _ _ hlt, turnAt_get _ _ _ _ hlt, turnAt_set _ _ _ _ _ hlt, turned_next _ _ _ hlt] at hput
      have hp2 := hP.decl ((Chg.refl k0 wr).set (.inl hgb) (i * 4 + 3) (.int .i64 0)) hput
      have HP2 := Lib.hid hp2; clear hp2 hP hput
      have j0 : (0 : Int) ≤ (i : Int) := by omega
      have j1 : (i : Int) < (x.decls.length : Int) := by omega
      go_wp2_with fail
      go_roundg (x.decls.length - (i + 1))
      case measure => omega
      case rel => exact ⟨i + 1, by omega, rfl, by go_num, HP2.out⟩
    · obtain rfl : i = x.decls.length := by omega
      rw [turned_all] at hP
      have HPS := Lib.hid hP; clear hP
      obtain ⟨wo, rfl⟩ : ∃ wo : World, wo = wr := ⟨_, rfl⟩
      go_wp2_with fail
      clear c0 c1' f0
      go_loopg [4] x.rules.length (fun gk t4 wr => ∃ i : Nat, i ≤ x.rules.length ∧ gk = x.rules.length - i ∧ t4 = .int .i64 (i : Int) ∧ PS w wr x.decls.length x.rules.length (x.decls.map plainD) (turned plainR x.rules i) p0 p1 q0 q1 k0 k1)
      case atStart => exact ⟨0, by omega, by omega, rfl, by rw [turned_zero]; exact HPS.out⟩
      case round =>
        clear HPS
        obtain ⟨i, hi, rfl, rfl, hP⟩ := hrel
        obtain ⟨c0, c1', f0, f1'⟩ := cells2 hP.box
        by_cases hlt : i < x.rules.length
        · have hRI := Lib.hid (hRO.out _ (List.getElem_mem hlt))
          rw [turned_at _ _ _ hlt] at hP
          have hk' : i < (turnAt plainR x.rules i (x.rules[i])).length := by rw [turnAt_len _ _ _ _ hlt]; exact hlt
          obtain ⟨gr, cap, aa, ca, b2, hv, hBg, hgl, hN, hgb, hg2, hsub, hnd2, ⟨u, hu⟩, hca, hf3, hla, hput, hq⟩ := rule_at hP.lr (List.nodup_append.1 hP.nd).2.1 hk'
          cases hv
          simp only [turnAt_get _ _ _ _ hlt, turnAt_set _ _ _ _ _ hlt] at hput
          have hp2 := hP.rule ((Chg.refl k1 wr).set (.inl hgb) (i * 4 + 3) (.int .i64 0)) hput
          have hnext := turned_next plainR x.rules i hlt
          generalize x.rules[i] = y at hp2 hRI hnext
          have HNX := Lib.hid hnext
          have HP2 := Lib.hid hp2; clear hp2 hP hput hq hla hca hnext hsub hg2 hnd2 hk'
          have j0 : (0 : Int) ≤ (i : Int) := by omega
          have j1 : (i : Int) < (x.rules.length : Int) := by omega
          have ham := hRI.out.m
          go_wp2_with fail
          clear hu hf3 c0 c1' f0 f1' hgl hBg
          generalize wr.setCell ⟨gr, i * 4 + 3, none⟩ (.int .i64 0) = W2 at *
          go_loopg [5] y.alts.length (fun gk t5 wr => ∃ k : Nat, k ≤ y.alts.length ∧ gk = y.alts.length - k ∧ t5 = .int .i64 (k : Int) ∧ PS w wr x.decls.length x.rules.length (x.decls.map plainD) (turnAt plainR x.rules i { y with at_ := 0, alts := turned plainA y.alts k }) p0 (some ⟨gr, 0, none⟩) q0 q1 k0 k1)
          case atStart => exact ⟨0, by omega, by omega, rfl, by rw [turned_zero]; exact HP2.out⟩
          case round =>
            clear HP2
            obtain ⟨k, hk, rfl, rfl, hP⟩ := hrel
            obtain ⟨c0, c1', f0, f1'⟩ := cells2 hP.box
            have hk' : i < (turnAt plainR x.rules i { y with at_ := 0, alts := turned plainA y.alts k }).length := by rw [turnAt_len _ _ _ _ hlt]; exact hlt
            by_cases hlk : k < y.alts.length
            · have hAI := Lib.hid (hRI.out.alts _ (List.getElem_mem hlk))
              rw [turned_at _ _ _ hlk] at hP
              have hnext2 := turned_next plainA y.alts k hlk
              generalize y.alts[k] = z at hP hAI hnext2
              obtain ⟨gr', capr, ga, cca, aw, cw, b3, hv, hBr, hgrl, hNr, d2, hBa, hgal, hNa, hNw, d0, ⟨u4, h4⟩, ⟨u5, h5⟩, f4, f5, hgab, hgrb, hga3, hgr3, hne, hsub3, hnd3, hlw, hz, _⟩ := deep2 hP.lr (List.nodup_append.1 hP.nd).2.1 hlt hlk
              cases hv
              have hp2 := hP.rule (((Chg.refl k1 wr).set (.inl hgab) (k * 6 + 5) (.int .i64 0)).set (.inl hgab) (k * 6 + 4) (.int .i64 0)) hz
              have HP2 := Lib.hid hp2; have HNX2 := Lib.hid hnext2
              have D2 := Lib.hid d2
              clear hp2 hP hz hlw hnext2
              have k0' : (0 : Int) ≤ (k : Int) := by omega
              have k1'' : (k : Int) < (y.alts.length : Int) := by omega
              have hwm := hAI.out.n
              go_wp2_with fail
              clear d0 d2 h4 h5 f4 f5 c0 c1' f0 f1'
              have hd2 : ∃ cq, ((wr.setCell ⟨ga, k * 6 + 5, none⟩ (.int .i64 0)).setCell ⟨ga, k * 6 + 4, none⟩ (.int .i64 0)).cell? ⟨gr, i * 4 + 2, none⟩ = some (.slice (some ⟨ga, 0, none⟩) y.alts.length cq) := ⟨cca, (World.cell?_of_block ((Below.heap_setCell _ _ _ _ hne).trans (Below.heap_setCell _ _ _ _ hne))).trans D2.out⟩
              have HD2 := Lib.hid hd2; clear hd2 D2 hgal hgrl
              generalize (wr.setCell ⟨ga, k * 6 + 5, none⟩ (.int .i64 0)).setCell ⟨ga, k * 6 + 4, none⟩ (.int .i64 0) = W3 at *
              clear hgab hgrb hga3 hgr3 hsub3 hnd3 hBr hNr hBa hNa hk'
              go_loopg [7] z.words.length (fun gk t7 wr => ∃ v : Nat, v ≤ z.words.length ∧ gk = z.words.length - v ∧ t7 = .int .i64 (v : Int) ∧ PS w wr x.decls.length x.rules.length (x.decls.map plainD) (turnAt plainR x.rules i { y with at_ := 0, alts := turnAt plainA y.alts k { z with at_ := 0, whr := 0, words := part z.words v } }) p0 (some ⟨gr, 0, none⟩) q0 q1 k0 k1 ∧ ∃ cq, wr.cell? ⟨gr, i * 4 + 2, none⟩ = some (.slice (some ⟨ga, 0, none⟩) y.alts.length cq))
              case atStart => exact ⟨0, by omega, by omega, rfl, by rw [part_zero]; exact HP2.out, HD2.out⟩
              case round =>
                clear HP2 HD2
                obtain ⟨v, hv, rfl, rfl, hP, cq, hcq⟩ := hrel
                obtain ⟨gr', capr, ga', cca, aw, cw, b3, hvv, hBr, hgrl, hNr, d2, hBa, hgal, hNa, _, d0, _, _, _, _, hgab, hgrb, hga3, hgr3, _, hsub3, hnd3, hlw, _, hputR⟩ := deep2 hP.lr (List.nodup_append.1 hP.nd).2.1 hlt hlk
                cases hvv
                have hgg := Option.some.inj (hcq.symm.trans d2)
                simp only [Value.slice.injEq, Option.some.injEq, Addr.mk.injEq, and_true, true_and] at hgg
                obtain ⟨rfl, rfl⟩ := hgg
                simp only [part_len] at d0 hlw hputR
                have hltk := Lies.lt hP.lr
                by_cases hlv : v < z.words.length
                · obtain ⟨n', ws', z', hx⟩ : ∃ n1 l1 z1, z.words[v] = Wd.mk n1 l1 z1 := ⟨_, _, _, (wd_eta z.words[v])⟩
                  have hl0 : v < (part z.words v).length := by rw [part_len]; exact hlv
                  obtain ⟨gw, capw, a', c', b4, hvw, hBw, hgwl, hNw', e0, e1, e2, hfr, hLw, hnd4, hgwb, hgw4, hsub4, hputW⟩ := word_at hlw hnd3 hl0 (show (part z.words v)[v] = _ by rw [part_get z.words v hlv]; exact hx)
                  cases hvw
                  have HE := Lib.hid (bare_w z.words[v]); have HH := Lib.hid hx
                  have F0 := hfr (v * 3); have F1 := hfr (v * 3 + 1); have F2 := hfr (v * 3 + 2)
                  have HPS2 := Lib.hid (part_set z.words v hlv (.mk n' (bareWs ws') 0) (by rw [hx]; simp only [bareW]))
                  have HPR := Lib.hid hputR; have HPW := Lib.hid hputW; have HLW := Lib.hid hLw; have HPP := Lib.hid hP
                  clear hputR hputW hLw hlw hP hx hfr
                  have v0' : (0 : Int) ≤ (v : Int) := by omega
                  have v1' : (v : Int) < (z.words.length : Int) := by omega
                  go_wp2_with fail
                  refine wp_region_mix (l1 := [_, _, _, _, _, _, _, _, _, _, _, _, _]) (l2 := [_, _]) [true, true, true, true, true, true, true, true, true, true, true, true, false] (fun u => u.cell? ⟨ga, k * 6, none⟩ = some (.slice (some ⟨gw, 0, none⟩) z.words.length cw) ∧ u.cell? ⟨gw, v * 3, none⟩ = some (.string (bs n')) ∧ u.cell? ⟨gw, v * 3 + 1, none⟩ = some (.slice a' ws'.length c') ∧ u.cell? ⟨gw, v * 3 + 2, none⟩ = some (.int .i64 (z' : Int))) (by kernel_rfl) (by kernel_rfl) (by repeat (first | refine loose_then ?_ | refine loose_block ?_ | exact loose_body (P := Try.prog) (fn := Try.f24))) ⟨d0, e0, e1, e2⟩ ?_
                  refine mix_take (.pointer (some ⟨ga, k * 6, none⟩)) (want_none rfl) (fun u hu => by go_simp) ?_
                  refine mix_take (.pointer (some ⟨ga, k * 6, none⟩)) (want_none rfl) (fun u hu => by go_simp) ?_
                  refine mix_take (.pointer (some ⟨ga, k * 6, none⟩)) (want_none rfl) (fun u hu => by go_simp) ?_
                  refine mix_take (.slice (some ⟨gw, 0, none⟩) z.words.length cw) (want_none rfl) (fun u hu => by obtain ⟨h1, h2, h3, h4⟩ := hu; go_simp) ?_
                  refine mix_take (.int .i64 (v : Int)) (want_none rfl) (fun u hu => by go_simp) ?_
                  refine mix_take (.pointer (some ⟨ga, k * 6, none⟩)) (want_none rfl) (fun u hu => by go_simp) ?_
                  refine mix_take (.pointer (some ⟨ga, k * 6, none⟩)) (want_none rfl) (fun u hu => by go_simp) ?_
                  refine mix_take (.pointer (some ⟨ga, k * 6, none⟩)) (want_none rfl) (fun u hu => by go_simp) ?_
                  refine mix_take (.slice (some ⟨gw, 0, none⟩) z.words.length cw) (want_none rfl) (fun u hu => by obtain ⟨h1, h2, h3, h4⟩ := hu; go_simp) ?_
                  refine mix_take (.int .i64 (v : Int)) (want_none rfl) (fun u hu => by go_simp) ?_
                  refine mix_take (.pointer (some ⟨gw, v * 3, none⟩)) (want_none rfl) (fun u hu => by go_simp) ?_
                  refine mix_take (.agg #[.string (bs n'), .slice a' ws'.length c', .int .i64 (z' : Int)]) (want_none rfl) (fun u hu => by obtain ⟨h1, h2, h3, h4⟩ := hu; go_simp) ?_
                  refine mix_go (want_none rfl) fun K hK => wp_go (f := 52) (args := #[.agg #[.string (bs n'), .slice a' ws'.length c', .int .i64 (z' : Int)]]) (by go_simp) ((HE.out wr.drew _ _ _ _ _ _ _ HH.out (Lies.new HLW.out ((Below.refl _ _).drew)) hnd4).mono ?_)
                  rintro e w2 ⟨rfl, hL2, hC2'⟩
                  have hC2 : Chg b4 wr w2 := (Chg.below b4 ((Below.refl _ wr).drew)).trans hC2' (fun i hi => .inl hi)
                  have hb4k : ∀ i ∈ b4, i ∈ k1 := fun i hi => hsub3 _ (hsub4 i hi)
                  have hb2 : ∀ i ∈ b3, i ∉ b4 → w2.heap[i]? = wr.heap[i]? := fun i hi hn => hC2.block i (hltk i (hsub3 i hi)).2 hn
                  have hgw' := hb2 gw hgwb hgw4
                  have hga' : w2.heap[ga]? = wr.heap[ga]? := hC2.block ga hgal (fun hh => hga3 (hsub4 _ hh))
                  have hgr' : w2.heap[gr]? = wr.heap[gr]? := hC2.block gr hgrl (fun hh => hgr3 (hsub4 _ hh))
                  have y0 := (World.cell?_of_block hgw').trans e0; have y1 := (World.cell?_of_block hgw').trans e1; have y2 := (World.cell?_of_block hgw').trans e2
                  have y3 := (World.cell?_of_block hga').trans d0
                  have x0 := (World.frozen?_of_block hgw').trans F0; have x1 := (World.frozen?_of_block hgw').trans F1; have x2 := (World.frozen?_of_block hgw').trans F2
                  refine hK.out _ _ ⟨y3, y0, y1, y2⟩ ?_
                  show wpList _ _ _ _ _ _
                  have hfin := HPW.out w2 (bareWs ws') (bareWs_len _) hb2 hL2
                  rw [HPS2.out] at hfin
                  have hCk : Chg k1 wr w2 := ⟨hC2.os, hC2.tape, hC2.output, hC2.size, fun i hi hn => hC2.block i hi (fun hh => hn (hb4k i hh))⟩
                  have hgwk := hsub3 gw hgwb
                  have hCf := ((hCk.set (.inl hgwk) (v * 3) (.string (bs n'))).set (.inl hgwk) (v * 3 + 1) (.slice a' ws'.length c')).set (.inl hgwk) (v * 3 + 2) (.int .i64 0)
                  have hsame : ∀ j ∈ k1, j ∉ b3 → (((w2.setCell ⟨gw, v * 3, none⟩ (.string (bs n'))).setCell ⟨gw, v * 3 + 1, none⟩ (.slice a' ws'.length c')).setCell ⟨gw, v * 3 + 2, none⟩ (.int .i64 0)).heap[j]? = wr.heap[j]? := fun j hj hn => by
                    have hjg : j ≠ gw := fun e => hn (e ▸ hgwb)
                    exact (Below.heap_setCell _ _ _ _ hjg).trans ((Below.heap_setCell _ _ _ _ hjg).trans ((Below.heap_setCell _ _ _ _ hjg).trans (hC2.block j (hltk j hj).2 (fun hh => hn (hsub4 _ hh)))))
                  have hrules := HPR.out _ (part z.words (v + 1)) (part_len _ _) hsame hfin
                  have HPN := Lib.hid (HPP.out.rule hCf hrules)
                  have hgrw : gr ≠ gw := fun e => hgr3 (e ▸ hgwb)
                  have HCQ := Lib.hid ((World.cell?_of_block ((Below.heap_setCell _ ⟨gw, v * 3 + 2, none⟩ (.int .i64 0) _ hgrw).trans ((Below.heap_setCell _ ⟨gw, v * 3 + 1, none⟩ (.slice a' ws'.length c') _ hgrw).trans ((Below.heap_setCell w2 ⟨gw, v * 3, none⟩ (.string (bs n')) _ hgrw).trans hgr')))).trans hcq)
                  clear hfin hCk hCf hsame hrules hb2 hb4k hL2 hC2 hC2' hgw' hga' hgr' hK
                  go_wp2_with fail
                  go_roundg (z.words.length - (v + 1))
                  case measure => omega
                  case rel => exact ⟨v + 1, by omega, rfl, by go_num, HPN.out, _, HCQ.out⟩
                · obtain rfl : v = z.words.length := by omega
                  rw [part_all] at hP
                  have HPP := Lib.hid hP
                  clear hputR hlw hP hltk
                  go_wp2_with fail
                  go_roundg (y.alts.length - (k + 1))
                  case measure => omega
                  case rel => exact ⟨k + 1, by omega, rfl, by go_num, by rw [← HNX2.out]; exact HPP.out⟩
            · obtain rfl : k = y.alts.length := by omega
              obtain ⟨gr', capr, aa', cca, b2, hvv, hBr, hgrl, hNr, z1, z2, z3, z4, z5, d2, z6, z7, z8, z9⟩ := rule_at hP.lr (List.nodup_append.1 hP.nd).2.1 hk'
              cases hvv
              simp only [turnAt_get _ _ _ _ hlt, turned_all, List.length_map] at d2
              rw [turned_all] at hP
              have HPP := Lib.hid hP
              clear z1 z2 z3 z4 z5 z6 z7 z8 z9 hP hk'
              go_wp2_with fail
              go_roundg (x.rules.length - (i + 1))
              case measure => omega
              case rel => exact ⟨i + 1, by omega, rfl, by go_num, by rw [← HNX.out]; exact HPP.out⟩
        · obtain rfl : i = x.rules.length := by omega
          rw [turned_all] at hP
          obtain ⟨t0, t1, t2, t3⟩ := cells2 hP.res
          have HPP := Lib.hid hP; clear hP
          go_wp2_with fail
          have hP := HPP.out
          have hl0 := Lies.lt hP.ld; have hl1 := Lies.lt hP.lr
          have hf0 : ∀ b ∈ k0, some b ≠ some (w.heap.size + 1) := fun b hb e => by have := (hl0 b hb).1; have : b = w.heap.size + 1 := Option.some.inj e; omega
          have hf1 : ∀ b ∈ k1, some b ≠ some (w.heap.size + 1) := fun b hb e => by have := (hl1 b hb).1; have : b = w.heap.size + 1 := Option.some.inj e; omega
          refine bodyPost_ret (res_plain (heap_setCell_same _ (w.heap.size + 1) 1 _ _ _ (heap_setCell_same _ (w.heap.size + 1) 0 _ _ _ hP.res)) rfl) rfl ?_
          exact ⟨p0, q0, k0, p1, q1, k1, rfl, Lies.base (by omega) (Lies.kept (Heap.grown_set _ ⟨w.heap.size + 1, 1, none⟩ _) (Lies.kept (Heap.grown_set _ ⟨w.heap.size + 1, 0, none⟩ _) hP.ld hf0) hf0), Lies.base (by omega) (Lies.kept (Heap.grown_set _ ⟨w.heap.size + 1, 1, none⟩ _) (Lies.kept (Heap.grown_set _ ⟨w.heap.size + 1, 0, none⟩ _) hP.lr hf1) hf1), hP.nd, (hP.below.setCell (p := ⟨w.heap.size + 1, 0, none⟩) (Nat.le_succ _) _).setCell (p := ⟨w.heap.size + 1, 1, none⟩) (Nat.le_succ _) _⟩
end Go.Proofs.Ytelpkldlkpoioaa.Plain12
