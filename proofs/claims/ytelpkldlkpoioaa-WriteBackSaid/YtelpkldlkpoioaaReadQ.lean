/- The reader of grammars' texts, walked whole. -/
import Derived.Test.YtelpkldlkpoioaaReadP
namespace Go.Proofs.Ytelpkldlkpoioaa.ReadQ
open Go.RowKit Go.Proofs.Ytelpkldlkpoioaa.Lexy Go.Proofs.Ytelpkldlkpoioaa.LexA Go.Proofs.Ytelpkldlkpoioaa.LexB Go.Proofs.Ytelpkldlkpoioaa.LexC Go.Proofs.Ytelpkldlkpoioaa.LexD Go.Proofs.Ytelpkldlkpoioaa.LexE Go.Proofs.Ytelpkldlkpoioaa.LexF Go.Proofs.Ytelpkldlkpoioaa.LexG Go.Proofs.Ytelpkldlkpoioaa.Heap Go.Proofs.Ytelpkldlkpoioaa.Dat Go.Proofs.Ytelpkldlkpoioaa.Ready Go.Proofs.Ytelpkldlkpoioaa.ReadA Go.Proofs.Ytelpkldlkpoioaa.ReadB Go.Proofs.Ytelpkldlkpoioaa.ReadC Go.Proofs.Ytelpkldlkpoioaa.ReadE Go.Proofs.Ytelpkldlkpoioaa.ReadD Go.Proofs.Ytelpkldlkpoioaa.ReadF Go.Proofs.Ytelpkldlkpoioaa.ReadG Go.Proofs.Ytelpkldlkpoioaa.ReadH Go.Proofs.Ytelpkldlkpoioaa.ReadI Go.Proofs.Ytelpkldlkpoioaa.ReadJ Go.Proofs.Ytelpkldlkpoioaa.ReadK Go.Proofs.Ytelpkldlkpoioaa.ReadL Go.Proofs.Ytelpkldlkpoioaa.ReadM Go.Proofs.Ytelpkldlkpoioaa.ReadN Go.Proofs.Ytelpkldlkpoioaa.ReadO Go.Proofs.Ytelpkldlkpoioaa.ReadP Go.Proofs.Ytelpkldlkpoioaa.Cut

/-- the world ahead of the lexer's call -/
abbrev start (w : World) : World := (w.alloc (.cells #[.slice none 0 0, .slice none 0 0] 39)).alloc (.cells #[.int .i64 0, .int .i64 0] 26)
theorem start_text (w : World) : (start w).heap[w.heap.size]? = some (.cells #[.slice none 0 0, .slice none 0 0] 39 (0, 0)) := (Below.heap_alloc _ _ _ (by simp)).trans (heap_alloc_new w _)
theorem start_fault (w : World) : (start w).heap[w.heap.size + 1]? = some (.cells #[.int .i64 0, .int .i64 0] 26 (0, 0)) := by
  have := heap_alloc_new (w.alloc (.cells #[.slice none 0 0, .slice none 0 0] 39)) (.cells #[.int .i64 0, .int .i64 0] 26)
  have hs : (w.alloc (.cells #[.slice none 0 0, .slice none 0 0] 39)).heap.size = w.heap.size + 1 := by simp
  rw [hs] at this; exact this
theorem start_below (w : World) : Below w.heap.size w (start w) := ((Below.refl _ w).alloc (Nat.le_refl _) _).alloc (by simp) _
theorem start_size (w : World) : (start w).heap.size = w.heap.size + 2 := by simp
theorem start_max {w : World} {m : Int} (hm : w.cell? ⟨0, 0, none⟩ = some (.int .i64 m)) : (start w).cell? ⟨0, 0, none⟩ = some (.int .i64 m) :=
  ((start_below w).cell (p := ⟨0, 0, none⟩) (World.block_lt_of_cell? _ _ hm)).trans hm

set_option maxRecDepth 100000 in
set_option maxHeartbeats 1000000 in
/-- a source that is no row of tokens -/
theorem text_bad {s : ByteArray} {w : World} {m : Int} {e p : Nat} (hs : s.size ≤ 140737488351232) (hm : w.cell? ⟨0, 0, none⟩ = some (.int .i64 m)) (h : toks s.data.toList = .bad e p) :
    Calls Try.prog 14 #[.string s] w (TextQ w (.bad e p)) := by
  have he : ((e : Int) != 0) = true := by have := (toks_bad _ _ _ h).1; simp; omega
  have HT := Lib.hid h; clear h
  have HM := Lib.hid (start_max hm)
  have H1 := Lib.hid (start_text w); have H2 := Lib.hid (start_fault w)
  have hb0 := start_below w
  have hz0 := start_size w
  clear hm
  go_enter_defers Try.func14, Try.ntmps14
  go_wp2_with (go_at_call 10; go_loud (refine (tokens_bad hs HM.out HT.out).mono ?_; rintro e1 w1 ⟨rfl, hb1⟩; have hz1 := hb1.size; have y1 := (hb1.block w.heap.size (by show _ < (start w).heap.size; omega)).trans H1.out; have y2 := (hb1.block (w.heap.size + 1) (by show _ < (start w).heap.size; omega)).trans H2.out; obtain ⟨q1, q2, q3, q4⟩ := cells2 y1; obtain ⟨r1, r2, r3, r4⟩ := cells2 y2))
  have hbx : Below w.heap.size w w1 := hb0.trans (hb1.mono (by show _ ≤ (start w).heap.size; omega))
  have hbw := (hbx.setCell (p := ⟨w.heap.size + 1, 0, none⟩) (by simp) (.int .i64 (e : Int))).setCell (p := ⟨w.heap.size + 1, 1, none⟩) (by simp) (.int .i64 (p : Int))
  have k1 := heap_setCell_same _ (w.heap.size + 1) 1 _ _ (.int .i64 (p : Int)) (heap_setCell_same w1 (w.heap.size + 1) 0 _ _ (.int .i64 (e : Int)) y2)
  have k2 : ((w1.setCell ⟨w.heap.size + 1, 0, none⟩ (.int .i64 (e : Int))).setCell ⟨w.heap.size + 1, 1, none⟩ (.int .i64 (p : Int))).heap[w.heap.size]? = _ := ((Below.heap_setCell _ _ _ _ (by simp)).trans (Below.heap_setCell _ _ _ _ (by simp))).trans y1
  clear q1 q2 q3 q4 r1 r2 r3 r4 y1 y2 hbx hb1 hz1 HM H1 H2
  generalize (w1.setCell ⟨w.heap.size + 1, 0, none⟩ (.int .i64 (e : Int))).setCell ⟨w.heap.size + 1, 1, none⟩ (.int .i64 (p : Int)) = w2 at *
  obtain ⟨q1, q2, q3, q4⟩ := cells2 k2; obtain ⟨r1, r2, r3, r4⟩ := cells2 k1
  have K1 := Lib.hid k1; have K2 := Lib.hid k2; clear k1 k2 HT he hb0
  go_region
  all_goals
    have z1 := heap_setCell_same _ w.heap.size 1 _ _ (.slice none 0 0) (heap_setCell_same w2 w.heap.size 0 _ _ (.slice none 0 0) K2.out)
    have z2 := ((Below.heap_setCell _ ⟨w.heap.size, 1, none⟩ (.slice none 0 0) (w.heap.size + 1) (by simp)).trans (Below.heap_setCell w2 ⟨w.heap.size, 0, none⟩ (.slice none 0 0) (w.heap.size + 1) (by simp))).trans K1.out
    have z3 := heap_setCell_same _ (w.heap.size + 1) 1 _ _ (.int .i64 (p : Int)) (heap_setCell_same _ (w.heap.size + 1) 0 _ _ (.int .i64 (e : Int)) z2)
    have z4 := ((Below.heap_setCell _ ⟨w.heap.size + 1, 1, none⟩ (.int .i64 (p : Int)) w.heap.size (by simp)).trans (Below.heap_setCell _ ⟨w.heap.size + 1, 0, none⟩ (.int .i64 (e : Int)) w.heap.size (by simp))).trans z1
    go_wp2
    refine ⟨_, res_text z4 z3 rfl rfl, rfl, ?_⟩
    exact ((((hbw.setCell (p := ⟨w.heap.size, 0, none⟩) (Nat.le_refl _) _).setCell (p := ⟨w.heap.size, 1, none⟩) (Nat.le_refl _) _).setCell (p := ⟨w.heap.size + 1, 0, none⟩) (Nat.le_succ _) _).setCell (p := ⟨w.heap.size + 1, 1, none⟩) (Nat.le_succ _) _).drew

/-- the world in which a text is begun -/
theorem TxS.start {w w1 : World} {g c : Nat} {T : List Tok} (hb1 : Below (start w).heap.size (start w) w1) (hg1 : (start w).heap.size ≤ g) (hg2 : g < w1.heap.size) (ht : IsToks w1 g T) :
    TxS w (((w1.setCell ⟨w.heap.size + 1, 0, none⟩ (.int .i64 0)).setCell ⟨w.heap.size + 1, 1, none⟩ (.int .i64 0)).alloc (.cells #[.slice (some ⟨g, 0, none⟩) T.length c, .int .i64 0] 75)) w1.heap.size g c T 0 [] [] := by
  have hz0 := start_size w
  have hz1 := hb1.size
  have y1 := (hb1.block w.heap.size (by omega)).trans (start_text w)
  have y2 := (hb1.block (w.heap.size + 1) (by omega)).trans (start_fault w)
  have hbx : Below w.heap.size w w1 := (start_below w).trans (hb1.mono (by omega))
  have hbw := (hbx.setCell (p := ⟨w.heap.size + 1, 0, none⟩) (by simp) (.int .i64 0)).setCell (p := ⟨w.heap.size + 1, 1, none⟩) (by simp) (.int .i64 0)
  have k1 := heap_setCell_same _ (w.heap.size + 1) 1 _ _ (.int .i64 0) (heap_setCell_same w1 (w.heap.size + 1) 0 _ _ (.int .i64 0) y2)
  have k2 : ((w1.setCell ⟨w.heap.size + 1, 0, none⟩ (.int .i64 0)).setCell ⟨w.heap.size + 1, 1, none⟩ (.int .i64 0)).heap[w.heap.size]? = _ := ((Below.heap_setCell _ _ _ _ (by simp)).trans (Below.heap_setCell _ _ _ _ (by simp))).trans y1
  have k3 : ∀ i, i ≠ w.heap.size + 1 → ((w1.setCell ⟨w.heap.size + 1, 0, none⟩ (.int .i64 0)).setCell ⟨w.heap.size + 1, 1, none⟩ (.int .i64 0)).heap[i]? = w1.heap[i]? := fun i hi => (Below.heap_setCell _ _ _ _ (by simpa using hi)).trans (Below.heap_setCell _ _ _ _ (by simpa using hi))
  have k4 : ((w1.setCell ⟨w.heap.size + 1, 0, none⟩ (.int .i64 0)).setCell ⟨w.heap.size + 1, 1, none⟩ (.int .i64 0)).heap.size = w1.heap.size := by simp
  generalize (w1.setCell ⟨w.heap.size + 1, 0, none⟩ (.int .i64 0)).setCell ⟨w.heap.size + 1, 1, none⟩ (.int .i64 0) = w2 at *
  have hn := heap_alloc_new w2 (.cells #[.slice (some ⟨g, 0, none⟩) T.length c, .int .i64 0] 75)
  rw [k4] at hn
  refine ⟨hbw.alloc (by omega) _, ⟨hn, ?_, by omega, by simp; omega⟩, (Below.heap_alloc _ _ _ (by omega)).trans k1, ⟨_, _, [], [], (Below.heap_alloc _ _ _ (by omega)).trans k2, by simpa [desD] using Lies.nil _ _ _ _, by simpa [rusD] using Lies.nil _ _ _ _, by simp⟩, by omega, by omega, hg2⟩
  have key : ∀ o, (w2.alloc (.cells #[.slice (some ⟨g, 0, none⟩) T.length c, .int .i64 0] 75)).cell? ⟨g, o, none⟩ = w1.cell? ⟨g, o, none⟩ := fun o => World.cell?_of_block ((Below.heap_alloc _ _ _ (by show g < _; omega)).trans (k3 g (by omega)))
  intro i hi
  obtain ⟨t0, t1, t2⟩ := ht i hi
  exact ⟨(key _).trans t0, (key _).trans t1, (key _).trans t2⟩

theorem decls_stop {T : List Tok} {k : Nat} {acc : List De} {o : Out (List De)} (h : DeclsR T k acc o) (h1 : isK T k 1 = false) : o = .ok acc k := by
  cases h with
  | stop _ => rfl
  | fail h2 _ => rw [h1] at h2; cases h2
  | next h2 _ _ => rw [h1] at h2; cases h2
theorem decls_bad {T : List Tok} {k e p : Nat} {acc : List De} {o : Out (List De)} (h : DeclsR T k acc o) (h1 : isK T k 1 = true) (hd : declL T k = .bad e p) : o = .bad e p := by
  cases h with
  | stop h2 => rw [h1] at h2; cases h2
  | fail _ h3 => rw [hd] at h3; cases h3; rfl
  | next _ h3 _ => rw [hd] at h3; cases h3
theorem decls_next {T : List Tok} {k k1 : Nat} {acc : List De} {x : De} {o : Out (List De)} (h : DeclsR T k acc o) (h1 : isK T k 1 = true) (hd : declL T k = .ok x k1) : DeclsR T k1 (acc ++ [x]) o := by
  cases h with
  | stop h2 => rw [h1] at h2; cases h2
  | fail _ h3 => rw [hd] at h3; cases h3
  | next _ h3 h4 => rw [hd] at h3; cases h3; exact h4
theorem rules_stop {T : List Tok} {k : Nat} {acc : List Ru} {o : Out (List Ru)} (h : RulesR T k acc o) (h1 : isK T k 7 = true) : o = .ok acc k := by
  cases h with
  | stop _ => rfl
  | fail h2 _ => rw [h1] at h2; cases h2
  | next h2 _ _ => rw [h1] at h2; cases h2
theorem rules_more {T : List Tok} {k : Nat} {acc : List Ru} {o : Out (List Ru)} (h : RulesR T k acc o) (h1 : isK T k 7 = false) : ∃ r, RuleR T k r ∧ (∀ e p, r = .bad e p → o = .bad e p) ∧ ∀ x k1, r = .ok x k1 → RulesR T k1 (acc ++ [x]) o := by
  cases h with
  | stop h2 => rw [h1] at h2; cases h2
  | fail _ h3 => exact ⟨_, h3, fun _ _ he => (by cases he; rfl), fun _ _ he => by cases he⟩
  | next _ h3 h4 => exact ⟨_, h3, fun _ _ he => (by cases he), fun _ _ he => by cases he; exact h4⟩
theorem rule_past {T : List Tok} {k k1 : Nat} {x : Ru} (hT : Ready.Ends T) (h : RuleR T k (.ok x k1)) (hk : k < T.length) : k < k1 ∧ k1 < T.length := by
  have hpp : ∀ {k : Nat} {o : Out (List (List UInt8))} {ps : List (List UInt8)} {k2 : Nat}, k < T.length → ParamsR T k o → o = .ok ps k2 → k ≤ k2 ∧ k2 < T.length := fun {k o ps k2} hk h e => by
    subst e
    refine ⟨?_, (GR.past hT (fun {k s k1 s1} hk h => ?_) (params_GR hT h hk) hk _ _ rfl).2⟩
    · exact (GR.past hT (fun {k s k1 s1} hk h => by obtain ⟨_, h2, rfl, _⟩ := h; have := hT.ltK hk h2; omega) (params_GR hT h hk) hk _ _ rfl).1
    · obtain ⟨_, h2, rfl, _⟩ := h
      have := hT.ltK hk h2
      omega
  cases h with
  | whole h1 h2 h3 h4 h5 h6 =>
    obtain ⟨q1, q2⟩ := hpp (hT.ltK hk h1) h2 rfl
    obtain ⟨r1, r2⟩ := alt_past hT h4 (hT.ltT q2 h3)
    have hp : ∀ {k s k1 s1}, k < T.length → APS T k s (.inl (k1, s1)) → k ≤ k1 ∧ k1 < T.length := fun hk h => by
      obtain ⟨_, x, hx, _⟩ := h
      exact alt_past hT hx hk
    obtain ⟨z1, z2⟩ := LT.past hT hp (alts_LT hT h5 r2 (by simp; omega)) r2 _ _ rfl
    have := hT.ltT z2 h6
    omega
theorem lies_far4 {w : World} {B H : Nat} {d : Dat} {v : Value} {bs : List Nat} (h : Lies w B d v bs) (hB : H + 1 < B) (v0 v1 v2 v3 : Value) : Lies ((((w.setCell ⟨H, 0, none⟩ v0).setCell ⟨H, 1, none⟩ v1).setCell ⟨H + 1, 0, none⟩ v2).setCell ⟨H + 1, 1, none⟩ v3) B d v bs := by
  have h1 : ∀ j ∈ bs, some j ≠ some H := fun j hj e => by have := (Lies.lt h j hj).1; have : j = H := Option.some.inj e; omega
  have h2 : ∀ j ∈ bs, some j ≠ some (H + 1) := fun j hj e => by have := (Lies.lt h j hj).1; have : j = H + 1 := Option.some.inj e; omega
  exact Lies.kept (Heap.grown_set _ ⟨H + 1, 1, none⟩ v3) (Lies.kept (Heap.grown_set _ ⟨H + 1, 0, none⟩ v2) (Lies.kept (Heap.grown_set _ ⟨H, 1, none⟩ v1) (Lies.kept (Heap.grown_set _ ⟨H, 0, none⟩ v0) h h1) h1) h2) h2
theorem LiesL.two {w : World} {B : Nat} {d1 d2 : Dat} {x1 x2 : Value} {b1 b2 : List Nat} (h1 : Lies w B d1 x1 b1) (h2 : Lies w B d2 x2 b2) : LiesL w B [d1, d2] [x1, x2] (b1 ++ b2) := by
  have := LiesL.more h1 (LiesL.one h2); exact this

set_option maxRecDepth 100000 in
set_option maxHeartbeats 4000000 in
/-- a row of tokens -/
theorem text_good {s : ByteArray} {w : World} {m : Int} {T : List Tok} {o : Out Tx} (hs : s.size ≤ 140737488351232) (hm : w.cell? ⟨0, 0, none⟩ = some (.int .i64 m)) (h : toks s.data.toList = .good T) (ho : TextR T o) :
    Calls Try.prog 14 #[.string s] w (TextQ w o) := by
  obtain ⟨hTold, hsz⟩ := toks_told h
  obtain ⟨ti0, hi0, hz0', hz1', hz2'⟩ := info_parts deInfo
  obtain ⟨ti1, hi1, hy0', hy1', hy2'⟩ := info_parts ruInfo
  have HT := Lib.hid h; clear h
  have HM := Lib.hid (start_max hm)
  have H1 := Lib.hid (start_text w); have H2 := Lib.hid (start_fault w)
  have hz0 := start_size w
  have hmf : ∀ (fn : Fn) (first cap : Array Value) (w : World), (Instr.makeFunc fn first cap).run Try.prog w = .ok (.func fn first cap) w := fun _ _ _ _ => rfl
  have HS := Lib.hid (fun w1 g c => TxS.start (w := w) (w1 := w1) (g := g) (c := c) (T := T))
  have hT2 : T.length ≤ 1000000 := by have := hTold.len; omega
  have hTE := Lib.hid hTold.ends
  have hTA := Lib.hid (show ∀ i, (Ready.tok T i).at_ ≤ 1000000000 from fun i => by have := hTold.at_ i; omega)
  have hTW := Lib.hid (show ∀ i, isK T i 1 = true → (Ready.tok T i).text ≠ [112, 114, 101, 99] → (Ready.tok T i).text ∈ six from fun i h1 h2 => six_of (hTold.words i h1) h2)
  obtain ⟨od, hod, hp1, hp2⟩ := text_parts ho
  have HOD := Lib.hid hod; have HP1 := Lib.hid hp1; have HP2 := Lib.hid hp2
  clear hm hTold ho hod hp1 hp2
  go_enter_defers Try.func14, Try.ntmps14
  go_wp2_with (go_at_call 10; go_loud (refine (tokens_good hs HM.out HT.out).mono ?_; rintro e1 w1 ⟨g, cap, rfl, hg1, hg2, hcap, hmax, htk, hb1⟩; have hz1 := hb1.size; have y1 := (hb1.block w.heap.size (by show _ < (start w).heap.size; omega)).trans H1.out; have y2 := (hb1.block (w.heap.size + 1) (by show _ < (start w).heap.size; omega)).trans H2.out; obtain ⟨q1, q2, q3, q4⟩ := cells2 y1; obtain ⟨r1, r2, r3, r4⟩ := cells2 y2; have S0 := Lib.hid (HS.out w1 g cap hb1 hg1 hg2 htk); clear htk))
  clear q1 q2 q3 q4 r1 r2 r3 r4 y1 y2 hb1 hz1 HM H1 H2 HS hg1 hg2
  generalize ((w1.setCell ⟨w.heap.size + 1, 0, none⟩ (.int .i64 0)).setCell ⟨w.heap.size + 1, 1, none⟩ (.int .i64 0)).alloc (.cells #[.slice (some ⟨g, 0, none⟩) T.length cap, .int .i64 0] 75) = W at *
  generalize w1.heap.size = b at *
  go_loopg [] T.length (fun gk wr => ∃ (k : Nat) (ds : List De), k < T.length ∧ T.length - k ≤ gk ∧ ds.length ≤ k ∧ DeclsR T k ds od ∧ TxS w wr b g cap T k ds [])
  case atStart => exact ⟨0, [], hTE.out.pos, by omega, by simp, HOD.out, S0.out⟩
  case round =>
    clear S0
    obtain ⟨k, ds, hk, hgk, hdl, hdr, hS⟩ := hrel
    have D := Lib.hid hS; clear hS
    have HDR := Lib.hid hdr; clear hdr
    have hbb := D.out.hb
    have hgb := D.out.gb
    cases h1 : isK T k 1 with
    | true =>
      have HIS := Lib.hid (is_kind (kz := 1) D.out.rr hk hT2 h1 rfl)
      go_wp2_with (go_at_call 35; refine (HIS.out).mono ?_; rintro e w2 ⟨rfl, hb2⟩; have D2 := Lib.hid (D.out.new hb2))
      obtain ⟨vd, vr, bd, br, hH, hLd, hLr, hnd⟩ := D2.out.row
      obtain ⟨oa, oc, rfl⟩ := row_slice hLd
      obtain ⟨cc, _, ff, _⟩ := cells2 hH
      have hR2 := D2.out.rr
      have hbl := hR2.bl
      have hndd := (List.nodup_append.1 hnd).1
      refine append8 (α := Option Addr × Nat × De) (val := fun x => .agg #[.string (bs x.2.2.kind), .string (bs x.2.2.type), .slice x.1 x.2.2.names.length x.2.1, .int .i64 (x.2.2.at_ : Int)]) (us := fun x => [.string (bs x.2.2.kind), .string (bs x.2.2.type), .slice x.1 x.2.2.names.length x.2.1, .int .i64 (x.2.2.at_ : Int)]) (ds := fun x => deD x.2.2) (X := fun x u => ∃ k1, declL T k = .ok x.2.2 k1 ∧ w2.grownBy u (some b) ∧ Rr u b g cap T k1) (S2 := fun _ => True) (rr := some b) (H := w.heap.size) (fo := 0) (B := b + 1) (bk := bd) (items := desD ds) (n := ds.length) (E := 45) (S := 4) (R := 36) (bytes := 64) (ti := ti0) (z := .agg #[.string { data := #[] }, .string { data := #[] }, .slice none 0 0, .int .i64 0]) (v2 := .pointer (some ⟨b, 0, none⟩)) (f := 36) (args := #[.pointer (some ⟨b, 0, none⟩)]) (by kernel_rfl) (by kernel_rfl) (Loose.less (loose_block (loose_then (loose_block (loose_then loose_text)))) (fun d hd => by simp at hd; rcases hd with rfl | rfl | rfl | rfl | rfl <;> simp)) cc ff hLd hndd (by omega) (by omega) Try.underlying36 hi0 hz0' hz1' hz2' (by rfl) (by omega) (by omega) (by omega) ?hus ?y0 ?y1 trivial (fun _ _ _ => trivial) ?y2 ?y3 ?hc ?y4 (by rfl) ?y5a ?y5b ?y6 ?y7 ?hfin
      case hus => intro x; exact ⟨rfl, rfl, by simp [Value.oneCell']⟩
      case y0 => intro u; go_simp
      case y1 => intro u hu; go_simp
      case y2 => intro u _; go_simp
      case y3 => intro u; go_simp
      case y4 => intro x u; go_simp
      case y5a => intro x v4; rfl
      case y5b => intro x v4; rfl
      case y6 => intro x v4 v5 u; go_simp
      case y7 => intro x v4 gg cp u h0 h1; go_simp
      case hc =>
        refine (decl_any hTW.out hTE.out hT2 (hR2.drewN 1) hk h1).mono ?_
        intro e w3 hq
        cases hd : declL T k with
        | bad x p =>
          rw [hd] at hq
          obtain ⟨rfl, hg⟩ := hq
          refine .inl ⟨_, rfl, ?_⟩
          rw [HP1.out _ _ (decls_bad HDR.out h1 hd)]
          exact text_thrown D2.out (kept_b (Below.refl _ w2).drew hg) rfl rfl
        | ok x k1 =>
          rw [hd] at hq
          obtain ⟨na, nc, bx, rfl, hLx, hndx, hgx, hRx⟩ := hq
          exact .inr ⟨(na, nc, x), bx, rfl, ⟨k1, rfl, kept_b (Below.refl _ w2).drew hgx, hRx⟩, trivial, ⟨hLx, hndx, kept_b (Below.refl _ w2).drew hgx, fun j hj => by cases hj; omega⟩⟩
      case hfin =>
        rintro ⟨na, nc, x⟩ w3 wa gg cp bk' v4 ⟨k1, hd, hg3, hR3⟩ ⟨r, hgr, hrb⟩ hgw' hL' hnd' hbk hsz hH'
        have hpw := declL_past hTE.out hk h1 x k1 hd
        have hmore := D2.out.moreD (ds' := ds ++ [x]) hH hLd hLr hnd hg3 hR3 hgr hrb (by rw [desD_snoc, List.length_append]; exact hL') hnd' hbk
        show (_ : Act → World → Prop) _ _
        refine (by assumption : ∀ a' w', Handed _ _ a' w' → _) _ _ ?_
        go_roundg (T.length - k1)
        case measure => omega
        case rel => exact ⟨k1, ds ++ [x], hpw.2, by omega, by simp; omega, decls_next HDR.out h1 hd, hmore⟩
    | false =>
      have HIS := Lib.hid (is_kind (kz := 1) D.out.rr hk hT2 h1 rfl)
      have HOK := Lib.hid (decls_stop HDR.out h1)
      obtain ⟨hq1, hq2⟩ := HP2.out _ _ HOK.out
      have HQ1 := Lib.hid hq1; have HQ2 := Lib.hid hq2
      clear h1 hq1 hq2
      cases h2 : isT T k 6 [37, 37] with
      | false =>
        have HDB := Lib.hid (HQ1.out h2)
        have HM4 := Lib.hid h2; clear h2
        go_wp2_with (first | (go_at_call 37; refine (must_one_f (t := [37, 37]) (cp := 1) (D2.out.rr.new ((Below.refl _ _).alloc (Nat.le_refl _) (.cells #[.string (bs [37, 37])] 9))) hk hT2 (text_at2 rfl rfl) HM4.out rfl).mono ?_; rintro e w5 ⟨rfl, hb5⟩; have D5 := Lib.hid ((D2.out.new ((Below.refl _ _).alloc (Nat.le_refl _) _)).new hb5)) | (go_at_call 35; refine (HIS.out).mono ?_; rintro e w2 ⟨rfl, hb2⟩; have D2 := Lib.hid (D.out.new hb2)))
        rw [HDB.out]
        exact text_thrown D5.out (Heap.grown_below (Below.refl _ _) _) rfl rfl
      | true =>
        obtain ⟨or, hor, hp1, hp2⟩ := HQ2.out h2
        have HOR := Lib.hid hor; have HR1 := Lib.hid hp1; have HR2 := Lib.hid hp2
        have HK1 := hTE.out.ltT hk h2
        have HM4 := Lib.hid h2; clear h2 hor hp1 hp2
        go_wp2_with (first | (go_at_call 37; refine (must_one_t (t := [37, 37]) (cp := 1) (D2.out.rr.new ((Below.refl _ _).alloc (Nat.le_refl _) (.cells #[.string (bs [37, 37])] 9))) hk hT2 (text_at2 rfl rfl) HM4.out rfl).mono ?_; rintro e w5 ⟨rfl, hg5, hR5⟩; have D5 := Lib.hid ((D2.out.new ((Below.refl _ _).alloc (Nat.le_refl _) _)).go hg5 hR5)) | (go_at_call 35; refine (HIS.out).mono ?_; rintro e w2 ⟨rfl, hb2⟩; have D2 := Lib.hid (D.out.new hb2)))
        clear HIS HM4 HQ2 HQ1 hg5 hR5
        have hgw5 : D2.out.rr.bl = D2.out.rr.bl := rfl
        clear hgw5 D2 D HOK
        have S0 := D5
        clear D5
        go_loopg [] T.length (fun gk wr => ∃ (k : Nat) (rs : List Ru), k < T.length ∧ T.length - k ≤ gk ∧ rs.length ≤ k ∧ RulesR T k rs or ∧ TxS w wr b g cap T k ds rs)
        case atStart => exact ⟨k + 1, [], HK1, by omega, by simp, HOR.out, S0.out⟩
        case round =>
          clear S0 hk HK1 hgk hdl
          obtain ⟨j, rs, hj, hgj, hrl, hrr, hS⟩ := hrel
          have D := Lib.hid hS; clear hS
          have HRR := Lib.hid hrr; clear hrr
          cases h1 : isK T j 7 with
          | false =>
            have HIS := Lib.hid (is_kind (kz := 7) D.out.rr hj hT2 h1 rfl)
            obtain ⟨ro, hro, hb1, hb2⟩ := rules_more HRR.out h1
            have HRO := Lib.hid hro; have HB1 := Lib.hid hb1; have HB2 := Lib.hid hb2; clear hro hb1 hb2
            go_wp2_with (go_at_call 35; refine (HIS.out).mono ?_; rintro e w7 ⟨rfl, hb7⟩; have D2 := Lib.hid (D.out.new hb7))
            obtain ⟨vd, vr, bd, br, hH, hLd, hLr, hnd⟩ := D2.out.row
            obtain ⟨oa, oc, rfl⟩ := row_slice hLr
            obtain ⟨_, cc, _, ff⟩ := cells2 hH
            have hR2 := D2.out.rr
            have hbl := hR2.bl
            have hndr := (List.nodup_append.1 hnd).2.1
            refine append8 (α := Option Addr × Nat × Option Addr × Nat × Ru) (val := fun x => .agg #[.string (bs x.2.2.2.2.name), .slice x.1 x.2.2.2.2.params.length x.2.1, .slice x.2.2.1 x.2.2.2.2.alts.length x.2.2.2.1, .int .i64 (x.2.2.2.2.at_ : Int)]) (us := fun x => [.string (bs x.2.2.2.2.name), .slice x.1 x.2.2.2.2.params.length x.2.1, .slice x.2.2.1 x.2.2.2.2.alts.length x.2.2.2.1, .int .i64 (x.2.2.2.2.at_ : Int)]) (ds := fun x => ruD x.2.2.2.2) (X := fun x u => ∃ k1, ro = .ok x.2.2.2.2 k1 ∧ w7.grownBy u (some b) ∧ Rr u b g cap T k1) (S2 := fun _ => True) (rr := some b) (H := w.heap.size) (fo := 1) (B := b + 1) (bk := br) (items := rusD rs) (n := rs.length) (E := 48) (S := 4) (R := 37) (bytes := 72) (ti := ti1) (z := .agg #[.string { data := #[] }, .slice none 0 0, .slice none 0 0, .int .i64 0]) (v2 := .pointer (some ⟨b, 0, none⟩)) (f := 38) (args := #[.pointer (some ⟨b, 0, none⟩)]) (by kernel_rfl) (by kernel_rfl) (Loose.less (loose_block (loose_then (loose_block (loose_then loose_text)))) (fun d hd => by simp at hd; rcases hd with rfl | rfl | rfl | rfl | rfl <;> simp)) cc ff hLr hndr (by omega) (by omega) Try.underlying37 hi1 hy0' hy1' hy2' (by rfl) (by omega) (by omega) (by omega) ?hus ?y0 ?y1 trivial (fun _ _ _ => trivial) ?y2 ?y3 ?hc ?y4 (by rfl) ?y5a ?y5b ?y6 ?y7 ?hfin
            case hus => intro x; exact ⟨rfl, rfl, by simp [Value.oneCell']⟩
            case y0 => intro u; go_simp
            case y1 => intro u hu; go_simp
            case y2 => intro u _; go_simp
            case y3 => intro u; go_simp
            case y4 => intro x u; go_simp
            case y5a => intro x v4; rfl
            case y5b => intro x v4; rfl
            case y6 => intro x v4 v5 u; go_simp
            case y7 => intro x v4 gg cp u h0 h1; go_simp
            case hc =>
              refine (rule_any hTA.out hTE.out hT2 (hR2.drewN 1) hj HRO.out).mono ?_
              intro e w3 hq
              cases ro with
              | bad x p =>
                obtain ⟨rfl, hg⟩ := hq
                refine .inl ⟨_, rfl, ?_⟩
                rw [HR1.out _ _ (HB1.out _ _ rfl)]
                exact text_thrown D2.out (kept_b (Below.refl _ w7).drew hg) rfl rfl
              | ok x k1 =>
                obtain ⟨na, ma, nc, mc, bx, rfl, hLx, hndx, hgx, hRx⟩ := hq
                exact .inr ⟨(na, nc, ma, mc, x), bx, rfl, ⟨k1, rfl, kept_b (Below.refl _ w7).drew hgx, hRx⟩, trivial, ⟨hLx, hndx, kept_b (Below.refl _ w7).drew hgx, fun j hj => by cases hj; omega⟩⟩
            case hfin =>
              rintro ⟨na, nc, ma, mc, x⟩ w3 wa gg cp bk' v4 ⟨k1, rfl, hg3, hR3⟩ ⟨r, hgr, hrb⟩ hgw' hL' hnd' hbk hsz hH'
              have hpw := rule_past hTE.out HRO.out hj
              have hmore := D2.out.moreR (rs' := rs ++ [x]) hH hLd hLr hnd hg3 hR3 hgr hrb (by rw [rusD_snoc, List.length_append]; exact hL') hnd' hbk
              show (_ : Act → World → Prop) _ _
              refine (by assumption : ∀ a' w', Handed _ _ a' w' → _) _ _ ?_
              go_roundg (T.length - k1)
              case measure => omega
              case rel => exact ⟨k1, rs ++ [x], hpw.2, by omega, by simp; omega, HB2.out _ _ rfl, hmore⟩
          | true =>
            have HIS := Lib.hid (is_kind (kz := 7) D.out.rr hj hT2 h1 rfl)
            have HOK := Lib.hid (HR2.out _ _ (rules_stop HRR.out h1))
            clear h1
            go_wp2_with (go_at_call 35; refine (HIS.out).mono ?_; rintro e w7 ⟨rfl, hb7⟩; have D2 := Lib.hid (D.out.new hb7); obtain ⟨vd, vr, bd, br, hH, hLd, hLr, hnd⟩ := D2.out.row; obtain ⟨da, dc, rfl⟩ := row_slice hLd; obtain ⟨ra, rc, rfl⟩ := row_slice hLr; have hF := D2.out.hf; have hbel := D2.out.below; obtain ⟨q1, q2, q3, q4⟩ := cells2 hH; obtain ⟨r1, r2, r3, r4⟩ := cells2 hF; have K2 := Lib.hid hH; have K1 := Lib.hid hF; have HLD := Lib.hid hLd; have HLR := Lib.hid hLr; have HND := Lib.hid hnd; clear hH hF hLd hLr hnd)
            have z1 := heap_setCell_same _ w.heap.size 1 _ _ (.slice ra rs.length rc) (heap_setCell_same w7 w.heap.size 0 _ _ (.slice da ds.length dc) K2.out)
            have z2 := ((Below.heap_setCell _ ⟨w.heap.size, 1, none⟩ (.slice ra rs.length rc) (w.heap.size + 1) (by simp)).trans (Below.heap_setCell w7 ⟨w.heap.size, 0, none⟩ (.slice da ds.length dc) (w.heap.size + 1) (by simp))).trans K1.out
            have z3 := heap_setCell_same _ (w.heap.size + 1) 1 _ _ (.int .i64 0) (heap_setCell_same _ (w.heap.size + 1) 0 _ _ (.int .i64 0) z2)
            have z4 := ((Below.heap_setCell _ ⟨w.heap.size + 1, 1, none⟩ (.int .i64 0) w.heap.size (by simp)).trans (Below.heap_setCell _ ⟨w.heap.size + 1, 0, none⟩ (.int .i64 0) w.heap.size (by simp))).trans z1
            refine leaves_cons (f := 34) (args := #[.pointer (some ⟨w.heap.size + 1, 0, none⟩), .pointer (some ⟨w.heap.size, 0, none⟩)]) (by simp) (by simp [go_sem]) ?_
            refine (ReadO.catch_idle _ _ _).mono ?_
            rintro e u' w3 ⟨rfl, rfl, rfl⟩
            refine ⟨_, res_text z4 z3 rfl rfl, ?_⟩
            rw [HOK.out]
            exact ⟨da, ra, dc, rc, bd ++ br, rfl, LiesL.base (show w.heap.size ≤ b + 1 by omega) (LiesL.two (lies_far4 HLD.out (by omega) _ _ _ _) (lies_far4 HLR.out (by omega) _ _ _ _)), HND.out, (((hbel.setCell (p := ⟨w.heap.size, 0, none⟩) (Nat.le_refl _) _).setCell (p := ⟨w.heap.size, 1, none⟩) (Nat.le_refl _) _).setCell (p := ⟨w.heap.size + 1, 0, none⟩) (Nat.le_succ _) _).setCell (p := ⟨w.heap.size + 1, 1, none⟩) (Nat.le_succ _) _⟩

/-- THE READER: what it tells of any source -/
theorem text_any {s : ByteArray} {w : World} {m : Int} {o : Out Tx} (hs : s.size ≤ 140737488351232) (hm : w.cell? ⟨0, 0, none⟩ = some (.int .i64 m)) (ho : SaysR s.data.toList o) :
    Calls Try.prog 14 #[.string s] w (TextQ w o) := by
  cases ho with
  | bad h => exact text_bad hs hm h
  | good h h1 => exact text_good hs hm h h1
/-- each source says something -/
theorem says (s : List UInt8) : ∃ o, SaysR s o := by
  cases h : toks s with
  | bad e p => exact ⟨_, .bad h⟩
  | good l =>
    obtain ⟨o, ho⟩ := total_text (toks_told h).1.ends
    exact ⟨o, .good h ho⟩
end Go.Proofs.Ytelpkldlkpoioaa.ReadQ
