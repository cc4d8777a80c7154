/- The lexer's tokens written out and told again: the stage's theorem, walked. -/
import Derived.Test.YtelpkldlkpoioaaLexH
import Derived.Lib.AppendStr
import Derived.Lib.UnsafeStr
namespace Go.Proofs.Ytelpkldlkpoioaa.LexK
open Go.RowKit Go.Proofs.Ytelpkldlkpoioaa.Lexy Go.Proofs.Ytelpkldlkpoioaa.LexA Go.Proofs.Ytelpkldlkpoioaa.LexB Go.Proofs.Ytelpkldlkpoioaa.LexC Go.Proofs.Ytelpkldlkpoioaa.LexD Go.Proofs.Ytelpkldlkpoioaa.LexE Go.Proofs.Ytelpkldlkpoioaa.LexF Go.Proofs.Ytelpkldlkpoioaa.LexG Go.Proofs.Ytelpkldlkpoioaa.LexH

theorem bare_len {m l : List Tok} (h : bare m = bare l) : m.length = l.length := by
  have := congrArg List.length h; simpa [bare] using this
theorem bare_at {m l : List Tok} (h : bare m = bare l) (i : Nat) (hi : i < l.length) : (tk m i).kind = (tk l i).kind ∧ (tk m i).text = (tk l i).text := by
  have hm := bare_len h
  have h1 := congrArg (fun x => x[i]?) h
  have e1 : m[i]? = some m[i] := List.getElem?_eq_getElem (by omega)
  have e2 : l[i]? = some l[i] := List.getElem?_eq_getElem hi
  simp [bare, e1, e2] at h1
  simp [tk, List.getD_eq_getElem?_getD, e1, e2, h1]

/-- kinds and texts lie in a block -/
def IsAl (w : World) (g : Nat) (l : List Tok) : Prop :=
  ∀ i, i < l.length → w.cell? ⟨g, i * 3, none⟩ = some (.int .u8 ((tk l i).kind : Int)) ∧ w.cell? ⟨g, i * 3 + 1, none⟩ = some (.string (bs (tk l i).text))
theorem IsToks.al {w : World} {g : Nat} {l : List Tok} (h : IsToks w g l) : IsAl w g l := fun i hi => ⟨(h i hi).1, (h i hi).2.1⟩
theorem IsToks.al_of {w : World} {g : Nat} {m l : List Tok} (h : IsToks w g m) (hb : bare m = bare l) : IsAl w g l := fun i hi => by
  have h1 := h i (by rw [bare_len hb]; exact hi)
  have h2 := bare_at hb i hi
  rw [← h2.1, ← h2.2]; exact ⟨h1.1, h1.2.1⟩

set_option maxHeartbeats 1000000 in
theorem alike_any {w : World} {g1 g2 c1 c2 : Nat} {l : List Tok} (h1 : IsAl w g1 l) (h2 : IsAl w g2 l) (hl : l.length ≤ 1000000) :
    Calls Try.prog 11 #[.slice (some ⟨g1, 0, none⟩) l.length c1, .slice (some ⟨g2, 0, none⟩) l.length c2] w fun e w' => e = .returned (.bool true) ∧ ∃ n, w' = w.drewN n := by
  have H1 := Lib.hid h1; have H2 := Lib.hid h2; clear h1 h2
  go_enter Try.func11, Try.ntmps11
  go_wp2
  go_loopg [5] l.length (fun gk i wr => ∃ (k n : Nat), k ≤ l.length ∧ gk = l.length - k ∧ i = .int .i64 (k : Int) ∧ wr = w.drewN n)
  case atStart => exact ⟨0, 0, by omega, by omega, rfl, rfl⟩
  case round =>
    obtain ⟨k, n, hk, rfl, rfl, rfl⟩ := hrel
    by_cases hlt : k < l.length
    · obtain ⟨a1, a2⟩ := H1.out k hlt
      obtain ⟨b1, b2⟩ := H2.out k hlt
      have j0 : (0 : Int) ≤ (k : Int) := by omega
      have j1 : (k : Int) < (l.length : Int) := by omega
      go_wp2
      go_quiet (fail)
      go_wp2
      go_roundg (l.length - (k + 1))
      case measure => omega
      case rel => exact ⟨k + 1, _, by omega, rfl, by go_num, rfl⟩
    · go_wp2
      go_ret
      exact ⟨rfl, n, rfl⟩

/-! a source has no more tokens than bytes -/
theorem fine_pos {t : Tok} (h : t.fine) : 0 < (render t.kind t.text).length := by
  rcases Nat.eq_zero_or_pos (render t.kind t.text).length with h0 | h0
  · have e := List.eq_nil_of_length_eq_zero h0
    have := h.2 []
    rw [e] at this
    have h3 : tokL ([] ++ 32 :: []) = .bad 100 := by decide +kernel
    rw [h3] at this; cases this
  · exact h0
theorem chain_count (s : List UInt8) : ∀ (l : List Tok) (b : Nat), b ≤ s.length → chain s b l → (∀ t ∈ l, t.fine) → b + l.length ≤ s.length
  | [], b, hb, _, _ => by simpa using hb
  | t :: l, b, hb, hc, hf => by
    obtain ⟨h1, h2, _, h3⟩ := hc
    have hp := fine_pos (hf t (List.mem_cons_self ..))
    have := chain_count s l _ h2 h3 fun u hu => hf u (List.mem_cons_of_mem _ hu)
    simp only [List.length_cons]; omega
theorem toks_count {s : List UInt8} {l : List Tok} (h : toks s = .good l) : l.length ≤ s.length + 1 := by
  unfold toks at h
  split at h
  · cases h
  · have := lexA_shape s s.length 0 (by omega) (by omega)
    simp only [List.drop_zero, h] at this
    obtain ⟨ts, rfl, h2, h3⟩ := this
    have := chain_count s ts 0 (by omega) h2 h3
    simp; omega

/-- a row of bytes of the call's own, as a string -/
theorem conv_own {w : World} {base : Nat} {v : Value} {l : List UInt8} (h : w.ownsRow base 5 1 v l.length (Lib.strCells (bs l))) :
    (convert 32 9 v).run Try.prog w = .ok (.string (bs l)) w := by
  have h0 := h
  rcases h.2 with ⟨rfl, hn⟩ | ⟨g, cap, cur, rfl, hb, hg, h1, h2, h3, _⟩
  · obtain rfl := List.eq_nil_of_length_eq_zero hn
    exact run_convert_bytes_nil _ 32 5 Try.underlying32 Try.underlying5 0 0 9 Try.underlying9
  · have := run_convert_bytes_arg (P := Try.prog) w 32 5 Try.underlying32 Try.underlying5 g 0 l.length cap (l.map fun c => (c.toNat : Int)) (by simp) (fun i hi => by
      rw [Nat.zero_add, h0.cellAt i (by omega)]
      have e2 : l[i]? = some l[i] := List.getElem?_eq_getElem hi
      simp [Lib.strCells, bs, e2, List.getD_eq_getElem?_getD]) 9 Try.underlying9
    have e : strOfNums (l.map fun c => (c.toNat : Int)) = bs l := by
      apply ByteArray.ext; apply Array.ext'
      rw [strOfNums_data, List.map_map]
      exact (List.map_congr_left fun c _ => by simp).trans (List.map_id l)
    rw [this, e]

theorem chain_at (s : List UInt8) : ∀ (l : List Tok) (b k : Nat), chain s b (l.drop k) → k < l.length →
    b ≤ (tk l k).at_ ∧ (tk l k).at_ + (render (tk l k).kind (tk l k).text).length ≤ s.length ∧ (s.drop (tk l k).at_).take (render (tk l k).kind (tk l k).text).length = render (tk l k).kind (tk l k).text ∧ chain s ((tk l k).at_ + (render (tk l k).kind (tk l k).text).length) (l.drop (k + 1)) := by
  intro l b k h hk
  have e : l.drop k = tk l k :: l.drop (k + 1) := by
    rw [List.drop_eq_getElem_cons hk]
    congr 1
    simp [tk, List.getD_eq_getElem?_getD, List.getElem?_eq_getElem hk]
  rw [e] at h
  exact h
theorem renderAll_take (l : List Tok) (k : Nat) (hk : k < l.length) : renderAll (l.take (k + 1)) = renderAll (l.take k) ++ (render (tk l k).kind (tk l k).text ++ [32]) := by
  have e : l.take (k + 1) = l.take k ++ [tk l k] := by
    rw [List.take_succ_eq_append_getElem hk]
    congr 2
    simp [tk, List.getD_eq_getElem?_getD, List.getElem?_eq_getElem hk]
  rw [e]; simp [renderAll]
theorem tk_app (l : List Tok) (x : Tok) (k : Nat) (hk : k < l.length) : tk (l ++ [x]) k = tk l k := by
  simp [tk, List.getD_eq_getElem?_getD, List.getElem?_append_left hk]
theorem tk_last (l : List Tok) (x : Tok) : tk (l ++ [x]) l.length = x := by
  simp [tk, List.getD_eq_getElem?_getD]
/-- a text stands at its place -/
theorem stands_at (s : ByteArray) (p : Nat) (r : List UInt8) (x : ByteArray) (hx : x.data.toList = r) (h : (s.data.toList.drop p).take r.length = r) : ((s.extract p (p + r.length)).toList == x.toList) = true := by
  rw [ByteArray.toList_eq, ByteArray.toList_eq, hx]
  refine beq_iff_eq.2 ?_
  rw [ByteArray.data_extract, Array.toList_extract]
  rw [List.extract_eq_take_drop]
  rw [show p + r.length - p = r.length by omega]
  exact h

theorem byteInfo : (Try.prog.info? 5).map (fun i => (i.zero, i.size, i.bytes)) = some (some (.int .u8 0), 1, 1) := by kernel_rfl
theorem own_step {w : World} {base e : Nat} {v : Value} {A r : List UInt8} {X : ByteArray} (hX : X.data.toList = r) (h : w.ownsRow base e 1 v (A.length + X.size + 1) (Lib.strCells (bs A) ++ Lib.strCells X ++ [.int .u8 32])) :
    w.ownsRow base e 1 v (A ++ (r ++ [32])).length (Lib.strCells (bs (A ++ (r ++ [32])))) := by
  have e1 : (A ++ (r ++ [32])).length = A.length + X.size + 1 := by rw [szL, hX]; simp; omega
  have e2 : Lib.strCells (bs (A ++ (r ++ [32]))) = Lib.strCells (bs A) ++ Lib.strCells X ++ [.int .u8 32] := by
    simp [Lib.strCells, bs, hX]
  rw [e1, e2]; exact h
theorem own_slice {w : World} {base e size : Nat} {v : Value} {n : Nat} {xs : List Value} (h : w.ownsRow base e size v n xs) : ∃ a c, v = .slice a n c := by
  rcases h.2 with ⟨rfl, rfl⟩ | ⟨g, cap, cur, rfl, _⟩
  · exact ⟨none, 0, rfl⟩
  · exact ⟨_, _, rfl⟩

set_option maxRecDepth 100000 in
set_option maxHeartbeats 4000000 in
theorem back_any {s : ByteArray} {w : World} {m : Int} (hm : w.cell? ⟨0, 0, none⟩ = some (.int .i64 m)) :
    Calls Try.prog 3 #[.string s] w fun e w' => e = .returned (.bool true) ∧ Below w.heap.size w w' := by
  have hml := World.block_lt_of_cell? w _ hm
  simp only at hml
  by_cases hs : (s.size : Int) ≤ 70000
  case neg =>
    go_enter Try.func3, Try.ntmps3
    go_wp2_with (go_at_call 9; refine (awake_any hm).mono ?_; rintro e w1 ⟨rfl, hb⟩)
    go_ret
    exact ⟨rfl, hb⟩
  have hs2 : s.size ≤ 140737488351232 := by omega
  cases ht : toks s.data.toList with
  | bad x p =>
    have hx := toks_bad _ _ _ ht
    have hx0 : ((x : Int) == 0) = false := beq_eq_false_iff_ne.2 (by omega)
    have hp0 : (0 : Int) ≤ (p : Int) := by omega
    have HT := Lib.hid ht; clear ht
    by_cases hlt : (p : Int) < (s.size : Int)
    · go_enter Try.func3, Try.ntmps3
      go_wp2_with (first | (go_at_call 9; refine (awake_any hm).mono ?_; rintro e w1 ⟨rfl, hb1⟩; have hz1 := hb1.size; have hm1 := (hb1.cell (p := ⟨0, 0, none⟩) hml).trans hm) | (go_at_call 10; refine (tokens_bad hs2 hm1 HT.out).mono ?_; rintro e w2 ⟨rfl, hb2⟩))
      go_ret
      exact ⟨rfl, (hb1.trans (hb2.mono hz1)).alloc (by have := hb2.size; omega) _⟩
    · have hlong : (65536 : Int) < (s.size : Int) := by simp at hx hlt; omega
      clear hx
      go_enter Try.func3, Try.ntmps3
      go_wp2_with (first | (go_at_call 9; refine (awake_any hm).mono ?_; rintro e w1 ⟨rfl, hb1⟩; have hz1 := hb1.size; have hm1 := (hb1.cell (p := ⟨0, 0, none⟩) hml).trans hm) | (go_at_call 10; refine (tokens_bad hs2 hm1 HT.out).mono ?_; rintro e w2 ⟨rfl, hb2⟩))
      go_ret
      exact ⟨rfl, (hb1.trans (hb2.mono hz1)).alloc (by have := hb2.size; omega) _⟩
  | good l =>
    obtain ⟨ts, hl, hch, hbk⟩ := toks_back _ _ ht
    have hN : l.length = ts.length + 1 := by rw [hl]; simp
    have hc1 := toks_count ht
    have hlast : tk l ts.length = ⟨7, [], s.size⟩ := by rw [hl]; exact tk_last ..
    have hsub : (l.length : Int) - 1 = (ts.length : Int) := by omega
    have hne0 : ((l.length : Int) == 0) = false := beq_eq_false_iff_ne.2 (by omega)
    have hbe : (bs []).toList = [] := bs_toList []
    have hn0 : (0 : Int) ≤ (ts.length : Int) := by omega
    have hnl : (ts.length : Int) < (l.length : Int) := by omega
    simp at hc1
    have HT := Lib.hid ht; clear ht
    have HN := Lib.hid hN; clear hN
    have HL := Lib.hid hl; clear hl
    have HB := Lib.hid hbk; clear hbk
    have HC := Lib.hid hch; clear hch
    go_enter Try.func3, Try.ntmps3
    go_wp2_with (first | (go_at_call 9; refine (awake_any hm).mono ?_; rintro e w1 ⟨rfl, hb1⟩; have hz1 := hb1.size; have hm1 := (hb1.cell (p := ⟨0, 0, none⟩) hml).trans hm) | (go_at_call 10; refine (tokens_good hs2 hm1 HT.out).mono ?_; rintro e w2 ⟨g, cap, rfl, hg1, hg2, hg3, hg4, hg5, hb2⟩; have q0 := fun o => (IsToks.at hg5 hg2 ts.length _ (by have := HN.out; omega) rfl _ hlast o).1; have q1 := fun o => (IsToks.at hg5 hg2 ts.length _ (by have := HN.out; omega) rfl _ hlast o).2.1; have q2 := fun o => (IsToks.at hg5 hg2 ts.length _ (by have := HN.out; omega) rfl _ hlast o).2.2))
    have hb0 := (hb1.trans (hb2.mono hz1)).alloc (by have := hb2.size; omega) (.cells #[.int .i64 0, .int .i64 0] 26)
    have hT0 : IsToks (w2.alloc (.cells #[.int .i64 0, .int .i64 0] 26)) g l := fun i hi => IsToks.at hg5 hg2 i _ hi rfl _ rfl _
    have hgW : g < (w2.alloc (.cells #[.int .i64 0, .int .i64 0] 26)).heap.size := by simp; omega
    have hzW : w.heap.size ≤ (w2.alloc (.cells #[.int .i64 0, .int .i64 0] 26)).heap.size := hb0.size
    have hfW : (w2.alloc (.cells #[.int .i64 0, .int .i64 0] 26)).heap[w2.heap.size]? = some (.cells #[.int .i64 0, .int .i64 0] 26 (0, 0)) := heap_alloc_new w2 _
    have hw2 : w2.heap.size < (w2.alloc (.cells #[.int .i64 0, .int .i64 0] 26)).heap.size := by simp
    generalize w2.alloc (.cells #[.int .i64 0, .int .i64 0] 26) = W at *
    generalize w2.heap.size = F at *
    clear q0 q1 q2 hg5 hb2 hg2 hm1 hb1 hg1
    obtain ⟨i0, hi0, hz0, hz1', hz2⟩ := info_parts byteInfo
    go_loopg [5, 6, 7] ts.length (fun gk out bh i wr => ∃ (k b : Nat), k ≤ ts.length ∧ gk = ts.length - k ∧ i = .int .i64 (k : Int) ∧ bh = .int .i64 (b : Int) ∧ b ≤ s.size ∧ chain s.data.toList b (ts.drop k) ∧ (renderAll (ts.take k)).length ≤ b + k ∧
      wr.ownsRow W.heap.size 5 1 out (renderAll (ts.take k)).length (Lib.strCells (bs (renderAll (ts.take k)))) ∧ Below W.heap.size W wr)
    case atStart => exact ⟨0, 0, by omega, by omega, rfl, rfl, by omega, HC.out, by simp [renderAll], World.ownsRow_nil _ _ _ _, Below.refl _ _⟩
    case round =>
      obtain ⟨k, b, hk, rfl, rfl, rfl, hbs, hck, hrl, hown, hbel⟩ := hrel
      have hTk : IsToks wr g l := hT0.below hbel hgW
      have hzr := hbel.size
      by_cases hlt : k < ts.length
      · have htk : tk l k = tk ts k := by rw [HL.out]; exact tk_app _ _ _ hlt
        obtain ⟨c1, c2, c3, c4⟩ := chain_at _ ts b k hck hlt
        obtain ⟨a1, a2, a3⟩ := hTk k (by have := HN.out; omega)
        rw [htk] at a1 a2 a3
        have hrt := renderAll_take ts k hlt
        generalize tk ts k = t at *
        have hj : (k : Int) + 1 < (l.length : Int) := by have := HN.out; omega
        have j0 : (0 : Int) ≤ (k : Int) := by omega
        have j1 : (k : Int) < (l.length : Int) := by omega
        have hge : (b : Int) ≤ (t.at_ : Int) := by omega
        obtain ⟨r, hr⟩ : ∃ r, render t.kind t.text = r := ⟨_, rfl⟩
        have HR := Lib.hid hr
        rw [hr] at c2 c3 c4 hrt
        have hsl : s.data.toList.length = s.size := by simp
        have HRT := Lib.hid hrt; clear hrt
        have HC4 := Lib.hid c4; clear c4
        clear hr htk hck
        by_cases h1 : t.kind = 1
        · have k1 : ((t.kind : Int) == 1) = true := by rw [h1]; rfl
          obtain ⟨X, hcat⟩ : ∃ X, ({ data := #[37] } : ByteArray) ++ bs t.text = X := ⟨_, rfl⟩
          have hX : X.data.toList = r := by rw [← HR.out, ← hcat]; simp [render, h1, bs]
          clear h1
          have hXl : X.size = r.length := by rw [szL, hX]
          have hst := stands_at s t.at_ r X hX c3
          rw [← hXl] at hst c2
          have hfit : (t.at_ : Int) + (X.size : Int) ≤ (s.size : Int) := by omega
          have hfit2 : ¬ ((s.size : Int) < (t.at_ : Int) + (X.size : Int)) := by omega
          have hgeN : ¬ (t.at_ < b) := by omega
          have hts : (bs t.text).size ≤ 70000 := by have := congrArg ByteArray.size hcat; (try simp at this); omega
          have HX := Lib.hid hX
          have HXL := Lib.hid hXl
          clear c3 hX hXl hsl
          go_wp2_with (first | (at_builtin; refine Lib.wpList_append_own_string _ rfl _ _ _ _ rfl W.heap.size 5 i0 Try.underlying32 Try.underlying9 hi0 hz0 hz1' hz2 _ _ _ rfl hown X rfl (by unfold maxLen; omega) (by omega) (by omega) ?_; intro v1 w3 ho1 hgr1 _) | (at_builtin; refine wpList_append_lies _ rfl _ _ _ rfl W.heap.size 5 i0 _ 1 1 Try.underlying32 hi0 hz0 hz1' hz2 rfl (by omega) v1 _ _ rfl (ho1.alloc _) ⟨w3.heap.size, 0, none⟩ 1 1 [.int .u8 32] rfl rfl (by exact World.news_of_block (cs := #[.int .u8 32]) (t := 5) (fr := (0, 0)) (heap_alloc_new w3 _)) (by simp [Value.oneCell']) (by omega) (by unfold maxLen; omega) (by omega) (by have := hgr1.size; simp; omega) (w3.heap.size + 1) (by simp) ?_; intro gg cap2 w4 hown4 hgrow4 hat hlt4))
          have hbf : Below W.heap.size W w4 := ((hbel.grown hgr1 (by omega) (fun j hj => by have := (hown.lt _ hj).1; omega)).alloc (by have := hgr1.size; omega) _).grown hgrow4 (by have := hgr1.size; simp; omega) (fun j hj => by have := (ho1.lt _ hj).1; omega)
          go_roundg (ts.length - (k + 1))
          case measure => omega
          case rel =>
            refine ⟨k + 1, t.at_ + X.size, by omega, rfl, by go_num, by go_num, by omega, by rw [HXL.out]; exact HC4.out, ?_, ?_, hbf⟩
            · rw [HRT.out]; have := HXL.out; simp; omega
            · rw [HRT.out]; exact own_step HX.out hown4
        have k1 : ((t.kind : Int) == 1) = false := beq_eq_false_iff_ne.2 (by omega)
        by_cases h9 : t.kind = 9
        · have k9 : ((t.kind : Int) == 9) = true := by rw [h9]; rfl
          obtain ⟨X, hcat⟩ : ∃ X, ({ data := #[123] } : ByteArray) ++ bs t.text ++ { data := #[125] } = X := ⟨_, rfl⟩
          have hX : X.data.toList = r := by rw [← HR.out, ← hcat]; simp [render, h9, bs]
          clear h1 h9
          have hXl : X.size = r.length := by rw [szL, hX]
          have hst := stands_at s t.at_ r X hX c3
          rw [← hXl] at hst c2
          have hfit : (t.at_ : Int) + (X.size : Int) ≤ (s.size : Int) := by omega
          have hfit2 : ¬ ((s.size : Int) < (t.at_ : Int) + (X.size : Int)) := by omega
          have hgeN : ¬ (t.at_ < b) := by omega
          have hts : (bs t.text).size ≤ 70000 := by have := congrArg ByteArray.size hcat; (try simp at this); omega
          have HX := Lib.hid hX
          have HXL := Lib.hid hXl
          clear c3 hX hXl hsl
          go_wp2_with (first | (at_builtin; refine Lib.wpList_append_own_string _ rfl _ _ _ _ rfl W.heap.size 5 i0 Try.underlying32 Try.underlying9 hi0 hz0 hz1' hz2 _ _ _ rfl hown X rfl (by unfold maxLen; omega) (by omega) (by omega) ?_; intro v1 w3 ho1 hgr1 _) | (at_builtin; refine wpList_append_lies _ rfl _ _ _ rfl W.heap.size 5 i0 _ 1 1 Try.underlying32 hi0 hz0 hz1' hz2 rfl (by omega) v1 _ _ rfl (ho1.alloc _) ⟨w3.heap.size, 0, none⟩ 1 1 [.int .u8 32] rfl rfl (by exact World.news_of_block (cs := #[.int .u8 32]) (t := 5) (fr := (0, 0)) (heap_alloc_new w3 _)) (by simp [Value.oneCell']) (by omega) (by unfold maxLen; omega) (by omega) (by have := hgr1.size; simp; omega) (w3.heap.size + 1) (by simp) ?_; intro gg cap2 w4 hown4 hgrow4 hat hlt4))
          have hbf : Below W.heap.size W w4 := ((hbel.grown hgr1 (by omega) (fun j hj => by have := (hown.lt _ hj).1; omega)).alloc (by have := hgr1.size; omega) _).grown hgrow4 (by have := hgr1.size; simp; omega) (fun j hj => by have := (ho1.lt _ hj).1; omega)
          go_roundg (ts.length - (k + 1))
          case measure => omega
          case rel =>
            refine ⟨k + 1, t.at_ + X.size, by omega, rfl, by go_num, by go_num, by omega, by rw [HXL.out]; exact HC4.out, ?_, ?_, hbf⟩
            · rw [HRT.out]; have := HXL.out; simp; omega
            · rw [HRT.out]; exact own_step HX.out hown4
        · have k9 : ((t.kind : Int) == 9) = false := beq_eq_false_iff_ne.2 (by omega)
          obtain ⟨X, hcat⟩ : ∃ X, bs t.text = X := ⟨_, rfl⟩
          have hX : X.data.toList = r := by rw [← HR.out, ← hcat]; simp [render, h1, h9, bs]
          clear h1 h9
          have hXl : X.size = r.length := by rw [szL, hX]
          have hst := stands_at s t.at_ r X hX c3
          rw [← hXl] at hst c2
          have hfit : (t.at_ : Int) + (X.size : Int) ≤ (s.size : Int) := by omega
          have hfit2 : ¬ ((s.size : Int) < (t.at_ : Int) + (X.size : Int)) := by omega
          have hgeN : ¬ (t.at_ < b) := by omega
          have hts : (bs t.text).size ≤ 70000 := by have := congrArg ByteArray.size hcat; (try simp at this); omega
          have HX := Lib.hid hX
          have HXL := Lib.hid hXl
          clear c3 hX hXl hsl
          go_wp2_with (first | (at_builtin; refine Lib.wpList_append_own_string _ rfl _ _ _ _ rfl W.heap.size 5 i0 Try.underlying32 Try.underlying9 hi0 hz0 hz1' hz2 _ _ _ rfl hown X rfl (by unfold maxLen; omega) (by omega) (by omega) ?_; intro v1 w3 ho1 hgr1 _) | (at_builtin; refine wpList_append_lies _ rfl _ _ _ rfl W.heap.size 5 i0 _ 1 1 Try.underlying32 hi0 hz0 hz1' hz2 rfl (by omega) v1 _ _ rfl (ho1.alloc _) ⟨w3.heap.size, 0, none⟩ 1 1 [.int .u8 32] rfl rfl (by exact World.news_of_block (cs := #[.int .u8 32]) (t := 5) (fr := (0, 0)) (heap_alloc_new w3 _)) (by simp [Value.oneCell']) (by omega) (by unfold maxLen; omega) (by omega) (by have := hgr1.size; simp; omega) (w3.heap.size + 1) (by simp) ?_; intro gg cap2 w4 hown4 hgrow4 hat hlt4))
          have hbf : Below W.heap.size W w4 := ((hbel.grown hgr1 (by omega) (fun j hj => by have := (hown.lt _ hj).1; omega)).alloc (by have := hgr1.size; omega) _).grown hgrow4 (by have := hgr1.size; simp; omega) (fun j hj => by have := (ho1.lt _ hj).1; omega)
          go_roundg (ts.length - (k + 1))
          case measure => omega
          case rel =>
            refine ⟨k + 1, t.at_ + X.size, by omega, rfl, by go_num, by go_num, by omega, by rw [HXL.out]; exact HC4.out, ?_, ?_, hbf⟩
            · rw [HRT.out]; have := HXL.out; simp; omega
            · rw [HRT.out]; exact own_step HX.out hown4
      · obtain rfl : k = ts.length := by omega
        rw [List.take_length] at hown hrl
        have hj : ¬ ((ts.length : Int) + 1 < (l.length : Int)) := by have := HN.out; omega
        have j0 : (0 : Int) ≤ (ts.length : Int) := by omega
        have hconv := conv_own hown
        obtain ⟨oa, oc, rfl⟩ := own_slice hown
        have hmr := (hbel.cell (p := ⟨0, 0, none⟩) (Nat.lt_of_lt_of_le hml hzW)).trans ((hb0.cell (p := ⟨0, 0, none⟩) hml).trans hm)
        have hsz : (bs (renderAll ts)).size ≤ 140737488351232 := by rw [bs_size]; omega
        clear hTk hck hrl hown
        by_cases hlen : (renderAll ts).length ≤ 65536
        · obtain ⟨mm, hmm, hbm⟩ := HB.out hlen
          have hml2 := bare_len hbm
          have HM := Lib.hid hmm; have HBM := Lib.hid hbm
          clear hmm hbm
          have hnl2 : ((renderAll ts).length : Int) ≤ 65536 := by omega
          go_wp2_with (first | (go_at_call 10; refine (tokens_good (s := bs (renderAll ts)) hsz hmr (by rw [bs_list]; exact HM.out)).mono ?_; rintro e w5 ⟨g2, cap2, rfl, k1, k2, k3, k4, k5, hb5⟩) | (go_at_call 11; refine (alike_any (l := l) (IsToks.al (hT0.below ((hbel.trans (hb5.mono hzr)).alloc (by have := hb5.size; omega) _) hgW)) (IsToks.al_of (fun i hi => IsToks.at k5 k2 i _ hi rfl _ rfl _) HBM.out) (by omega)).mono ?_; rintro e w6 ⟨rfl, n6, rfl⟩))
          go_ret
          exact ⟨rfl, (((hb0.trans ((hbel.trans (hb5.mono hzr)).mono hzW)).alloc (by have := hb5.size; omega) _)).drewN n6⟩
        · have hnl2 : (65536 : Int) < ((renderAll ts).length : Int) := by omega
          cases hmm : toks (renderAll ts) with
          | bad x p =>
            have HM := Lib.hid hmm; clear hmm
            go_wp2_with (go_at_call 10; refine (tokens_bad (s := bs (renderAll ts)) hsz hmr (by rw [bs_list]; exact HM.out)).mono ?_; rintro e w5 ⟨rfl, hb5⟩)
            go_ret
            exact ⟨rfl, ((hb0.trans ((hbel.trans (hb5.mono hzr)).mono hzW)).alloc (by have := hb5.size; omega) _)⟩
          | good mm =>
            have HM := Lib.hid hmm; clear hmm
            go_wp2_with (go_at_call 10; refine (tokens_good (s := bs (renderAll ts)) hsz hmr (by rw [bs_list]; exact HM.out)).mono ?_; rintro e w5 ⟨g2, cap2, rfl, k1, k2, k3, k4, k5, hb5⟩)
            go_ret
            exact ⟨rfl, ((hb0.trans ((hbel.trans (hb5.mono hzr)).mono hzW)).alloc (by have := hb5.size; omega) _)⟩

end Go.Proofs.Ytelpkldlkpoioaa.LexK
