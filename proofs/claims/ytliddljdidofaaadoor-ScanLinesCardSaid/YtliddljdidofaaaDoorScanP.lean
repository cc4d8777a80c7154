/- The scanner's tokens written out and told again: walked. -/
import Derived.Test.YtliddljdidofaaaDoorScanO
import Derived.Test.YtliddljdidofaaaDoorScanPlain3
namespace Go.Proofs.YtliddljdidofaaaDoor.ScanP
open Go.RowKit Go.Proofs.YtliddljdidofaaaDoor.Lexy Go.Proofs.YtliddljdidofaaaDoor.Heap Go.Proofs.YtliddljdidofaaaDoor.Base Go.Proofs.YtliddljdidofaaaDoor.Scany Go.Proofs.YtliddljdidofaaaDoor.ScanA Go.Proofs.YtliddljdidofaaaDoor.ScanB Go.Proofs.YtliddljdidofaaaDoor.ScanC Go.Proofs.YtliddljdidofaaaDoor.ScanD Go.Proofs.YtliddljdidofaaaDoor.ScanE Go.Proofs.YtliddljdidofaaaDoor.ScanH Go.Proofs.YtliddljdidofaaaDoor.ScanI Go.Proofs.YtliddljdidofaaaDoor.ScanL Go.Proofs.YtliddljdidofaaaDoor.ScanM Go.Proofs.YtliddljdidofaaaDoor.ScanN Go.Proofs.YtliddljdidofaaaDoor.ScanO

theorem bare_len {m l : List Tok} (h : bare m = bare l) : m.length = l.length := by
  have := congrArg List.length h; simpa [bare] using this
theorem bare_at {m l : List Tok} (h : bare m = bare l) (i : Nat) (hi : i < l.length) : (tk m i).kind = (tk l i).kind ∧ (tk m i).text = (tk l i).text := by
  have hm := bare_len h
  have h1 := congrArg (fun x => x[i]?) h
  have e1 : m[i]? = some m[i] := List.getElem?_eq_getElem (by omega)
  have e2 : l[i]? = some l[i] := List.getElem?_eq_getElem hi
  simp [bare, e1, e2] at h1
  simp [tk, List.getD_eq_getElem?_getD, e1, e2, h1]
/-- kinds and texts lie in a block -/
def IsAl (w : World) (g : Nat) (l : List Tok) : Prop :=
  ∀ i, i < l.length → w.cell? ⟨g, i * 3, none⟩ = some (.int .u8 ((tk l i).kind : Int)) ∧ w.cell? ⟨g, i * 3 + 1, none⟩ = some (.string (bs (tk l i).text))
theorem al_of {w : World} {g : Nat} {m l : List Tok} (h : IsToks w g m) (hb : bare m = bare l) : IsAl w g l := fun i hi => by
  have h1 := h i (by rw [bare_len hb]; exact hi)
  have h2 := bare_at hb i hi
  rw [← h2.1, ← h2.2]; exact ⟨h1.1, h1.2.1⟩
set_option maxHeartbeats 1000000 in
theorem alike_any {w : World} {g1 g2 c1 c2 : Nat} {l : List Tok} (h1 : IsAl w g1 l) (h2 : IsAl w g2 l) (hl : l.length ≤ 1000000) :
    Calls Tryd.prog 9 #[.slice (some ⟨g1, 0, none⟩) l.length c1, .slice (some ⟨g2, 0, none⟩) l.length c2] w fun e w' => e = .returned (.bool true) ∧ ∃ n, w' = w.drewN n := by
  have H1 := Lib.hid h1; have H2 := Lib.hid h2; clear h1 h2
  go_enter Tryd.func9, Tryd.ntmps9
  go_wp2
  go_loopg [5] l.length (fun gk i wr => ∃ (k n : Nat), k ≤ l.length ∧ gk = l.length - k ∧ i = .int .i64 (k : Int) ∧ wr = w.drewN n)
  case atStart => exact ⟨0, 0, by omega, by omega, rfl, rfl⟩
  case round =>
    obtain ⟨k, n, hk, rfl, rfl, rfl⟩ := hrel
    by_cases hlt : k < l.length
    · obtain ⟨a1, a2⟩ := H1.out k hlt
      obtain ⟨b1, b2⟩ := H2.out k hlt
      have j0 : (0 : Int) ≤ (k : Int) := by omega
      have j1 : (k : Int) < (l.length : Int) := by omega
      go_wp2
      go_quiet (fail)
      go_wp2
      go_roundg (l.length - (k + 1))
      case measure => omega
      case rel => exact ⟨k + 1, _, by omega, rfl, by go_num, rfl⟩
    · go_wp2
      go_ret
      exact ⟨rfl, n, rfl⟩

theorem writ_take (l : List Tok) (k : Nat) (hk : k < l.length) : writS (l.take (k + 1)) = writS (l.take k) ++ (rendS (tk l k).kind (tk l k).text ++ [32]) := by
  have e : l.take (k + 1) = l.take k ++ [tk l k] := by
    rw [List.take_succ_eq_append_getElem hk]
    congr 2
    simp [tk, List.getD_eq_getElem?_getD, List.getElem?_eq_getElem hk]
  rw [e]; simp [writS]
theorem tk_app (l : List Tok) (x : Tok) (k : Nat) (hk : k < l.length) : tk (l ++ [x]) k = tk l k := by
  simp [tk, List.getD_eq_getElem?_getD, List.getElem?_append_left hk]
theorem tk_last (l : List Tok) (x : Tok) : tk (l ++ [x]) l.length = x := by
  simp [tk, List.getD_eq_getElem?_getD]
theorem tk_mem (l : List Tok) (k : Nat) (hk : k < l.length) : tk l k ∈ l := by
  simp [tk, List.getD_eq_getElem?_getD, List.getElem?_eq_getElem hk]
theorem rend_le (k : Nat) (t : List UInt8) : (rendS k t).length ≤ 4 * t.length + 2 := by
  unfold rendS
  split
  · exact quoS_le t
  · split
    · simp; omega
    · omega
theorem writ_le {N : Nat} : ∀ ts : List Tok, (∀ t ∈ ts, t.text.length ≤ N) → (writS ts).length ≤ ts.length * (4 * N + 3)
  | [], _ => by simp [writS]
  | t :: ts, h => by
    have h1 := writ_le ts fun u hu => h u (List.mem_cons_of_mem _ hu)
    have h2 := rend_le t.kind t.text
    have h3 := h t List.mem_cons_self
    have e : writS (t :: ts) = (rendS t.kind t.text ++ [32]) ++ writS ts := by simp [writS]
    rw [e]
    simp only [List.length_append, List.length_cons, List.length_nil, Nat.add_mul]
    omega
theorem writ_take_le (ts : List Tok) (k : Nat) : (writS (ts.take k)).length ≤ (writS ts).length := by
  have : writS ts = writS (ts.take k) ++ writS (ts.drop k) := by unfold writS; rw [← List.flatMap_append, List.take_append_drop]
  rw [this]; simp
theorem szL (s : ByteArray) : s.size = s.data.toList.length := by simp
theorem own_step {w : World} {base e : Nat} {v : Value} {A r : List UInt8} {X : ByteArray} (hX : X.data.toList = r) (h : w.ownsRow base e 1 v (A.length + X.size + 1) (Lib.strCells (bs A) ++ Lib.strCells X ++ [.int .u8 32])) :
    w.ownsRow base e 1 v (A ++ (r ++ [32])).length (Lib.strCells (bs (A ++ (r ++ [32])))) := by
  have e1 : (A ++ (r ++ [32])).length = A.length + X.size + 1 := by rw [szL, hX]; simp; omega
  have e2 : Lib.strCells (bs (A ++ (r ++ [32]))) = Lib.strCells (bs A) ++ Lib.strCells X ++ [.int .u8 32] := by
    simp [Lib.strCells, bs, hX]
  rw [e1, e2]; exact h
theorem own_slice {w : World} {base e size : Nat} {v : Value} {n : Nat} {xs : List Value} (h : w.ownsRow base e size v n xs) : ∃ a c, v = .slice a n c := by
  rcases h.2 with ⟨rfl, rfl⟩ | ⟨g, cap, cur, rfl, _⟩
  · exact ⟨none, 0, rfl⟩
  · exact ⟨_, _, rfl⟩
theorem grown_of_below {w w' : World} (h : Below w.heap.size w w') (r : Option Nat) : w.grownBy w' r := ⟨h.os, h.tape, h.output, h.size, fun i hi _ => h.block i hi⟩

set_option maxRecDepth 100000 in
set_option maxHeartbeats 4000000 in
theorem written_any {w : World} {g c : Nat} {l ts : List Tok} {x : Tok} (hT : IsToks w g l) (hg : g < w.heap.size) (hl : l = ts ++ [x]) (hn : ts.length ≤ 100000) (hx : ∀ t ∈ ts, t.text.length ≤ 100000) (hw : (writS ts).length ≤ 20000000000) :
    Calls Tryd.prog 8 #[.slice (some ⟨g, 0, none⟩) l.length c] w fun e w' => e = .returned (.string (bs (writS ts))) ∧ Below w.heap.size w w' := by
  have hN : l.length = ts.length + 1 := by rw [hl]; simp
  have HN := Lib.hid hN; have HL := Lib.hid hl; have HT := Lib.hid hT; have HX := Lib.hid hx; clear hN hl hT hx
  have HTL := Lib.hid (writ_take_le ts)
  obtain ⟨i0, hi0, hz0, hz1', hz2⟩ := info_parts byteInfo
  go_enter Tryd.func8, Tryd.ntmps8
  go_wp2
  go_loopg [3, 4] ts.length (fun gk out i wr => ∃ k : Nat, k ≤ ts.length ∧ gk = ts.length - k ∧ i = .int .i64 (k : Int) ∧ wr.ownsRow w.heap.size 5 1 out (writS (ts.take k)).length (Lib.strCells (bs (writS (ts.take k)))) ∧ Below w.heap.size w wr)
  case atStart => exact ⟨0, by omega, by omega, rfl, World.ownsRow_nil _ _ _ _, Below.refl _ _⟩
  case round =>
    obtain ⟨k, hk, rfl, rfl, hown, hbel⟩ := hrel
    have hTk : IsToks wr g l := HT.out.below hbel hg
    have hzr := hbel.size
    by_cases hlt : k < ts.length
    · have htk : tk l k = tk ts k := by rw [HL.out]; exact tk_app _ _ _ hlt
      obtain ⟨a1, a2, a3⟩ := hTk k (by have := HN.out; omega)
      rw [htk] at a1 a2 a3
      have hrt := writ_take ts k hlt
      have htl := HX.out _ (tk_mem ts k hlt)
      generalize tk ts k = t at *
      have hj : (k : Int) + 1 < (l.length : Int) := by have := HN.out; omega
      have j0 : (0 : Int) ≤ (k : Int) := by omega
      have j1 : (k : Int) < (l.length : Int) := by omega
      obtain ⟨r, hr⟩ : ∃ r, rendS t.kind t.text = r := ⟨_, rfl⟩
      have hAl : (writS (ts.take k)).length ≤ 20000000000 := Nat.le_trans (HTL.out k) hw
      have hrl := rend_le t.kind t.text
      rw [hr] at hrt hrl
      have HR := Lib.hid hr
      have HRT := Lib.hid hrt; clear hrt hr htk a3
      have hts : (bs t.text).size ≤ 100000 := by rw [bs_size]; exact htl
      by_cases h5 : t.kind = 5
      · have k5 : ((t.kind : Int) == 5) = true := by rw [h5]; rfl
        obtain ⟨X, hX⟩ : ∃ X, bs (quoS t.text) = X := ⟨_, rfl⟩
        have hXr : X.data.toList = r := by rw [← HR.out, ← hX]; simp [rendS, h5, bs]
        clear h5
        have hXl : X.size ≤ 500000 := by rw [szL, hXr]; omega
        have hQ : bs (quoS (bs t.text).data.toList) = X := by rw [bs_list]; exact hX
        have HXR := Lib.hid hXr; have HQ := Lib.hid hQ; clear hXr hQ hX hrl
        go_wp2_with fail
        refine (quote_at (s := bs t.text) (by omega) HQ.out).mono ?_
        rintro e wq ⟨rfl, hbq⟩
        have hgq := grown_of_below hbq none
        have hoq := hown.kept hgq (Classical.em _)
        have hzq := hbq.size
        go_wp2_with (first | (at_builtin; (refine Lib.wpList_append_own_string _ rfl _ _ _ _ rfl w.heap.size 5 i0 Tryd.underlying48 Tryd.underlying9 hi0 hz0 hz1' hz2 _ _ _ rfl hoq X rfl (by unfold maxLen; omega) (by omega) (by omega) ?_); intro v1 w3 ho1 hgr1 _) | (at_builtin; go_must (refine wpList_append_lies _ rfl _ _ _ rfl w.heap.size 5 i0 _ 1 1 Tryd.underlying48 hi0 hz0 hz1' hz2 rfl (by omega) v1 _ _ rfl (ho1.alloc _) ⟨w3.heap.size, 0, none⟩ 1 1 [.int .u8 32] rfl rfl (by exact World.news_of_block (cs := #[.int .u8 32]) (t := 5) (fr := (0, 0)) (heap_alloc_new w3 _)) (by simp [Value.oneCell']) (by omega) (by unfold maxLen; omega) (by omega) (by have := hgr1.size; simp; omega) (w3.heap.size + 1) (by simp) ?_); intro gg cap2 w4 hown4 hgrow4 hat hlt4))
        have hbf : Below w.heap.size w w4 := (((hbel.trans (hbq.mono hzr)).grown hgr1 (by omega) (fun j hj => by have := (hoq.lt _ hj).1; omega)).alloc (by have := hgr1.size; omega) _).grown hgrow4 (by have := hgr1.size; simp; omega) (fun j hj => by have := (ho1.lt _ hj).1; omega)
        go_roundg (ts.length - (k + 1))
        case measure => omega
        case rel =>
          refine ⟨k + 1, by omega, rfl, by go_num, ?_, hbf⟩
          rw [HRT.out]; exact own_step HXR.out hown4
      · have k5 : ((t.kind : Int) == 5) = false := beq_eq_false_iff_ne.2 (by omega)
        by_cases h8 : t.kind = 8
        · have k8 : ((t.kind : Int) == 8) = true := by rw [h8]; rfl
          obtain ⟨X, hcat⟩ : ∃ X, ({ data := #[36] } : ByteArray) ++ bs t.text = X := ⟨_, rfl⟩
          have hXr : X.data.toList = r := by rw [← HR.out, ← hcat]; simp [rendS, h8, bs]
          clear h5 h8
          have hXl : X.size ≤ 500000 := by rw [szL, hXr]; omega
          have HXR := Lib.hid hXr; clear hXr hrl
          go_wp2_with (first | (at_builtin; (refine Lib.wpList_append_own_string _ rfl _ _ _ _ rfl w.heap.size 5 i0 Tryd.underlying48 Tryd.underlying9 hi0 hz0 hz1' hz2 _ _ _ rfl hown X rfl (by unfold maxLen; omega) (by omega) (by omega) ?_); intro v1 w3 ho1 hgr1 _) | (at_builtin; go_must (refine wpList_append_lies _ rfl _ _ _ rfl w.heap.size 5 i0 _ 1 1 Tryd.underlying48 hi0 hz0 hz1' hz2 rfl (by omega) v1 _ _ rfl (ho1.alloc _) ⟨w3.heap.size, 0, none⟩ 1 1 [.int .u8 32] rfl rfl (by exact World.news_of_block (cs := #[.int .u8 32]) (t := 5) (fr := (0, 0)) (heap_alloc_new w3 _)) (by simp [Value.oneCell']) (by omega) (by unfold maxLen; omega) (by omega) (by have := hgr1.size; simp; omega) (w3.heap.size + 1) (by simp) ?_); intro gg cap2 w4 hown4 hgrow4 hat hlt4))
          have hbf : Below w.heap.size w w4 := ((hbel.grown hgr1 (by omega) (fun j hj => by have := (hown.lt _ hj).1; omega)).alloc (by have := hgr1.size; omega) _).grown hgrow4 (by have := hgr1.size; simp; omega) (fun j hj => by have := (ho1.lt _ hj).1; omega)
          go_roundg (ts.length - (k + 1))
          case measure => omega
          case rel =>
            refine ⟨k + 1, by omega, rfl, by go_num, ?_, hbf⟩
            rw [HRT.out]; exact own_step HXR.out hown4
        · have k8 : ((t.kind : Int) == 8) = false := beq_eq_false_iff_ne.2 (by omega)
          obtain ⟨X, hcat⟩ : ∃ X, bs t.text = X := ⟨_, rfl⟩
          have hXr : X.data.toList = r := by rw [← HR.out, ← hcat]; simp [rendS, h5, h8, bs]
          clear h5 h8
          have hXl : X.size ≤ 500000 := by rw [szL, hXr]; omega
          have HXR := Lib.hid hXr; clear hXr hrl
          go_wp2_with (first | (at_builtin; (refine Lib.wpList_append_own_string _ rfl _ _ _ _ rfl w.heap.size 5 i0 Tryd.underlying48 Tryd.underlying9 hi0 hz0 hz1' hz2 _ _ _ rfl hown X rfl (by unfold maxLen; omega) (by omega) (by omega) ?_); intro v1 w3 ho1 hgr1 _) | (at_builtin; go_must (refine wpList_append_lies _ rfl _ _ _ rfl w.heap.size 5 i0 _ 1 1 Tryd.underlying48 hi0 hz0 hz1' hz2 rfl (by omega) v1 _ _ rfl (ho1.alloc _) ⟨w3.heap.size, 0, none⟩ 1 1 [.int .u8 32] rfl rfl (by exact World.news_of_block (cs := #[.int .u8 32]) (t := 5) (fr := (0, 0)) (heap_alloc_new w3 _)) (by simp [Value.oneCell']) (by omega) (by unfold maxLen; omega) (by omega) (by have := hgr1.size; simp; omega) (w3.heap.size + 1) (by simp) ?_); intro gg cap2 w4 hown4 hgrow4 hat hlt4))
          have hbf : Below w.heap.size w w4 := ((hbel.grown hgr1 (by omega) (fun j hj => by have := (hown.lt _ hj).1; omega)).alloc (by have := hgr1.size; omega) _).grown hgrow4 (by have := hgr1.size; simp; omega) (fun j hj => by have := (ho1.lt _ hj).1; omega)
          go_roundg (ts.length - (k + 1))
          case measure => omega
          case rel =>
            refine ⟨k + 1, by omega, rfl, by go_num, ?_, hbf⟩
            rw [HRT.out]; exact own_step HXR.out hown4
    · obtain rfl : k = ts.length := by omega
      rw [List.take_length] at hown
      have hj : ¬ ((ts.length : Int) + 1 < (l.length : Int)) := by have := HN.out; omega
      have hconv := conv_own hown
      obtain ⟨oa, oc, rfl⟩ := own_slice hown
      clear hown
      go_wp2
      go_ret
      exact ⟨rfl, hbel⟩
end Go.Proofs.YtliddljdidofaaaDoor.ScanP
