/- gristmillkit.Lent.. of grammars' texts: copies, each row with twelve marks behind it. (Printed by src_gen.py.) -/
import Derived.Test.YtghebacphjglbaaGreatTxD
import Derived.Test.YtghebacphjglbaaGreatM2
import Derived.Test.YtghebacphjglbaaGreatM8
import Derived.OwnWalk
import Derived.Laws.OwnMore
import Derived.Deep.Cut
import Derived.Laws.AppendOwnNone
namespace Go.Proofs.YtghebacphjglbaaGreat.SrcA
open Go Go.RowKit Go.Proofs.YtghebacphjglbaaGreat.Lexy Go.Proofs.YtghebacphjglbaaGreat.LexA Go.Proofs.YtghebacphjglbaaGreat.LexB Go.Proofs.YtghebacphjglbaaGreat.LexC Go.Proofs.YtghebacphjglbaaGreat.LexD Go.Proofs.YtghebacphjglbaaGreat.LexE Go.Proofs.YtghebacphjglbaaGreat.LexF Go.Proofs.YtghebacphjglbaaGreat.LexG Go.Proofs.YtghebacphjglbaaGreat.Heap Go.Proofs.YtghebacphjglbaaGreat.Dat Go.Proofs.YtghebacphjglbaaGreat.Ready Go.Proofs.YtghebacphjglbaaGreat.ReadA Go.Proofs.YtghebacphjglbaaGreat.ReadC Go.Proofs.YtghebacphjglbaaGreat.ReadH Go.Proofs.YtghebacphjglbaaGreat.ReadI Go.Proofs.YtghebacphjglbaaGreat.ReadM Go.Proofs.YtghebacphjglbaaGreat.ReadO Go.Proofs.YtghebacphjglbaaGreat.Same Go.Proofs.YtghebacphjglbaaGreat.Cut Go.Proofs.YtghebacphjglbaaGreat.LentK

theorem wInfo : (Tryz.prog.info? 33).map (fun i => (i.zero, i.size, i.bytes)) = some (some (.agg #[.string { data := #[] }, .slice none 0 0, .int .i64 0]), 3, 48) := by kernel_rfl
theorem dInfo : (Tryz.prog.info? 62).map (fun i => (i.zero, i.size, i.bytes)) = some (some (.agg #[.string { data := #[] }, .string { data := #[] }, .slice none 0 0, .int .i64 0]), 4, 64) := by kernel_rfl
theorem rInfo : (Tryz.prog.info? 38).map (fun i => (i.zero, i.size, i.bytes)) = some (some (.agg #[.string { data := #[] }, .slice none 0 0, .slice none 0 0, .int .i64 0]), 4, 72) := by kernel_rfl
theorem aInfo : (Tryz.prog.info? 35).map (fun i => (i.zero, i.size, i.bytes)) = some (some (.agg #[.slice none 0 0, .string { data := #[] }, .bool false, .string { data := #[] }, .int .i64 0, .int .i64 0]), 6, 80) := by kernel_rfl
/-- the marks behind a row, by its type -/
def mkS (j : Nat) : List Value := (List.range j).flatMap fun i : Nat => [.string (Marks.mkT 1 (i : Int))]
def mkWord (j : Nat) : List Value := (List.range j).flatMap fun i : Nat => [.string { data := #[] }, .slice none 0 0, .int .i64 (8000024 + (i : Int))]
def mkAlt (j : Nat) : List Value := (List.range j).flatMap fun i : Nat => [.slice none 0 0, .string { data := #[] }, .bool false, .string { data := #[] }, .int .i64 0, .int .i64 (8000024 + (i : Int))]
def mkRule (j : Nat) : List Value := (List.range j).flatMap fun i : Nat => [.string { data := #[] }, .slice none 0 0, .slice none 0 0, .int .i64 (8000024 + (i : Int))]
def mkDecl (j : Nat) : List Value := (List.range j).flatMap fun i : Nat => [.string { data := #[] }, .string { data := #[] }, .slice none 0 0, .int .i64 (8000024 + (i : Int))]
def mkV (E : TypeId) : List Value := if E = 9 then mkS 12 else if E = 33 then mkWord 12 else if E = 35 then mkAlt 12 else if E = 38 then mkRule 12 else mkDecl 12
theorem flat_range {f : Nat → List Value} (j : Nat) : (List.range (j + 1)).flatMap f = (List.range j).flatMap f ++ f j := by rw [List.range_succ, List.flatMap_append]; simp
theorem add0 (g j : Nat) : (⟨g, 0, none⟩ : Addr).add j = ⟨g, j, none⟩ := by
  unfold Addr.add
  split <;> simp_all
theorem own_at {w : World} {B E S n c g : Nat} {xs : List Value} (h : w.ownsRow B E S (.slice (some ⟨g, 0, none⟩) n c) n xs) (k : Nat) (u : Value) (hk : xs[k]? = some u) : w.cell? ⟨g, k, none⟩ = some u := by
  have := h.cells (g := g) rfl k u hk
  rwa [add0] at this
theorem get_left {a b : List Value} {j : Nat} {v : Value} (h : a[j]? = some v) : (a ++ b)[j]? = some v := by
  rw [List.getElem?_append_left (List.getElem?_eq_some_iff.1 h).1]; exact h
theorem get_right {a b : List Value} {j n : Nat} {v : Value} (hn : a.length = n) (h : b[j]? = some v) : (a ++ b)[n + j]? = some v := by
  subst hn
  rw [List.getElem?_append_right (by omega), Nat.add_sub_cancel_left]; exact h
theorem cell_on {w w' : World} {B : Nat} {q : Addr} {v : Value} (hB : w.heap.size = B) (hb : Below B w w') (h : w.cell? q = some v) : w'.cell? q = some v := by
  subst hB; exact (hb.cell (World.block_lt_of_cell? _ _ h)).trans h
/-- a row with its marks, whole -/
theorem lent_row {w : World} {B g E S n : Nat} {items : List Dat} {us ms : List Value} (hn : n ≤ 1000000) (hlen : items.length = n * S) (hB : B ≤ g) (hv : LentVs mkV w B items us) (hm : mkV E = ms)
    (hown : w.ownsRow g E S (.slice (some ⟨g, 0, none⟩) (n + 12) (n + 12)) (n + 12) (us ++ ms)) : LentD mkV w B (.row E S n items) (.slice (some ⟨g, 0, none⟩) n (n + 12)) := by
  rw [LentD.row_iff]
  refine ⟨hlen, hn, g, rfl, hB, LentVs.cells hv fun k u hk => ?_, fun j u hj => ?_⟩
  · rw [Nat.zero_add]; exact own_at hown k u (get_left hk)
  · rw [hm] at hj
    exact own_at hown (n * S + j) u (get_right (by rw [hv.len, hlen]) hj)
theorem res_Word {fn : Func} {w : World} {b : Nat} {v0 v1 v2 : Value} {tmps : Array Value} {s : Tmp} (hfn : fn.results = #[.cell s 33]) (hb : w.heap[b]? = some (.cells #[v0, v1, v2] 33 (0, 0))) (h2 : tmps[s]?.getD undef = .pointer (some ⟨b, 0, none⟩)) :
    (results fn tmps).run Tryz.prog w = .ok (.agg #[v0, v1, v2]) w := by
  have a0 : w.cell? ⟨b, 0, none⟩ = some v0 := cell_of_row w b 0 _ _ (0, 0) hb
  have a1 : w.cell? ⟨b, 1, none⟩ = some v1 := cell_of_row w b 1 _ _ (0, 0) hb
  have a2 : w.cell? ⟨b, 2, none⟩ = some v2 := cell_of_row w b 2 _ _ (0, 0) hb
  simp [results, hfn, go_sem, h2, a0, a1, a2]
theorem res_Alt {fn : Func} {w : World} {b : Nat} {v0 v1 v2 v3 v4 v5 : Value} {tmps : Array Value} {s : Tmp} (hfn : fn.results = #[.cell s 35]) (hb : w.heap[b]? = some (.cells #[v0, v1, v2, v3, v4, v5] 35 (0, 0))) (h2 : tmps[s]?.getD undef = .pointer (some ⟨b, 0, none⟩)) :
    (results fn tmps).run Tryz.prog w = .ok (.agg #[v0, v1, v2, v3, v4, v5]) w := by
  have a0 : w.cell? ⟨b, 0, none⟩ = some v0 := cell_of_row w b 0 _ _ (0, 0) hb
  have a1 : w.cell? ⟨b, 1, none⟩ = some v1 := cell_of_row w b 1 _ _ (0, 0) hb
  have a2 : w.cell? ⟨b, 2, none⟩ = some v2 := cell_of_row w b 2 _ _ (0, 0) hb
  have a3 : w.cell? ⟨b, 3, none⟩ = some v3 := cell_of_row w b 3 _ _ (0, 0) hb
  have a4 : w.cell? ⟨b, 4, none⟩ = some v4 := cell_of_row w b 4 _ _ (0, 0) hb
  have a5 : w.cell? ⟨b, 5, none⟩ = some v5 := cell_of_row w b 5 _ _ (0, 0) hb
  simp [results, hfn, go_sem, h2, a0, a1, a2, a3, a4, a5]
theorem res_Rule {fn : Func} {w : World} {b : Nat} {v0 v1 v2 v3 : Value} {tmps : Array Value} {s : Tmp} (hfn : fn.results = #[.cell s 38]) (hb : w.heap[b]? = some (.cells #[v0, v1, v2, v3] 38 (0, 0))) (h2 : tmps[s]?.getD undef = .pointer (some ⟨b, 0, none⟩)) :
    (results fn tmps).run Tryz.prog w = .ok (.agg #[v0, v1, v2, v3]) w := by
  have a0 : w.cell? ⟨b, 0, none⟩ = some v0 := cell_of_row w b 0 _ _ (0, 0) hb
  have a1 : w.cell? ⟨b, 1, none⟩ = some v1 := cell_of_row w b 1 _ _ (0, 0) hb
  have a2 : w.cell? ⟨b, 2, none⟩ = some v2 := cell_of_row w b 2 _ _ (0, 0) hb
  have a3 : w.cell? ⟨b, 3, none⟩ = some v3 := cell_of_row w b 3 _ _ (0, 0) hb
  simp [results, hfn, go_sem, h2, a0, a1, a2, a3]
theorem res_Decl {fn : Func} {w : World} {b : Nat} {v0 v1 v2 v3 : Value} {tmps : Array Value} {s : Tmp} (hfn : fn.results = #[.cell s 62]) (hb : w.heap[b]? = some (.cells #[v0, v1, v2, v3] 62 (0, 0))) (h2 : tmps[s]?.getD undef = .pointer (some ⟨b, 0, none⟩)) :
    (results fn tmps).run Tryz.prog w = .ok (.agg #[v0, v1, v2, v3]) w := by
  have a0 : w.cell? ⟨b, 0, none⟩ = some v0 := cell_of_row w b 0 _ _ (0, 0) hb
  have a1 : w.cell? ⟨b, 1, none⟩ = some v1 := cell_of_row w b 1 _ _ (0, 0) hb
  have a2 : w.cell? ⟨b, 2, none⟩ = some v2 := cell_of_row w b 2 _ _ (0, 0) hb
  have a3 : w.cell? ⟨b, 3, none⟩ = some v3 := cell_of_row w b 3 _ _ (0, 0) hb
  simp [results, hfn, go_sem, h2, a0, a1, a2, a3]
theorem res_Text {fn : Func} {w : World} {b : Nat} {v0 v1 : Value} {tmps : Array Value} {s : Tmp} (hfn : fn.results = #[.cell s 28]) (hb : w.heap[b]? = some (.cells #[v0, v1] 28 (0, 0))) (h2 : tmps[s]?.getD undef = .pointer (some ⟨b, 0, none⟩)) :
    (results fn tmps).run Tryz.prog w = .ok (.agg #[v0, v1]) w := by
  have a0 : w.cell? ⟨b, 0, none⟩ = some v0 := cell_of_row w b 0 _ _ (0, 0) hb
  have a1 : w.cell? ⟨b, 1, none⟩ = some v1 := cell_of_row w b 1 _ _ (0, 0) hb
  simp [results, hfn, go_sem, h2, a0, a1]
set_option maxHeartbeats 1000000 in
theorem mark_Word (i : Nat) (hi : i ≤ 1000) (w : World) : Calls Tryz.prog 107 #[.int .i64 1, .int .i64 (i : Int)] w fun e w' => e = .returned (.agg #[.string { data := #[] }, .slice none 0 0, .int .i64 (8000024 + (i : Int))]) ∧ Below w.heap.size w w' := by
  have HM := Lib.hid (fun w => Marks.mark_any 1 (i : Int) w (by omega) (by omega) (by omega) (by omega))
  have hmk : mkI 1 (i : Int) = 8000024 + (i : Int) := by unfold mkI; omega
  rw [hmk] at HM
  clear hmk
  generalize 8000024 + (i : Int) = mi at *
  go_enter Tryz.func107, Tryz.ntmps107
  go_wp2_with (go_at_call 67; go_must (refine (HM.out _).mono ?_; rintro e w1 ⟨rfl, rfl⟩))
  exact bodyPost_ret (res_Word rfl (heap_alloc_new w _) rfl) rfl ⟨rfl, (Below.refl w.heap.size w).alloc (Nat.le_refl _) _⟩
set_option maxHeartbeats 1000000 in
theorem mark_Alt (i : Nat) (hi : i ≤ 1000) (w : World) : Calls Tryz.prog 83 #[.int .i64 1, .int .i64 (i : Int)] w fun e w' => e = .returned (.agg #[.slice none 0 0, .string { data := #[] }, .bool false, .string { data := #[] }, .int .i64 0, .int .i64 (8000024 + (i : Int))]) ∧ Below w.heap.size w w' := by
  have HM := Lib.hid (fun w => Marks.mark_any 1 (i : Int) w (by omega) (by omega) (by omega) (by omega))
  have hmk : mkI 1 (i : Int) = 8000024 + (i : Int) := by unfold mkI; omega
  rw [hmk] at HM
  clear hmk
  generalize 8000024 + (i : Int) = mi at *
  go_enter Tryz.func83, Tryz.ntmps83
  go_wp2_with (go_at_call 67; go_must (refine (HM.out _).mono ?_; rintro e w1 ⟨rfl, rfl⟩))
  exact bodyPost_ret (res_Alt rfl (heap_alloc_new w _) rfl) rfl ⟨rfl, (Below.refl w.heap.size w).alloc (Nat.le_refl _) _⟩
set_option maxHeartbeats 1000000 in
theorem mark_Rule (i : Nat) (hi : i ≤ 1000) (w : World) : Calls Tryz.prog 47 #[.int .i64 1, .int .i64 (i : Int)] w fun e w' => e = .returned (.agg #[.string { data := #[] }, .slice none 0 0, .slice none 0 0, .int .i64 (8000024 + (i : Int))]) ∧ Below w.heap.size w w' := by
  have HM := Lib.hid (fun w => Marks.mark_any 1 (i : Int) w (by omega) (by omega) (by omega) (by omega))
  have hmk : mkI 1 (i : Int) = 8000024 + (i : Int) := by unfold mkI; omega
  rw [hmk] at HM
  clear hmk
  generalize 8000024 + (i : Int) = mi at *
  go_enter Tryz.func47, Tryz.ntmps47
  go_wp2_with (go_at_call 67; go_must (refine (HM.out _).mono ?_; rintro e w1 ⟨rfl, rfl⟩))
  exact bodyPost_ret (res_Rule rfl (heap_alloc_new w _) rfl) rfl ⟨rfl, (Below.refl w.heap.size w).alloc (Nat.le_refl _) _⟩
set_option maxHeartbeats 1000000 in
theorem mark_Decl (i : Nat) (hi : i ≤ 1000) (w : World) : Calls Tryz.prog 45 #[.int .i64 1, .int .i64 (i : Int)] w fun e w' => e = .returned (.agg #[.string { data := #[] }, .string { data := #[] }, .slice none 0 0, .int .i64 (8000024 + (i : Int))]) ∧ Below w.heap.size w w' := by
  have HM := Lib.hid (fun w => Marks.mark_any 1 (i : Int) w (by omega) (by omega) (by omega) (by omega))
  have hmk : mkI 1 (i : Int) = 8000024 + (i : Int) := by unfold mkI; omega
  rw [hmk] at HM
  clear hmk
  generalize 8000024 + (i : Int) = mi at *
  go_enter Tryz.func45, Tryz.ntmps45
  go_wp2_with (go_at_call 67; go_must (refine (HM.out _).mono ?_; rintro e w1 ⟨rfl, rfl⟩))
  exact bodyPost_ret (res_Decl rfl (heap_alloc_new w _) rfl) rfl ⟨rfl, (Below.refl w.heap.size w).alloc (Nat.le_refl _) _⟩
theorem strs_v {w : World} {B : Nat} : ∀ l : List (List UInt8), LentVs mkV w B (nmsD l) (l.map fun x => .string (bs x))
  | [] => rfl
  | _ :: l => ⟨_, _, rfl, LentD.lit_iff.2 rfl, strs_v l⟩
set_option maxRecDepth 100000 in
set_option maxHeartbeats 4000000 in
theorem lent_texts {l : List (List UInt8)} {w : World} {s : Value} (hR : Reads w (.row 9 1 l.length (nmsD l)) s) (hl : l.length ≤ 1000000) :
    Calls Tryz.prog 66 #[s] w fun e w' => ∃ g, e = .returned (.slice (some ⟨g, 0, none⟩) l.length (l.length + 12)) ∧ LentD mkV w' w.heap.size (.row 9 1 l.length (nmsD l)) (.slice (some ⟨g, 0, none⟩) l.length (l.length + 12)) ∧ Below w.heap.size w w' := by
  obtain ⟨ti, hi, hz, hsz, hby⟩ := stInfo
  obtain ⟨_, _, a, c, rfl, h'⟩ := Reads.row_iff.1 hR
  have h2 : (a = none ∧ l.length = 0 ∧ c = 0) ∨ ∃ ad : Addr, a = some ad ∧ ∀ j u, (l.map fun x => Value.string (bs x))[j]? = some u → w.cell? (ad.add j) = some u := by
    rcases h' with h' | ⟨b, o, e, hr⟩ | ⟨ad, e, h0⟩
    · exact .inl h'
    · refine .inr ⟨_, e, fun j u hu => ?_⟩
      obtain ⟨x, hx, rfl⟩ : ∃ x, l[j]? = some x ∧ Value.string (bs x) = u := by simpa using hu
      obtain ⟨hj, hx⟩ := List.getElem?_eq_some_iff.1 hx
      rw [← hx]; have := name_cell hr hj; unfold Addr.add; split <;> simp_all
    · refine .inr ⟨ad, e, fun j u hu => ?_⟩
      obtain rfl : l = [] := List.eq_nil_of_length_eq_zero h0
      simp at hu
  have H2 := Lib.hid h2
  have HV := Lib.hid (fun (u : World) (B : Nat) => strs_v (w := u) (B := B) l)
  have HNL := Lib.hid (nmsD_len l)
  have hone : ∀ u ∈ (l.map fun x => Value.string (bs x)), u.oneCell' = true := fun u hu => by obtain ⟨x, _, rfl⟩ := List.mem_map.1 hu; rfl
  have hlm : (l.map fun x => Value.string (bs x)).length = l.length := by simp
  have HO := Lib.hid hone; clear hone h2 h' hR
  generalize (l.map fun x => Value.string (bs x)) = us at *
  generalize nmsD l = items at *
  generalize l.length = nk at *
  have HLM := Lib.hid hlm; clear hlm
  obtain ⟨wm, hrun, hown, hgr⟩ := run_make_own (P := Tryz.prog) w w.heap.size 23 9 ti _ 1 Tryz.underlying23 hi hz hsz .i64 .i64 (nk + 12) (by rw [hby]; omega) (by unfold maxLen; omega) (Nat.le_refl _)
  have hmk : (Instr.makeSlice 23 (.int .i64 0) (.int .i64 ((nk : Int) + 12))).run Tryz.prog w = .ok (.slice (some ⟨w.heap.size, 0, none⟩) 0 (nk + 12)) wm := by
    have h := hrun
    rw [show ((nk + 12 : Nat) : Int) = (nk : Int) + 12 by omega] at h
    exact h
  have hbm : Below w.heap.size w wm := (Below.refl _ _).grown hgr (Nat.le_refl _) (fun j hj => by cases hj)
  have HOWN := Lib.hid hown; have HBM := Lib.hid hbm
  clear hrun hown hbm hgr
  have HML := Lib.hid (fun j => flat_range (f := fun i : Nat => [.string (Marks.mkT 1 (i : Int))]) j)
  have HMK := Lib.hid (fun (j : Nat) (u : World) (hj : j ≤ 1000) => Marks.markText_any 1 (j : Int) u (by omega) (by omega) (by omega) (by omega))
  obtain ⟨g, hg⟩ : ∃ g, g = w.heap.size := ⟨_, rfl⟩
  rw [← hg] at HOWN hmk
  have HG := Lib.hid hg
  have HGM : Hid (g < wm.heap.size) := Lib.hid (HOWN.out.lt g rfl).2
  clear hg
  go_enter Tryz.func66, Tryz.ntmps66
  go_upto_region 2 with fail
  clear hmk
  rcases H2.out with ⟨rfl, h0, rfl⟩ | ⟨ad, rfl, hnews⟩
  case' inl =>
    have HSL := Lib.hid (show Value.slice (some ⟨g, 0, none⟩) 0 (nk + 12) = .slice (some ⟨g, 0, none⟩) (nk + 0) (nk + 12) by rw [h0])
    have hus : us = [] := List.eq_nil_of_length_eq_zero (by rw [HLM.out]; exact h0)
    obtain ⟨w2, hw2⟩ : ∃ w2, w2 = wm := ⟨_, rfl⟩
    have HO2 := Lib.hid (show w2.ownsRow g 9 1 (.slice (some ⟨g, 0, none⟩) nk (nk + 12)) nk us by rw [hw2, hus]; have := HOWN.out; rw [h0] at this ⊢; exact this)
    have HB2 := Lib.hid (show Below w.heap.size w w2 by rw [hw2]; exact HBM.out)
    subst hw2
    have HN0 := Lib.hid h0; clear h0 hus
    go_upto_region 3 with (at_builtin; go_must (refine wpList_append_own_none rfl _ _ _ rfl g 9 ti 1 Tryz.underlying23 hi _ 0 [] rfl HOWN.out (by rw [HN0.out]; rfl) ?_))
  case' inr =>
    have HNEW := Lib.hid (fun j u hj => cell_on rfl HBM.out (hnews j u hj))
    have HSL := Lib.hid (congrArg (fun x => Value.slice (some ⟨g, 0, none⟩) x (nk + 12)) (show nk = nk + 0 by omega))
    clear hnews
    go_upto_region 3 with (at_builtin; go_must (refine wpList_append_fits _ rfl _ _ _ rfl g 9 ti 1 Tryz.underlying23 hi hsz g 0 (nk + 12) [] rfl HOWN.out ad nk c us rfl (by rw [HLM.out]; omega) HNEW.out HO.out (by omega) ?_; intro w2 ho2 hg2; have HO2 := Lib.hid (show w2.ownsRow g 9 1 (.slice (some ⟨g, 0, none⟩) nk (nk + 12)) nk us by have := ho2; rw [Nat.zero_add, List.nil_append] at this; exact this); have HB2 := Lib.hid (HBM.out.grown hg2 (by have := HGM.out; have := HG.out; omega) (fun j hj => by have := Option.some.inj hj; have := HG.out; omega)); clear ho2 hg2))
  all_goals
    try clear HNEW
    clear HOWN HBM HGM H2
    go_wp2_with fail
    go_loopg [3, 4] 12 (fun gk ov i wz => ∃ j : Nat, j ≤ 12 ∧ gk = 12 - j ∧ i = .int .i64 (j : Int) ∧ ov = .slice (some ⟨g, 0, none⟩) (nk + j) (nk + 12) ∧ wz.ownsRow g 9 1 (.slice (some ⟨g, 0, none⟩) (nk + j) (nk + 12)) (nk + j) (us ++ mkS j) ∧ Below w.heap.size w wz)
    case atStart => exact ⟨0, by omega, by omega, rfl, HSL.out, by simpa [mkS] using HO2.out, HB2.out⟩
    case round =>
      obtain ⟨j, hj, rfl, rfl, rfl, hown2, hb2⟩ := hrel
      clear HO2 HB2
      have HO3 := Lib.hid hown2; have HB3 := Lib.hid hb2; clear hown2 hb2
      by_cases hjt : j < 12
      · have HC := Lib.hid (HMK.out j wr (by omega))
        have HSN := Lib.hid (show mkS (j + 1) = mkS j ++ [.string (Marks.mkT 1 (j : Int))] from HML.out j)
        generalize Marks.mkT 1 (j : Int) = zt at *
        have hgl : g < wr.heap.size := (HO3.out.lt g rfl).2
        go_wp2_with (first
          | (go_at_call 81; go_must (refine (HC.out).mono ?_; rintro e w5 ⟨rfl, hb⟩; have HB5 := Lib.hid hb; clear hb))
          | (at_builtin; go_must (refine wpList_append_fits _ rfl _ _ _ rfl g 9 ti 1 Tryz.underlying23 hi hsz g (nk + j) (nk + 12) _ rfl ((Heap.own_new HO3.out HB5.out).alloc _) ⟨w5.heap.size, 0, none⟩ 1 1 [.string zt] rfl rfl (World.news_of_block (heap_alloc_new w5 _)) (by simp [Value.oneCell']) (by omega) ?_; intro w6 ho6 hg6; have HO6 := Lib.hid ho6; have HG6 := Lib.hid hg6; clear ho6 hg6)))
        have hb6 : Below w.heap.size w w6 := ((HB3.out.trans (HB5.out.mono HB3.out.size)).alloc (Below.size (HB3.out.trans (HB5.out.mono HB3.out.size))) _).grown HG6.out (by have := HB3.out.size; have := HB5.out.size; simp; omega) (fun i hi => by have := Option.some.inj hi; have := HG.out; omega)
        have HB6 := Lib.hid hb6; clear hb6
        go_roundg (12 - (j + 1))
        case measure => omega
        case rel => exact ⟨j + 1, by omega, rfl, by go_num, rfl, by rw [HSN.out, ← List.append_assoc]; exact HO6.out, HB6.out⟩
      · obtain rfl : j = 12 := by omega
        go_wp2_with fail
        go_ret
        exact ⟨g, rfl, lent_row hl (by rw [HNL.out, Nat.mul_one]) (by rw [HG.out]; exact Nat.le_refl _) (HV.out _ _) rfl HO3.out, HB3.out⟩
def LentOKWord (y : Wd) : Prop := ∀ (w : World) (n1 : List UInt8) (ys : List Wd) (z1 : Int) (s0 : Value), y = .mk n1 ys z1 → Reads w (.row 33 3 ys.length (wdsD ys)) s0 → Calls Tryz.prog 106 #[.agg #[.string (bs n1), s0, .int .i64 z1]] w fun e w' => ∃ g0, e = .returned (.agg #[.string (bs n1), .slice (some ⟨g0, 0, none⟩) ys.length (ys.length + 12), .int .i64 z1]) ∧ LentD mkV w' w.heap.size (.row 33 3 ys.length (wdsD ys)) (.slice (some ⟨g0, 0, none⟩) ys.length (ys.length + 12)) ∧ Below w.heap.size w w'
set_option maxRecDepth 100000 in
set_option maxHeartbeats 8000000 in
theorem lents_Word {l : List Wd} {w : World} {s : Value} (ih : ∀ y ∈ l, LentOKWord y) (hR : Reads w (.row 33 3 l.length (wdsD l)) s) (hl : l.length ≤ 1000000) :
    Calls Tryz.prog 92 #[s] w fun e w' => ∃ g, e = .returned (.slice (some ⟨g, 0, none⟩) l.length (l.length + 12)) ∧ LentD mkV w' w.heap.size (.row 33 3 l.length (wdsD l)) (.slice (some ⟨g, 0, none⟩) l.length (l.length + 12)) ∧ Below w.heap.size w w' := by
  obtain ⟨ti, hi, hz, hsz, hby⟩ := info_parts wInfo
  obtain ⟨p, c, rfl⟩ := Reads.slice hR
  have HR := Lib.hid hR; have HIH := Lib.hid ih; clear hR ih
  have HFL := Lib.hid (show (wdsD l).length = l.length * 3 by rw [wdsD_flat]; exact flat_len _ _ ReadC.wdD_len l)
  have HTL := Lib.hid (show (l.take l.length).flatMap wdD = wdsD l by rw [List.take_length, wdsD_flat])
  generalize hnk : l.length = nk at *
  have HNK := Lib.hid hnk; clear hnk
  have HMLK := Lib.hid (fun j => flat_range (f := fun i : Nat => [.string { data := #[] }, .slice none 0 0, .int .i64 (8000024 + (i : Int))]) j)
  have HMK := Lib.hid (fun (j : Nat) (u : World) (hj : j ≤ 1000) => mark_Word j hj u)
  obtain ⟨wm, hrun, hown, hgr⟩ := run_make_own (P := Tryz.prog) w w.heap.size 31 33 ti _ 3 Tryz.underlying31 hi hz hsz .i64 .i64 (nk + 12) (by rw [hby]; omega) (by unfold maxLen; omega) (Nat.le_refl _)
  have hmk : (Instr.makeSlice 31 (.int .i64 0) (.int .i64 ((nk : Int) + 12))).run Tryz.prog w = .ok (.slice (some ⟨w.heap.size, 0, none⟩) 0 (nk + 12)) wm := by
    have h := hrun
    rw [show ((nk + 12 : Nat) : Int) = (nk : Int) + 12 by omega] at h
    exact h
  have hbm : Below w.heap.size w wm := (Below.refl _ _).grown hgr (Nat.le_refl _) (fun j hj => by cases hj)
  have HOWN := Lib.hid hown; have HBM := Lib.hid hbm
  clear hrun hown hbm hgr
  go_enter Tryz.func92, Tryz.ntmps92
  go_wp2_with fail
  clear hmk
  obtain ⟨g, hg⟩ : ∃ g, g = w.heap.size := ⟨_, rfl⟩
  rw [← hg] at HOWN ⊢
  have HG := Lib.hid hg; clear hg
  have HGM : Hid (g < wm.heap.size) := Lib.hid (HOWN.out.lt g rfl).2
  go_loopg [3, 4, 5] nk (fun gk ov i _ wr => ∃ (k : Nat) (us : List Value), k ≤ nk ∧ gk = nk - k ∧ i = .int .i64 (k : Int) ∧ ov = .slice (some ⟨g, 0, none⟩) k (nk + 12) ∧ wr.ownsRow g 33 3 (.slice (some ⟨g, 0, none⟩) k (nk + 12)) k us ∧ LentVs mkV wr (g + 1) ((l.take k).flatMap wdD) us ∧ Below w.heap.size w wr)
  case atStart => exact ⟨0, [], by omega, by omega, rfl, rfl, HOWN.out, rfl, HBM.out⟩
  case round =>
    obtain ⟨k, us, hk, rfl, rfl, rfl, hown, hrows, hbr⟩ := hrel
    have HO := Lib.hid hown; have HRW := Lib.hid hrows; have HBR := Lib.hid hbr; clear hown hrows hbr
    have hgl : g < wr.heap.size := (HO.out.lt g rfl).2
    by_cases hlt : k < nk
    · have hkl : k < l.length := by have := HNK.out; omega
      obtain ⟨gs, o, rfl, r1⟩ := Reads.elems HR.out (by omega)
      obtain ⟨n1, ys, z1, hy⟩ : ∃ n1 ys z1, l[k]'hkl = .mk n1 ys z1 := by cases l[k]'hkl; exact ⟨_, _, _, rfl⟩
      obtain ⟨x0, y0, e0, e1, e2, hr0⟩ := word_cells r1 hkl hy
      have hmem : l[k]'hkl ∈ l := List.getElem_mem hkl
      have HIY := Lib.hid (fun (u : World) (hu : Below w.heap.size w u) => HIH.out _ hmem u n1 ys z1 _ hy (Reads.below hu hr0))
      have HDAT := Lib.hid (show wdD (l[k]'hkl) = [.lit (.string (bs n1)), .row 33 3 ys.length (wdsD ys), .lit (.int .i64 z1)] by rw [hy, wdD])
      have HSN := Lib.hid (flat_snoc wdD l k hkl)
      have m0 := cell_on rfl HBR.out e0 ; have m1 := cell_on rfl HBR.out e1 ; have m2 := cell_on rfl HBR.out e2
      clear hmem r1 hr0 e0 e1 e2 hy
      generalize l[k]'hkl = yy at *
      have j0 : (0 : Int) ≤ (k : Int) := by omega
      have j1 : (k : Int) < (nk : Int) := by omega
      have HCY := Lib.hid (HIY.out wr HBR.out)
      clear HIY
      generalize (bs n1) = z0 at *
      generalize ys.length = n0x at *
      generalize wdsD ys = it0 at *
      go_wp2_with (first
        | (go_at_call 106; go_must (refine (HCY.out).mono ?_; rintro e w2 ⟨g0, rfl, hv0, hb⟩; have HV0 := Lib.hid hv0; have HB2 := Lib.hid hb; clear hv0 hb))
        | (at_builtin; go_must (refine wpList_append_fits _ rfl _ _ _ rfl g 33 ti 3 Tryz.underlying31 hi hsz g k (nk + 12) _ rfl (((Heap.own_new HO.out HB2.out).alloc _).alloc _) ⟨w2.heap.size + 1, 0, none⟩ 1 1 [.string z0, .slice (some ⟨g0, 0, none⟩) n0x (n0x + 12), .int .i64 z1] rfl rfl (World.news_of_block (alloc2 w2 _ _)) (by simp [Value.oneCell']) (by omega) ?_; intro w4 hown4 hgr4; have HO4 := Lib.hid hown4; have HGR := Lib.hid hgr4; clear hown4 hgr4)))
      have hsz2 : wr.heap.size ≤ w2.heap.size := HB2.out.size
      have hblk : ∀ i, i < wr.heap.size → i ≠ g → w4.heap[i]? = wr.heap[i]? := fun i hi hne => (HGR.out.block i (by simp; omega) (fun e => hne (Option.some.inj e))).trans ((Below.heap_alloc _ _ i (by simp; omega)).trans ((Below.heap_alloc _ _ i (by omega)).trans (HB2.out.block i hi)))
      have hblk1 : ∀ (qq : Addr) v, g + 1 ≤ qq.block → wr.cell? qq = some v → w4.cell? qq = some v := fun qq v hq hc => (World.cell?_of_block (w := wr) (hblk qq.block (World.block_lt_of_cell? _ _ hc) (by omega))).trans hc
      have hblk2 : ∀ (qq : Addr) v, wr.heap.size ≤ qq.block → w2.cell? qq = some v → w4.cell? qq = some v := fun qq v hq hc => by
        have hlt := World.block_lt_of_cell? _ _ hc
        exact (World.cell?_of_block (w := w2) ((HGR.out.block qq.block (by simp; omega) (fun e => by have := Option.some.inj e; omega)).trans ((Below.heap_alloc _ _ _ (by simp; omega)).trans (Below.heap_alloc _ _ _ hlt)))).trans hc
      have hb4 : Below w.heap.size w w4 := (((HBR.out.trans (HB2.out.mono HBR.out.size)).alloc (Below.size (HBR.out.trans (HB2.out.mono HBR.out.size))) _).alloc (by have := HBR.out.size; simp; omega) _).grown HGR.out (by have := HBR.out.size; simp; omega) (fun j hj => by have := Option.some.inj hj; have := HG.out; omega)
      have hnew := (HRW.out.keep hblk1).append (show LentVs mkV w4 (g + 1) [.lit (.string z0), .row 33 3 n0x (it0), .lit (.int .i64 z1)] [.string z0, .slice (some ⟨g0, 0, none⟩) n0x (n0x + 12), .int .i64 z1] from ⟨_, _, rfl, LentD.lit_iff.2 rfl, ⟨_, _, rfl, LentD.base (B := wr.heap.size) (by omega) (HV0.out.keep hblk2), ⟨_, _, rfl, LentD.lit_iff.2 rfl, rfl⟩⟩⟩)
      have HNEW := Lib.hid hnew; have HB4 := Lib.hid hb4; clear hnew hb4 hblk hblk1 hblk2
      go_roundg (nk - (k + 1))
      case measure => omega
      case rel => exact ⟨k + 1, _, by omega, rfl, by go_num, rfl, HO4.out, by rw [HSN.out, HDAT.out]; exact HNEW.out, HB4.out⟩
    · obtain rfl : k = nk := by omega
      have HRL := Lib.hid (show LentVs mkV wr (g + 1) (wdsD l) us from by rw [← HTL.out]; exact HRW.out)
      go_wp2_with fail
      go_loopg [3, 6] 12 (fun gk ov i wz => ∃ j : Nat, j ≤ 12 ∧ gk = 12 - j ∧ i = .int .i64 (j : Int) ∧ ov = .slice (some ⟨g, 0, none⟩) (k + j) (k + 12) ∧ wz.ownsRow g 33 3 (.slice (some ⟨g, 0, none⟩) (k + j) (k + 12)) (k + j) (us ++ mkWord j) ∧ LentVs mkV wz (g + 1) (wdsD l) us ∧ Below w.heap.size w wz)
      case atStart => exact ⟨0, by omega, by omega, rfl, rfl, by have := HO.out; simpa [mkWord] using this, HRL.out, HBR.out⟩
      case round =>
        obtain ⟨j, hj, rfl, rfl, rfl, hown2, hrows2, hbr2⟩ := hrel
        clear HO HRW HBR HRL hgl
        have HO := Lib.hid hown2; have HRW := Lib.hid hrows2; have HBR := Lib.hid hbr2; clear hown2 hrows2 hbr2
        by_cases hjt : j < 12
        · have HC := Lib.hid (HMK.out j wr (by omega))
          have HSN := Lib.hid (show mkWord (j + 1) = mkWord j ++ [.string { data := #[] }, .slice none 0 0, .int .i64 (8000024 + (j : Int))] from HMLK.out j)
          generalize 8000024 + (j : Int) = mi at *
          have hgl : g < wr.heap.size := (HO.out.lt g rfl).2
          go_wp2_with (first
            | (go_at_call 107; go_must (refine (HC.out).mono ?_; rintro e w2 ⟨rfl, hb⟩; have HB2 := Lib.hid hb; clear hb))
            | (at_builtin; go_must (refine wpList_append_fits _ rfl _ _ _ rfl g 33 ti 3 Tryz.underlying31 hi hsz g (k + j) (k + 12) _ rfl ((Heap.own_new HO.out HB2.out).alloc _) ⟨w2.heap.size, 0, none⟩ 1 1 [.string { data := #[] }, .slice none 0 0, .int .i64 mi] rfl rfl (World.news_of_block (heap_alloc_new w2 _)) (by simp [Value.oneCell']) (by omega) ?_; intro w4 hown4 hgr4; have HO4 := Lib.hid hown4; have HGR := Lib.hid hgr4; clear hown4 hgr4)))
          have hsz2 : wr.heap.size ≤ w2.heap.size := HB2.out.size
          have hblk : ∀ i, i < wr.heap.size → i ≠ g → w4.heap[i]? = wr.heap[i]? := fun i hi hne => (HGR.out.block i (by simp; omega) (fun e => hne (Option.some.inj e))).trans ((Below.heap_alloc _ _ i (by omega)).trans (HB2.out.block i hi))
          have hb4 : Below w.heap.size w w4 := ((HBR.out.trans (HB2.out.mono HBR.out.size)).alloc (Below.size (HBR.out.trans (HB2.out.mono HBR.out.size))) _).grown HGR.out (by have := HBR.out.size; simp; omega) (fun j hj => by have := Option.some.inj hj; have := HG.out; omega)
          have HNEW := Lib.hid (HRW.out.keep (fun qq v hq hc => (World.cell?_of_block (w := wr) (hblk qq.block (World.block_lt_of_cell? _ _ hc) (by omega))).trans hc) : LentVs mkV w4 (g + 1) (wdsD l) us)
          have HB4 := Lib.hid hb4; clear hb4 hblk
          go_roundg (12 - (j + 1))
          case measure => omega
          case rel => exact ⟨j + 1, by omega, rfl, by go_num, rfl, by rw [HSN.out, ← List.append_assoc]; exact HO4.out, HNEW.out, HB4.out⟩
        · obtain rfl : j = 12 := by omega
          go_wp2_with fail
          go_ret
          exact ⟨g, rfl, lent_row hl HFL.out (by rw [HG.out]; exact Nat.le_refl _) (HRW.out.base (by have := HG.out; omega)) rfl HO.out, HBR.out⟩
set_option maxRecDepth 100000 in
set_option maxHeartbeats 4000000 in
theorem lent_Word {n1 : List UInt8} {ys : List Wd} {z1 : Int} {w : World} {s0 : Value} (h0 : Reads w (.row 33 3 ys.length (wdsD ys)) s0) (ih : ∀ y ∈ ys, LentOKWord y) (hl : ys.length ≤ 1000000) :
    Calls Tryz.prog 106 #[.agg #[.string (bs n1), s0, .int .i64 z1]] w fun e w' => ∃ g0, e = .returned (.agg #[.string (bs n1), .slice (some ⟨g0, 0, none⟩) ys.length (ys.length + 12), .int .i64 z1]) ∧ LentD mkV w' w.heap.size (.row 33 3 ys.length (wdsD ys)) (.slice (some ⟨g0, 0, none⟩) ys.length (ys.length + 12)) ∧ Below w.heap.size w w' := by
  obtain ⟨p0, q0, rfl⟩ := Reads.slice h0
  have HL0 := Lib.hid (fun (u : World) (hu : Below w.heap.size w u) => lents_Word ih (Reads.below hu h0) hl)
  clear h0 ih
  generalize ys.length = m0 at *
  generalize wdsD ys = it0 at *
  generalize (bs n1) = z0 at *
  have HB := Lib.hid (((Below.refl w.heap.size w).alloc (Nat.le_refl _) (.cells #[.string z0, .slice p0 m0 q0, .int .i64 z1] 33)).alloc (by simp) (.cells #[.string { data := #[] }, .slice none 0 0, .int .i64 0] 33))
  have HSZ := Lib.hid (show ((w.alloc (.cells #[.string z0, .slice p0 m0 q0, .int .i64 z1] 33)).alloc (.cells #[.string { data := #[] }, .slice none 0 0, .int .i64 0] 33)).heap.size = w.heap.size + 2 by simp)
  have XB := Lib.hid (show ((w.alloc (.cells #[.string z0, .slice p0 m0 q0, .int .i64 z1] 33)).alloc (.cells #[.string { data := #[] }, .slice none 0 0, .int .i64 0] 33)).heap[w.heap.size + 1]? = some (.cells #[.string { data := #[] }, .slice none 0 0, .int .i64 0] 33 (0, 0)) from alloc2 w _ _)
  have XA := Lib.hid (show ((w.alloc (.cells #[.string z0, .slice p0 m0 q0, .int .i64 z1] 33)).alloc (.cells #[.string { data := #[] }, .slice none 0 0, .int .i64 0] 33)).heap[w.heap.size]? = some (.cells #[.string z0, .slice p0 m0 q0, .int .i64 z1] 33 (0, 0)) from (Below.heap_alloc _ _ _ (by simp)).trans (heap_alloc_new _ _))
  go_enter Tryz.func106, Tryz.ntmps106
  go_upto_region 1 with fail
  generalize ((w.alloc (.cells #[.string z0, .slice p0 m0 q0, .int .i64 z1] 33)).alloc (.cells #[.string { data := #[] }, .slice none 0 0, .int .i64 0] 33)) = W at *
  generalize hH : w.heap.size = H at *
  have HZ := Lib.hid hH; clear hH
  have HSL : Hid (H + 2 ≤ W.heap.size) := Lib.hid (by rw [HSZ.out]; exact Nat.le_refl _)
  clear HSZ
  have aa := cell_of_row W H 1 _ _ (0, 0) XA.out
  go_upto_region 2 with (go_at_call 92; go_must (refine (HL0.out _ HB.out).mono ?_; rintro e w2 ⟨g0, rfl, hv, hb⟩; have hoa := (hb.block H (by have := HSL.out; omega)).trans XA.out; have hob := (hb.block (H + 1) (by have := HSL.out; omega)).trans XB.out; have fa := frozen_of_row w2 H 1 _ _ hoa; have ab := cell_of_row w2 H 1 _ _ (0, 0) hoa; have HVN := Lib.hid hv; have HBN := Lib.hid hb; have XA2 := Lib.hid hoa; have XB2 := Lib.hid hob; clear hv hb hoa hob aa))
  clear fa ab
  obtain ⟨W0, hW'⟩ : ∃ W', W' = w2.setCell ⟨H, 1, none⟩ (.slice (some ⟨g0, 0, none⟩) m0 (m0 + 12)) := ⟨_, rfl⟩
  rw [← hW']
  have XA3 := Lib.hid (show W0.heap[H]? = some (.cells #[.string z0, .slice (some ⟨g0, 0, none⟩) m0 (m0 + 12), .int .i64 z1] 33 (0, 0)) from by rw [hW']; exact blk_set XA2.out 1 _)
  have XB3 := Lib.hid (show W0.heap[H + 1]? = some (.cells #[.string { data := #[] }, .slice none 0 0, .int .i64 0] 33 (0, 0)) from by rw [hW']; exact (Below.heap_setCell _ _ _ _ (by simp)).trans XB2.out)
  have HB3 := Lib.hid (show Below H w W0 from by rw [hW']; exact (HB.out.trans (HBN.out.mono (by have := HSL.out; omega))).setCell (Nat.le_refl _) _)
  have HV0 := Lib.hid (show LentD mkV W0 (H + 2) (.row 33 3 m0 it0) (.slice (some ⟨g0, 0, none⟩) m0 (m0 + 12)) from by rw [hW']; exact (HVN.out.base HSL.out).set (by omega))
  have HSL3 : Hid (H + 2 ≤ W0.heap.size) := Lib.hid (by have := HSL.out; have := HBN.out.size; rw [hW']; simp only [World.setCell, Array.size_modify]; omega)
  clear hW' HVN HBN XA2 XB2 XA XB HB HSL HL0
  have XA := XA3; have XB := XB3; have HB := HB3; have HSL := HSL3
  clear XA3 XB3 HB3 HSL3
  have b0 : W0.cell? ⟨H, 0, none⟩ = some (.string z0) := cell_of_row W0 H 0 _ _ (0, 0) XA.out
  have c0 := cell_of_row W0 (H + 1) 0 _ _ (0, 0) XB.out
  have f0 := frozen_of_row W0 (H + 1) 0 _ _ XB.out
  have b1 : W0.cell? ⟨H, 1, none⟩ = some (.slice (some ⟨g0, 0, none⟩) m0 (m0 + 12)) := cell_of_row W0 H 1 _ _ (0, 0) XA.out
  have c1 := cell_of_row W0 (H + 1) 1 _ _ (0, 0) XB.out
  have f1 := frozen_of_row W0 (H + 1) 1 _ _ XB.out
  have b2 : W0.cell? ⟨H, 2, none⟩ = some (.int .i64 z1) := cell_of_row W0 H 2 _ _ (0, 0) XA.out
  have c2 := cell_of_row W0 (H + 1) 2 _ _ (0, 0) XB.out
  have f2 := frozen_of_row W0 (H + 1) 2 _ _ XB.out
  have hx := blk_set (blk_set (blk_set XB.out 0 (.string z0)) 1 (.slice (some ⟨g0, 0, none⟩) m0 (m0 + 12))) 2 (.int .i64 z1)
  go_wp2_with fail
  refine bodyPost_ret (res_Word rfl hx rfl) rfl ⟨g0, rfl, LentD.base (B := H + 2) (by have := HZ.out; omega) (LentD.set (b := H + 1) (i := 2) (LentD.set (b := H + 1) (i := 1) (LentD.set (b := H + 1) (i := 0) HV0.out (by omega)) (by omega)) (by omega)), ?_⟩
  rw [HZ.out]
  exact (((HB.out.setCell (p := ⟨H + 1, 0, none⟩) (Nat.le_succ _) _).setCell (p := ⟨H + 1, 1, none⟩) (Nat.le_succ _) _).setCell (p := ⟨H + 1, 2, none⟩) (Nat.le_succ _) _)
theorem lent_wd : ∀ x : Wd, wdOk x → LentOKWord x
  | .mk n xs z, ho => fun w n1 ys z1 s0 he hr => by
    cases he
    rw [wdOk] at ho
    exact lent_Word hr (fun y hy => lent_wd y (wdsOk_mem ho.2 y hy)) ho.1
  termination_by x => SizeOf.sizeOf x
  decreasing_by have := List.sizeOf_lt_of_mem hy; simp; omega
set_option maxRecDepth 100000 in
set_option maxHeartbeats 4000000 in
theorem lent_Alt {y : Al} {w : World} {s0 : Value} (h0 : Reads w (.row 33 3 y.words.length (wdsD y.words)) s0) (ho : AlOk y) :
    Calls Tryz.prog 82 #[.agg #[s0, .string (bs y.prec), .bool y.has, .string (bs y.action), .int .i64 y.whr, .int .i64 y.at_]] w fun e w' => ∃ g0, e = .returned (.agg #[.slice (some ⟨g0, 0, none⟩) y.words.length (y.words.length + 12), .string (bs y.prec), .bool y.has, .string (bs y.action), .int .i64 y.whr, .int .i64 y.at_]) ∧ LentD mkV w' w.heap.size (.row 33 3 y.words.length (wdsD y.words)) (.slice (some ⟨g0, 0, none⟩) y.words.length (y.words.length + 12)) ∧ Below w.heap.size w w' := by
  obtain ⟨p0, q0, rfl⟩ := Reads.slice h0
  have HL0 := Lib.hid (fun (u : World) (hu : Below w.heap.size w u) => lents_Word (fun x hx => lent_wd x (wdsOk_mem ho.words x hx)) (Reads.below hu h0) ho.n)
  clear h0 ho
  generalize y.words.length = m0 at *
  generalize wdsD y.words = it0 at *
  generalize (bs y.prec) = z1 at *
  generalize y.has = z2 at *
  generalize (bs y.action) = z3 at *
  generalize y.whr = z4 at *
  generalize y.at_ = z5 at *
  have HB := Lib.hid (((Below.refl w.heap.size w).alloc (Nat.le_refl _) (.cells #[.slice p0 m0 q0, .string z1, .bool z2, .string z3, .int .i64 z4, .int .i64 z5] 35)).alloc (by simp) (.cells #[.slice none 0 0, .string { data := #[] }, .bool false, .string { data := #[] }, .int .i64 0, .int .i64 0] 35))
  have HSZ := Lib.hid (show ((w.alloc (.cells #[.slice p0 m0 q0, .string z1, .bool z2, .string z3, .int .i64 z4, .int .i64 z5] 35)).alloc (.cells #[.slice none 0 0, .string { data := #[] }, .bool false, .string { data := #[] }, .int .i64 0, .int .i64 0] 35)).heap.size = w.heap.size + 2 by simp)
  have XB := Lib.hid (show ((w.alloc (.cells #[.slice p0 m0 q0, .string z1, .bool z2, .string z3, .int .i64 z4, .int .i64 z5] 35)).alloc (.cells #[.slice none 0 0, .string { data := #[] }, .bool false, .string { data := #[] }, .int .i64 0, .int .i64 0] 35)).heap[w.heap.size + 1]? = some (.cells #[.slice none 0 0, .string { data := #[] }, .bool false, .string { data := #[] }, .int .i64 0, .int .i64 0] 35 (0, 0)) from alloc2 w _ _)
  have XA := Lib.hid (show ((w.alloc (.cells #[.slice p0 m0 q0, .string z1, .bool z2, .string z3, .int .i64 z4, .int .i64 z5] 35)).alloc (.cells #[.slice none 0 0, .string { data := #[] }, .bool false, .string { data := #[] }, .int .i64 0, .int .i64 0] 35)).heap[w.heap.size]? = some (.cells #[.slice p0 m0 q0, .string z1, .bool z2, .string z3, .int .i64 z4, .int .i64 z5] 35 (0, 0)) from (Below.heap_alloc _ _ _ (by simp)).trans (heap_alloc_new _ _))
  go_enter Tryz.func82, Tryz.ntmps82
  go_upto_region 1 with fail
  generalize ((w.alloc (.cells #[.slice p0 m0 q0, .string z1, .bool z2, .string z3, .int .i64 z4, .int .i64 z5] 35)).alloc (.cells #[.slice none 0 0, .string { data := #[] }, .bool false, .string { data := #[] }, .int .i64 0, .int .i64 0] 35)) = W at *
  generalize hH : w.heap.size = H at *
  have HZ := Lib.hid hH; clear hH
  have HSL : Hid (H + 2 ≤ W.heap.size) := Lib.hid (by rw [HSZ.out]; exact Nat.le_refl _)
  clear HSZ
  have aa := cell_of_row W H 0 _ _ (0, 0) XA.out
  go_upto_region 2 with (go_at_call 92; go_must (refine (HL0.out _ HB.out).mono ?_; rintro e w2 ⟨g0, rfl, hv, hb⟩; have hoa := (hb.block H (by have := HSL.out; omega)).trans XA.out; have hob := (hb.block (H + 1) (by have := HSL.out; omega)).trans XB.out; have fa := frozen_of_row w2 H 0 _ _ hoa; have ab := cell_of_row w2 H 0 _ _ (0, 0) hoa; have HVN := Lib.hid hv; have HBN := Lib.hid hb; have XA2 := Lib.hid hoa; have XB2 := Lib.hid hob; clear hv hb hoa hob aa))
  clear fa ab
  obtain ⟨W0, hW'⟩ : ∃ W', W' = w2.setCell ⟨H, 0, none⟩ (.slice (some ⟨g0, 0, none⟩) m0 (m0 + 12)) := ⟨_, rfl⟩
  rw [← hW']
  have XA3 := Lib.hid (show W0.heap[H]? = some (.cells #[.slice (some ⟨g0, 0, none⟩) m0 (m0 + 12), .string z1, .bool z2, .string z3, .int .i64 z4, .int .i64 z5] 35 (0, 0)) from by rw [hW']; exact blk_set XA2.out 0 _)
  have XB3 := Lib.hid (show W0.heap[H + 1]? = some (.cells #[.slice none 0 0, .string { data := #[] }, .bool false, .string { data := #[] }, .int .i64 0, .int .i64 0] 35 (0, 0)) from by rw [hW']; exact (Below.heap_setCell _ _ _ _ (by simp)).trans XB2.out)
  have HB3 := Lib.hid (show Below H w W0 from by rw [hW']; exact (HB.out.trans (HBN.out.mono (by have := HSL.out; omega))).setCell (Nat.le_refl _) _)
  have HV0 := Lib.hid (show LentD mkV W0 (H + 2) (.row 33 3 m0 it0) (.slice (some ⟨g0, 0, none⟩) m0 (m0 + 12)) from by rw [hW']; exact (HVN.out.base HSL.out).set (by omega))
  have HSL3 : Hid (H + 2 ≤ W0.heap.size) := Lib.hid (by have := HSL.out; have := HBN.out.size; rw [hW']; simp only [World.setCell, Array.size_modify]; omega)
  clear hW' HVN HBN XA2 XB2 XA XB HB HSL HL0
  have XA := XA3; have XB := XB3; have HB := HB3; have HSL := HSL3
  clear XA3 XB3 HB3 HSL3
  have b0 : W0.cell? ⟨H, 0, none⟩ = some (.slice (some ⟨g0, 0, none⟩) m0 (m0 + 12)) := cell_of_row W0 H 0 _ _ (0, 0) XA.out
  have c0 := cell_of_row W0 (H + 1) 0 _ _ (0, 0) XB.out
  have f0 := frozen_of_row W0 (H + 1) 0 _ _ XB.out
  have b1 : W0.cell? ⟨H, 1, none⟩ = some (.string z1) := cell_of_row W0 H 1 _ _ (0, 0) XA.out
  have c1 := cell_of_row W0 (H + 1) 1 _ _ (0, 0) XB.out
  have f1 := frozen_of_row W0 (H + 1) 1 _ _ XB.out
  have b2 : W0.cell? ⟨H, 2, none⟩ = some (.bool z2) := cell_of_row W0 H 2 _ _ (0, 0) XA.out
  have c2 := cell_of_row W0 (H + 1) 2 _ _ (0, 0) XB.out
  have f2 := frozen_of_row W0 (H + 1) 2 _ _ XB.out
  have b3 : W0.cell? ⟨H, 3, none⟩ = some (.string z3) := cell_of_row W0 H 3 _ _ (0, 0) XA.out
  have c3 := cell_of_row W0 (H + 1) 3 _ _ (0, 0) XB.out
  have f3 := frozen_of_row W0 (H + 1) 3 _ _ XB.out
  have b4 : W0.cell? ⟨H, 4, none⟩ = some (.int .i64 z4) := cell_of_row W0 H 4 _ _ (0, 0) XA.out
  have c4 := cell_of_row W0 (H + 1) 4 _ _ (0, 0) XB.out
  have f4 := frozen_of_row W0 (H + 1) 4 _ _ XB.out
  have b5 : W0.cell? ⟨H, 5, none⟩ = some (.int .i64 z5) := cell_of_row W0 H 5 _ _ (0, 0) XA.out
  have c5 := cell_of_row W0 (H + 1) 5 _ _ (0, 0) XB.out
  have f5 := frozen_of_row W0 (H + 1) 5 _ _ XB.out
  have hx := blk_set (blk_set (blk_set (blk_set (blk_set (blk_set XB.out 0 (.slice (some ⟨g0, 0, none⟩) m0 (m0 + 12))) 1 (.string z1)) 2 (.bool z2)) 3 (.string z3)) 4 (.int .i64 z4)) 5 (.int .i64 z5)
  go_wp2_with fail
  refine bodyPost_ret (res_Alt rfl hx rfl) rfl ⟨g0, rfl, LentD.base (B := H + 2) (by have := HZ.out; omega) (LentD.set (b := H + 1) (i := 5) (LentD.set (b := H + 1) (i := 4) (LentD.set (b := H + 1) (i := 3) (LentD.set (b := H + 1) (i := 2) (LentD.set (b := H + 1) (i := 1) (LentD.set (b := H + 1) (i := 0) HV0.out (by omega)) (by omega)) (by omega)) (by omega)) (by omega)) (by omega)), ?_⟩
  rw [HZ.out]
  exact ((((((HB.out.setCell (p := ⟨H + 1, 0, none⟩) (Nat.le_succ _) _).setCell (p := ⟨H + 1, 1, none⟩) (Nat.le_succ _) _).setCell (p := ⟨H + 1, 2, none⟩) (Nat.le_succ _) _).setCell (p := ⟨H + 1, 3, none⟩) (Nat.le_succ _) _).setCell (p := ⟨H + 1, 4, none⟩) (Nat.le_succ _) _).setCell (p := ⟨H + 1, 5, none⟩) (Nat.le_succ _) _)
def LentOKAlt (y : Al) : Prop := ∀ (w : World) (s0 : Value), Reads w (.row 33 3 y.words.length (wdsD y.words)) s0 → Calls Tryz.prog 82 #[.agg #[s0, .string (bs y.prec), .bool y.has, .string (bs y.action), .int .i64 y.whr, .int .i64 y.at_]] w fun e w' => ∃ g0, e = .returned (.agg #[.slice (some ⟨g0, 0, none⟩) y.words.length (y.words.length + 12), .string (bs y.prec), .bool y.has, .string (bs y.action), .int .i64 y.whr, .int .i64 y.at_]) ∧ LentD mkV w' w.heap.size (.row 33 3 y.words.length (wdsD y.words)) (.slice (some ⟨g0, 0, none⟩) y.words.length (y.words.length + 12)) ∧ Below w.heap.size w w'
set_option maxRecDepth 100000 in
set_option maxHeartbeats 8000000 in
theorem lents_Alt {l : List Al} {w : World} {s : Value} (ih : ∀ y ∈ l, LentOKAlt y) (hR : Reads w (.row 35 6 l.length (alsD l)) s) (hl : l.length ≤ 1000000) :
    Calls Tryz.prog 68 #[s] w fun e w' => ∃ g, e = .returned (.slice (some ⟨g, 0, none⟩) l.length (l.length + 12)) ∧ LentD mkV w' w.heap.size (.row 35 6 l.length (alsD l)) (.slice (some ⟨g, 0, none⟩) l.length (l.length + 12)) ∧ Below w.heap.size w w' := by
  obtain ⟨ti, hi, hz, hsz, hby⟩ := info_parts aInfo
  obtain ⟨p, c, rfl⟩ := Reads.slice hR
  have HR := Lib.hid hR; have HIH := Lib.hid ih; clear hR ih
  have HFL := Lib.hid (show (alsD l).length = l.length * 6 by rw [alsD_flat]; exact flat_len _ _ ReadH.alD_len l)
  have HTL := Lib.hid (show (l.take l.length).flatMap alD = alsD l by rw [List.take_length, alsD_flat])
  generalize hnk : l.length = nk at *
  have HNK := Lib.hid hnk; clear hnk
  have HMLK := Lib.hid (fun j => flat_range (f := fun i : Nat => [.slice none 0 0, .string { data := #[] }, .bool false, .string { data := #[] }, .int .i64 0, .int .i64 (8000024 + (i : Int))]) j)
  have HMK := Lib.hid (fun (j : Nat) (u : World) (hj : j ≤ 1000) => mark_Alt j hj u)
  obtain ⟨wm, hrun, hown, hgr⟩ := run_make_own (P := Tryz.prog) w w.heap.size 36 35 ti _ 6 Tryz.underlying36 hi hz hsz .i64 .i64 (nk + 12) (by rw [hby]; omega) (by unfold maxLen; omega) (Nat.le_refl _)
  have hmk : (Instr.makeSlice 36 (.int .i64 0) (.int .i64 ((nk : Int) + 12))).run Tryz.prog w = .ok (.slice (some ⟨w.heap.size, 0, none⟩) 0 (nk + 12)) wm := by
    have h := hrun
    rw [show ((nk + 12 : Nat) : Int) = (nk : Int) + 12 by omega] at h
    exact h
  have hbm : Below w.heap.size w wm := (Below.refl _ _).grown hgr (Nat.le_refl _) (fun j hj => by cases hj)
  have HOWN := Lib.hid hown; have HBM := Lib.hid hbm
  clear hrun hown hbm hgr
  go_enter Tryz.func68, Tryz.ntmps68
  go_wp2_with fail
  clear hmk
  obtain ⟨g, hg⟩ : ∃ g, g = w.heap.size := ⟨_, rfl⟩
  rw [← hg] at HOWN ⊢
  have HG := Lib.hid hg; clear hg
  have HGM : Hid (g < wm.heap.size) := Lib.hid (HOWN.out.lt g rfl).2
  go_loopg [3, 4, 5] nk (fun gk ov i _ wr => ∃ (k : Nat) (us : List Value), k ≤ nk ∧ gk = nk - k ∧ i = .int .i64 (k : Int) ∧ ov = .slice (some ⟨g, 0, none⟩) k (nk + 12) ∧ wr.ownsRow g 35 6 (.slice (some ⟨g, 0, none⟩) k (nk + 12)) k us ∧ LentVs mkV wr (g + 1) ((l.take k).flatMap alD) us ∧ Below w.heap.size w wr)
  case atStart => exact ⟨0, [], by omega, by omega, rfl, rfl, HOWN.out, rfl, HBM.out⟩
  case round =>
    obtain ⟨k, us, hk, rfl, rfl, rfl, hown, hrows, hbr⟩ := hrel
    have HO := Lib.hid hown; have HRW := Lib.hid hrows; have HBR := Lib.hid hbr; clear hown hrows hbr
    have hgl : g < wr.heap.size := (HO.out.lt g rfl).2
    by_cases hlt : k < nk
    · have hkl : k < l.length := by have := HNK.out; omega
      obtain ⟨gs, o, rfl, r1⟩ := Reads.elems HR.out (by omega)
      obtain ⟨x0, y0, e0, e1, e2, e3, e4, e5, hr0⟩ := alt_cells r1 hkl
      have hmem : l[k]'hkl ∈ l := List.getElem_mem hkl
      have HIY := Lib.hid (fun (u : World) (hu : Below w.heap.size w u) => HIH.out _ hmem u _ (Reads.below hu hr0))
      have HDAT := Lib.hid (show alD (l[k]'hkl) = [.row 33 3 (l[k]'hkl).words.length (wdsD (l[k]'hkl).words), .lit (.string (bs (l[k]'hkl).prec)), .lit (.bool (l[k]'hkl).has), .lit (.string (bs (l[k]'hkl).action)), .lit (.int .i64 (l[k]'hkl).whr), .lit (.int .i64 (l[k]'hkl).at_)] from rfl)
      have HSN := Lib.hid (flat_snoc alD l k hkl)
      have m0 := cell_on rfl HBR.out e0 ; have m1 := cell_on rfl HBR.out e1 ; have m2 := cell_on rfl HBR.out e2 ; have m3 := cell_on rfl HBR.out e3 ; have m4 := cell_on rfl HBR.out e4 ; have m5 := cell_on rfl HBR.out e5
      clear hmem r1 hr0 e0 e1 e2 e3 e4 e5
      generalize l[k]'hkl = y at *
      have j0 : (0 : Int) ≤ (k : Int) := by omega
      have j1 : (k : Int) < (nk : Int) := by omega
      have HCY := Lib.hid (HIY.out wr HBR.out)
      clear HIY
      generalize (bs y.prec) = z1 at *
      generalize y.has = z2 at *
      generalize (bs y.action) = z3 at *
      generalize y.whr = z4 at *
      generalize y.at_ = z5 at *
      generalize y.words.length = n0x at *
      generalize wdsD y.words = it0 at *
      go_wp2_with (first
        | (go_at_call 82; go_must (refine (HCY.out).mono ?_; rintro e w2 ⟨g0, rfl, hv0, hb⟩; have HV0 := Lib.hid hv0; have HB2 := Lib.hid hb; clear hv0 hb))
        | (at_builtin; go_must (refine wpList_append_fits _ rfl _ _ _ rfl g 35 ti 6 Tryz.underlying36 hi hsz g k (nk + 12) _ rfl (((Heap.own_new HO.out HB2.out).alloc _).alloc _) ⟨w2.heap.size + 1, 0, none⟩ 1 1 [.slice (some ⟨g0, 0, none⟩) n0x (n0x + 12), .string z1, .bool z2, .string z3, .int .i64 z4, .int .i64 z5] rfl rfl (World.news_of_block (alloc2 w2 _ _)) (by simp [Value.oneCell']) (by omega) ?_; intro w4 hown4 hgr4; have HO4 := Lib.hid hown4; have HGR := Lib.hid hgr4; clear hown4 hgr4)))
      have hsz2 : wr.heap.size ≤ w2.heap.size := HB2.out.size
      have hblk : ∀ i, i < wr.heap.size → i ≠ g → w4.heap[i]? = wr.heap[i]? := fun i hi hne => (HGR.out.block i (by simp; omega) (fun e => hne (Option.some.inj e))).trans ((Below.heap_alloc _ _ i (by simp; omega)).trans ((Below.heap_alloc _ _ i (by omega)).trans (HB2.out.block i hi)))
      have hblk1 : ∀ (qq : Addr) v, g + 1 ≤ qq.block → wr.cell? qq = some v → w4.cell? qq = some v := fun qq v hq hc => (World.cell?_of_block (w := wr) (hblk qq.block (World.block_lt_of_cell? _ _ hc) (by omega))).trans hc
      have hblk2 : ∀ (qq : Addr) v, wr.heap.size ≤ qq.block → w2.cell? qq = some v → w4.cell? qq = some v := fun qq v hq hc => by
        have hlt := World.block_lt_of_cell? _ _ hc
        exact (World.cell?_of_block (w := w2) ((HGR.out.block qq.block (by simp; omega) (fun e => by have := Option.some.inj e; omega)).trans ((Below.heap_alloc _ _ _ (by simp; omega)).trans (Below.heap_alloc _ _ _ hlt)))).trans hc
      have hb4 : Below w.heap.size w w4 := (((HBR.out.trans (HB2.out.mono HBR.out.size)).alloc (Below.size (HBR.out.trans (HB2.out.mono HBR.out.size))) _).alloc (by have := HBR.out.size; simp; omega) _).grown HGR.out (by have := HBR.out.size; simp; omega) (fun j hj => by have := Option.some.inj hj; have := HG.out; omega)
      have hnew := (HRW.out.keep hblk1).append (show LentVs mkV w4 (g + 1) [.row 33 3 n0x (it0), .lit (.string z1), .lit (.bool z2), .lit (.string z3), .lit (.int .i64 z4), .lit (.int .i64 z5)] [.slice (some ⟨g0, 0, none⟩) n0x (n0x + 12), .string z1, .bool z2, .string z3, .int .i64 z4, .int .i64 z5] from ⟨_, _, rfl, LentD.base (B := wr.heap.size) (by omega) (HV0.out.keep hblk2), ⟨_, _, rfl, LentD.lit_iff.2 rfl, ⟨_, _, rfl, LentD.lit_iff.2 rfl, ⟨_, _, rfl, LentD.lit_iff.2 rfl, ⟨_, _, rfl, LentD.lit_iff.2 rfl, ⟨_, _, rfl, LentD.lit_iff.2 rfl, rfl⟩⟩⟩⟩⟩⟩)
      have HNEW := Lib.hid hnew; have HB4 := Lib.hid hb4; clear hnew hb4 hblk hblk1 hblk2
      go_roundg (nk - (k + 1))
      case measure => omega
      case rel => exact ⟨k + 1, _, by omega, rfl, by go_num, rfl, HO4.out, by rw [HSN.out, HDAT.out]; exact HNEW.out, HB4.out⟩
    · obtain rfl : k = nk := by omega
      have HRL := Lib.hid (show LentVs mkV wr (g + 1) (alsD l) us from by rw [← HTL.out]; exact HRW.out)
      go_wp2_with fail
      go_loopg [3, 6] 12 (fun gk ov i wz => ∃ j : Nat, j ≤ 12 ∧ gk = 12 - j ∧ i = .int .i64 (j : Int) ∧ ov = .slice (some ⟨g, 0, none⟩) (k + j) (k + 12) ∧ wz.ownsRow g 35 6 (.slice (some ⟨g, 0, none⟩) (k + j) (k + 12)) (k + j) (us ++ mkAlt j) ∧ LentVs mkV wz (g + 1) (alsD l) us ∧ Below w.heap.size w wz)
      case atStart => exact ⟨0, by omega, by omega, rfl, rfl, by have := HO.out; simpa [mkAlt] using this, HRL.out, HBR.out⟩
      case round =>
        obtain ⟨j, hj, rfl, rfl, rfl, hown2, hrows2, hbr2⟩ := hrel
        clear HO HRW HBR HRL hgl
        have HO := Lib.hid hown2; have HRW := Lib.hid hrows2; have HBR := Lib.hid hbr2; clear hown2 hrows2 hbr2
        by_cases hjt : j < 12
        · have HC := Lib.hid (HMK.out j wr (by omega))
          have HSN := Lib.hid (show mkAlt (j + 1) = mkAlt j ++ [.slice none 0 0, .string { data := #[] }, .bool false, .string { data := #[] }, .int .i64 0, .int .i64 (8000024 + (j : Int))] from HMLK.out j)
          generalize 8000024 + (j : Int) = mi at *
          have hgl : g < wr.heap.size := (HO.out.lt g rfl).2
          go_wp2_with (first
            | (go_at_call 83; go_must (refine (HC.out).mono ?_; rintro e w2 ⟨rfl, hb⟩; have HB2 := Lib.hid hb; clear hb))
            | (at_builtin; go_must (refine wpList_append_fits _ rfl _ _ _ rfl g 35 ti 6 Tryz.underlying36 hi hsz g (k + j) (k + 12) _ rfl ((Heap.own_new HO.out HB2.out).alloc _) ⟨w2.heap.size, 0, none⟩ 1 1 [.slice none 0 0, .string { data := #[] }, .bool false, .string { data := #[] }, .int .i64 0, .int .i64 mi] rfl rfl (World.news_of_block (heap_alloc_new w2 _)) (by simp [Value.oneCell']) (by omega) ?_; intro w4 hown4 hgr4; have HO4 := Lib.hid hown4; have HGR := Lib.hid hgr4; clear hown4 hgr4)))
          have hsz2 : wr.heap.size ≤ w2.heap.size := HB2.out.size
          have hblk : ∀ i, i < wr.heap.size → i ≠ g → w4.heap[i]? = wr.heap[i]? := fun i hi hne => (HGR.out.block i (by simp; omega) (fun e => hne (Option.some.inj e))).trans ((Below.heap_alloc _ _ i (by omega)).trans (HB2.out.block i hi))
          have hb4 : Below w.heap.size w w4 := ((HBR.out.trans (HB2.out.mono HBR.out.size)).alloc (Below.size (HBR.out.trans (HB2.out.mono HBR.out.size))) _).grown HGR.out (by have := HBR.out.size; simp; omega) (fun j hj => by have := Option.some.inj hj; have := HG.out; omega)
          have HNEW := Lib.hid (HRW.out.keep (fun qq v hq hc => (World.cell?_of_block (w := wr) (hblk qq.block (World.block_lt_of_cell? _ _ hc) (by omega))).trans hc) : LentVs mkV w4 (g + 1) (alsD l) us)
          have HB4 := Lib.hid hb4; clear hb4 hblk
          go_roundg (12 - (j + 1))
          case measure => omega
          case rel => exact ⟨j + 1, by omega, rfl, by go_num, rfl, by rw [HSN.out, ← List.append_assoc]; exact HO4.out, HNEW.out, HB4.out⟩
        · obtain rfl : j = 12 := by omega
          go_wp2_with fail
          go_ret
          exact ⟨g, rfl, lent_row hl HFL.out (by rw [HG.out]; exact Nat.le_refl _) (HRW.out.base (by have := HG.out; omega)) rfl HO.out, HBR.out⟩
theorem lent_al (x : Al) (ho : AlOk x) : LentOKAlt x := fun _ _ h0 => lent_Alt h0 ho
set_option maxRecDepth 100000 in
set_option maxHeartbeats 4000000 in
theorem lent_Rule {y : Ru} {w : World} {s0 : Value} {s1 : Value} (h0 : Reads w (.row 9 1 y.params.length (nmsD y.params)) s0) (h1 : Reads w (.row 35 6 y.alts.length (alsD y.alts)) s1) (ho : RuOk y) :
    Calls Tryz.prog 46 #[.agg #[.string (bs y.name), s0, s1, .int .i64 y.at_]] w fun e w' => ∃ g0 g1, e = .returned (.agg #[.string (bs y.name), .slice (some ⟨g0, 0, none⟩) y.params.length (y.params.length + 12), .slice (some ⟨g1, 0, none⟩) y.alts.length (y.alts.length + 12), .int .i64 y.at_]) ∧ LentD mkV w' w.heap.size (.row 9 1 y.params.length (nmsD y.params)) (.slice (some ⟨g0, 0, none⟩) y.params.length (y.params.length + 12)) ∧ LentD mkV w' w.heap.size (.row 35 6 y.alts.length (alsD y.alts)) (.slice (some ⟨g1, 0, none⟩) y.alts.length (y.alts.length + 12)) ∧ Below w.heap.size w w' := by
  obtain ⟨p0, q0, rfl⟩ := Reads.slice h0
  obtain ⟨p1, q1, rfl⟩ := Reads.slice h1
  have HL0 := Lib.hid (fun (u : World) (hu : Below w.heap.size w u) => lent_texts (Reads.below hu h0) ho.n)
  have HL1 := Lib.hid (fun (u : World) (hu : Below w.heap.size w u) => lents_Alt (fun x hx => lent_al x (ho.alts x hx)) (Reads.below hu h1) ho.m)
  clear h0 h1 ho
  generalize y.params.length = m0 at *
  generalize nmsD y.params = it0 at *
  generalize y.alts.length = m1 at *
  generalize alsD y.alts = it1 at *
  generalize (bs y.name) = z0 at *
  generalize y.at_ = z3 at *
  have HB := Lib.hid (((Below.refl w.heap.size w).alloc (Nat.le_refl _) (.cells #[.string z0, .slice p0 m0 q0, .slice p1 m1 q1, .int .i64 z3] 38)).alloc (by simp) (.cells #[.string { data := #[] }, .slice none 0 0, .slice none 0 0, .int .i64 0] 38))
  have HSZ := Lib.hid (show ((w.alloc (.cells #[.string z0, .slice p0 m0 q0, .slice p1 m1 q1, .int .i64 z3] 38)).alloc (.cells #[.string { data := #[] }, .slice none 0 0, .slice none 0 0, .int .i64 0] 38)).heap.size = w.heap.size + 2 by simp)
  have XB := Lib.hid (show ((w.alloc (.cells #[.string z0, .slice p0 m0 q0, .slice p1 m1 q1, .int .i64 z3] 38)).alloc (.cells #[.string { data := #[] }, .slice none 0 0, .slice none 0 0, .int .i64 0] 38)).heap[w.heap.size + 1]? = some (.cells #[.string { data := #[] }, .slice none 0 0, .slice none 0 0, .int .i64 0] 38 (0, 0)) from alloc2 w _ _)
  have XA := Lib.hid (show ((w.alloc (.cells #[.string z0, .slice p0 m0 q0, .slice p1 m1 q1, .int .i64 z3] 38)).alloc (.cells #[.string { data := #[] }, .slice none 0 0, .slice none 0 0, .int .i64 0] 38)).heap[w.heap.size]? = some (.cells #[.string z0, .slice p0 m0 q0, .slice p1 m1 q1, .int .i64 z3] 38 (0, 0)) from (Below.heap_alloc _ _ _ (by simp)).trans (heap_alloc_new _ _))
  go_enter Tryz.func46, Tryz.ntmps46
  go_upto_region 1 with fail
  generalize ((w.alloc (.cells #[.string z0, .slice p0 m0 q0, .slice p1 m1 q1, .int .i64 z3] 38)).alloc (.cells #[.string { data := #[] }, .slice none 0 0, .slice none 0 0, .int .i64 0] 38)) = W at *
  generalize hH : w.heap.size = H at *
  have HZ := Lib.hid hH; clear hH
  have HSL : Hid (H + 2 ≤ W.heap.size) := Lib.hid (by rw [HSZ.out]; exact Nat.le_refl _)
  clear HSZ
  have aa := cell_of_row W H 1 _ _ (0, 0) XA.out
  go_upto_region 2 with (go_at_call 66; go_must (refine (HL0.out _ HB.out).mono ?_; rintro e w2 ⟨g0, rfl, hv, hb⟩; have hoa := (hb.block H (by have := HSL.out; omega)).trans XA.out; have hob := (hb.block (H + 1) (by have := HSL.out; omega)).trans XB.out; have fa := frozen_of_row w2 H 1 _ _ hoa; have ab := cell_of_row w2 H 1 _ _ (0, 0) hoa; have HVN := Lib.hid hv; have HBN := Lib.hid hb; have XA2 := Lib.hid hoa; have XB2 := Lib.hid hob; clear hv hb hoa hob aa))
  clear fa ab
  obtain ⟨W0, hW'⟩ : ∃ W', W' = w2.setCell ⟨H, 1, none⟩ (.slice (some ⟨g0, 0, none⟩) m0 (m0 + 12)) := ⟨_, rfl⟩
  rw [← hW']
  have XA3 := Lib.hid (show W0.heap[H]? = some (.cells #[.string z0, .slice (some ⟨g0, 0, none⟩) m0 (m0 + 12), .slice p1 m1 q1, .int .i64 z3] 38 (0, 0)) from by rw [hW']; exact blk_set XA2.out 1 _)
  have XB3 := Lib.hid (show W0.heap[H + 1]? = some (.cells #[.string { data := #[] }, .slice none 0 0, .slice none 0 0, .int .i64 0] 38 (0, 0)) from by rw [hW']; exact (Below.heap_setCell _ _ _ _ (by simp)).trans XB2.out)
  have HB3 := Lib.hid (show Below H w W0 from by rw [hW']; exact (HB.out.trans (HBN.out.mono (by have := HSL.out; omega))).setCell (Nat.le_refl _) _)
  have HV0 := Lib.hid (show LentD mkV W0 (H + 2) (.row 9 1 m0 it0) (.slice (some ⟨g0, 0, none⟩) m0 (m0 + 12)) from by rw [hW']; exact (HVN.out.base HSL.out).set (by omega))
  have HSL3 : Hid (H + 2 ≤ W0.heap.size) := Lib.hid (by have := HSL.out; have := HBN.out.size; rw [hW']; simp only [World.setCell, Array.size_modify]; omega)
  clear hW' HVN HBN XA2 XB2 XA XB HB HSL HL0
  have XA := XA3; have XB := XB3; have HB := HB3; have HSL := HSL3
  clear XA3 XB3 HB3 HSL3
  have aa := cell_of_row W0 H 2 _ _ (0, 0) XA.out
  go_upto_region 3 with (go_at_call 68; go_must (refine (HL1.out _ HB.out).mono ?_; rintro e w2 ⟨g1, rfl, hv, hb⟩; have hoa := (hb.block H (by have := HSL.out; omega)).trans XA.out; have hob := (hb.block (H + 1) (by have := HSL.out; omega)).trans XB.out; have fa := frozen_of_row w2 H 2 _ _ hoa; have ab := cell_of_row w2 H 2 _ _ (0, 0) hoa; have HVN := Lib.hid hv; have HBN := Lib.hid hb; have XA2 := Lib.hid hoa; have XB2 := Lib.hid hob; clear hv hb hoa hob aa))
  clear fa ab
  obtain ⟨W1, hW'⟩ : ∃ W', W' = w2.setCell ⟨H, 2, none⟩ (.slice (some ⟨g1, 0, none⟩) m1 (m1 + 12)) := ⟨_, rfl⟩
  rw [← hW']
  have XA3 := Lib.hid (show W1.heap[H]? = some (.cells #[.string z0, .slice (some ⟨g0, 0, none⟩) m0 (m0 + 12), .slice (some ⟨g1, 0, none⟩) m1 (m1 + 12), .int .i64 z3] 38 (0, 0)) from by rw [hW']; exact blk_set XA2.out 2 _)
  have XB3 := Lib.hid (show W1.heap[H + 1]? = some (.cells #[.string { data := #[] }, .slice none 0 0, .slice none 0 0, .int .i64 0] 38 (0, 0)) from by rw [hW']; exact (Below.heap_setCell _ _ _ _ (by simp)).trans XB2.out)
  have HB3 := Lib.hid (show Below H w W1 from by rw [hW']; exact (HB.out.trans (HBN.out.mono (by have := HSL.out; omega))).setCell (Nat.le_refl _) _)
  have HV1 := Lib.hid (show LentD mkV W1 (H + 2) (.row 35 6 m1 it1) (.slice (some ⟨g1, 0, none⟩) m1 (m1 + 12)) from by rw [hW']; exact (HVN.out.base HSL.out).set (by omega))
  have HVq := Lib.hid (show LentD mkV W1 (H + 2) (.row 9 1 m0 it0) (.slice (some ⟨g0, 0, none⟩) m0 (m0 + 12)) from by rw [hW']; exact (HV0.out.below HBN.out).set (by omega))
  clear HV0
  have HV0 := HVq
  clear HVq
  have HSL3 : Hid (H + 2 ≤ W1.heap.size) := Lib.hid (by have := HSL.out; have := HBN.out.size; rw [hW']; simp only [World.setCell, Array.size_modify]; omega)
  clear hW' HVN HBN XA2 XB2 XA XB HB HSL HL1
  have XA := XA3; have XB := XB3; have HB := HB3; have HSL := HSL3
  clear XA3 XB3 HB3 HSL3
  have b0 : W1.cell? ⟨H, 0, none⟩ = some (.string z0) := cell_of_row W1 H 0 _ _ (0, 0) XA.out
  have c0 := cell_of_row W1 (H + 1) 0 _ _ (0, 0) XB.out
  have f0 := frozen_of_row W1 (H + 1) 0 _ _ XB.out
  have b1 : W1.cell? ⟨H, 1, none⟩ = some (.slice (some ⟨g0, 0, none⟩) m0 (m0 + 12)) := cell_of_row W1 H 1 _ _ (0, 0) XA.out
  have c1 := cell_of_row W1 (H + 1) 1 _ _ (0, 0) XB.out
  have f1 := frozen_of_row W1 (H + 1) 1 _ _ XB.out
  have b2 : W1.cell? ⟨H, 2, none⟩ = some (.slice (some ⟨g1, 0, none⟩) m1 (m1 + 12)) := cell_of_row W1 H 2 _ _ (0, 0) XA.out
  have c2 := cell_of_row W1 (H + 1) 2 _ _ (0, 0) XB.out
  have f2 := frozen_of_row W1 (H + 1) 2 _ _ XB.out
  have b3 : W1.cell? ⟨H, 3, none⟩ = some (.int .i64 z3) := cell_of_row W1 H 3 _ _ (0, 0) XA.out
  have c3 := cell_of_row W1 (H + 1) 3 _ _ (0, 0) XB.out
  have f3 := frozen_of_row W1 (H + 1) 3 _ _ XB.out
  have hx := blk_set (blk_set (blk_set (blk_set XB.out 0 (.string z0)) 1 (.slice (some ⟨g0, 0, none⟩) m0 (m0 + 12))) 2 (.slice (some ⟨g1, 0, none⟩) m1 (m1 + 12))) 3 (.int .i64 z3)
  go_wp2_with fail
  refine bodyPost_ret (res_Rule rfl hx rfl) rfl ⟨g0, g1, rfl, LentD.base (B := H + 2) (by have := HZ.out; omega) (LentD.set (b := H + 1) (i := 3) (LentD.set (b := H + 1) (i := 2) (LentD.set (b := H + 1) (i := 1) (LentD.set (b := H + 1) (i := 0) HV0.out (by omega)) (by omega)) (by omega)) (by omega)), LentD.base (B := H + 2) (by have := HZ.out; omega) (LentD.set (b := H + 1) (i := 3) (LentD.set (b := H + 1) (i := 2) (LentD.set (b := H + 1) (i := 1) (LentD.set (b := H + 1) (i := 0) HV1.out (by omega)) (by omega)) (by omega)) (by omega)), ?_⟩
  rw [HZ.out]
  exact ((((HB.out.setCell (p := ⟨H + 1, 0, none⟩) (Nat.le_succ _) _).setCell (p := ⟨H + 1, 1, none⟩) (Nat.le_succ _) _).setCell (p := ⟨H + 1, 2, none⟩) (Nat.le_succ _) _).setCell (p := ⟨H + 1, 3, none⟩) (Nat.le_succ _) _)
def LentOKRule (y : Ru) : Prop := ∀ (w : World) (s0 : Value) (s1 : Value), Reads w (.row 9 1 y.params.length (nmsD y.params)) s0 → Reads w (.row 35 6 y.alts.length (alsD y.alts)) s1 → Calls Tryz.prog 46 #[.agg #[.string (bs y.name), s0, s1, .int .i64 y.at_]] w fun e w' => ∃ g0 g1, e = .returned (.agg #[.string (bs y.name), .slice (some ⟨g0, 0, none⟩) y.params.length (y.params.length + 12), .slice (some ⟨g1, 0, none⟩) y.alts.length (y.alts.length + 12), .int .i64 y.at_]) ∧ LentD mkV w' w.heap.size (.row 9 1 y.params.length (nmsD y.params)) (.slice (some ⟨g0, 0, none⟩) y.params.length (y.params.length + 12)) ∧ LentD mkV w' w.heap.size (.row 35 6 y.alts.length (alsD y.alts)) (.slice (some ⟨g1, 0, none⟩) y.alts.length (y.alts.length + 12)) ∧ Below w.heap.size w w'
set_option maxRecDepth 100000 in
set_option maxHeartbeats 8000000 in
theorem lents_Rule {l : List Ru} {w : World} {s : Value} (ih : ∀ y ∈ l, LentOKRule y) (hR : Reads w (.row 38 4 l.length (rusD l)) s) (hl : l.length ≤ 1000000) :
    Calls Tryz.prog 29 #[s] w fun e w' => ∃ g, e = .returned (.slice (some ⟨g, 0, none⟩) l.length (l.length + 12)) ∧ LentD mkV w' w.heap.size (.row 38 4 l.length (rusD l)) (.slice (some ⟨g, 0, none⟩) l.length (l.length + 12)) ∧ Below w.heap.size w w' := by
  obtain ⟨ti, hi, hz, hsz, hby⟩ := info_parts rInfo
  obtain ⟨p, c, rfl⟩ := Reads.slice hR
  have HR := Lib.hid hR; have HIH := Lib.hid ih; clear hR ih
  have HFL := Lib.hid (show (rusD l).length = l.length * 4 by rw [rusD_flat]; exact flat_len _ _ ruD_len l)
  have HTL := Lib.hid (show (l.take l.length).flatMap ruD = rusD l by rw [List.take_length, rusD_flat])
  generalize hnk : l.length = nk at *
  have HNK := Lib.hid hnk; clear hnk
  have HMLK := Lib.hid (fun j => flat_range (f := fun i : Nat => [.string { data := #[] }, .slice none 0 0, .slice none 0 0, .int .i64 (8000024 + (i : Int))]) j)
  have HMK := Lib.hid (fun (j : Nat) (u : World) (hj : j ≤ 1000) => mark_Rule j hj u)
  obtain ⟨wm, hrun, hown, hgr⟩ := run_make_own (P := Tryz.prog) w w.heap.size 26 38 ti _ 4 Tryz.underlying26 hi hz hsz .i64 .i64 (nk + 12) (by rw [hby]; omega) (by unfold maxLen; omega) (Nat.le_refl _)
  have hmk : (Instr.makeSlice 26 (.int .i64 0) (.int .i64 ((nk : Int) + 12))).run Tryz.prog w = .ok (.slice (some ⟨w.heap.size, 0, none⟩) 0 (nk + 12)) wm := by
    have h := hrun
    rw [show ((nk + 12 : Nat) : Int) = (nk : Int) + 12 by omega] at h
    exact h
  have hbm : Below w.heap.size w wm := (Below.refl _ _).grown hgr (Nat.le_refl _) (fun j hj => by cases hj)
  have HOWN := Lib.hid hown; have HBM := Lib.hid hbm
  clear hrun hown hbm hgr
  go_enter Tryz.func29, Tryz.ntmps29
  go_wp2_with fail
  clear hmk
  obtain ⟨g, hg⟩ : ∃ g, g = w.heap.size := ⟨_, rfl⟩
  rw [← hg] at HOWN ⊢
  have HG := Lib.hid hg; clear hg
  have HGM : Hid (g < wm.heap.size) := Lib.hid (HOWN.out.lt g rfl).2
  go_loopg [3, 4, 5] nk (fun gk ov i _ wr => ∃ (k : Nat) (us : List Value), k ≤ nk ∧ gk = nk - k ∧ i = .int .i64 (k : Int) ∧ ov = .slice (some ⟨g, 0, none⟩) k (nk + 12) ∧ wr.ownsRow g 38 4 (.slice (some ⟨g, 0, none⟩) k (nk + 12)) k us ∧ LentVs mkV wr (g + 1) ((l.take k).flatMap ruD) us ∧ Below w.heap.size w wr)
  case atStart => exact ⟨0, [], by omega, by omega, rfl, rfl, HOWN.out, rfl, HBM.out⟩
  case round =>
    obtain ⟨k, us, hk, rfl, rfl, rfl, hown, hrows, hbr⟩ := hrel
    have HO := Lib.hid hown; have HRW := Lib.hid hrows; have HBR := Lib.hid hbr; clear hown hrows hbr
    have hgl : g < wr.heap.size := (HO.out.lt g rfl).2
    by_cases hlt : k < nk
    · have hkl : k < l.length := by have := HNK.out; omega
      obtain ⟨gs, o, rfl, r1⟩ := Reads.elems HR.out (by omega)
      obtain ⟨x0, y0, x1, y1, e0, e1, e2, e3, hr0, hr1⟩ := rule_cells r1 hkl
      have hmem : l[k]'hkl ∈ l := List.getElem_mem hkl
      have HIY := Lib.hid (fun (u : World) (hu : Below w.heap.size w u) => HIH.out _ hmem u _ _ (Reads.below hu hr0) (Reads.below hu hr1))
      have HDAT := Lib.hid (show ruD (l[k]'hkl) = [.lit (.string (bs (l[k]'hkl).name)), .row 9 1 (l[k]'hkl).params.length (nmsD (l[k]'hkl).params), .row 35 6 (l[k]'hkl).alts.length (alsD (l[k]'hkl).alts), .lit (.int .i64 (l[k]'hkl).at_)] from rfl)
      have HSN := Lib.hid (flat_snoc ruD l k hkl)
      have m0 := cell_on rfl HBR.out e0 ; have m1 := cell_on rfl HBR.out e1 ; have m2 := cell_on rfl HBR.out e2 ; have m3 := cell_on rfl HBR.out e3
      clear hmem r1 hr0 hr1 e0 e1 e2 e3
      generalize l[k]'hkl = y at *
      have j0 : (0 : Int) ≤ (k : Int) := by omega
      have j1 : (k : Int) < (nk : Int) := by omega
      have HCY := Lib.hid (HIY.out wr HBR.out)
      clear HIY
      generalize (bs y.name) = z0 at *
      generalize y.at_ = z3 at *
      generalize y.params.length = n0x at *
      generalize nmsD y.params = it0 at *
      generalize y.alts.length = n1x at *
      generalize alsD y.alts = it1 at *
      go_wp2_with (first
        | (go_at_call 46; go_must (refine (HCY.out).mono ?_; rintro e w2 ⟨g0, g1, rfl, hv0, hv1, hb⟩; have HV0 := Lib.hid hv0; have HV1 := Lib.hid hv1; have HB2 := Lib.hid hb; clear hv0 hv1 hb))
        | (at_builtin; go_must (refine wpList_append_fits _ rfl _ _ _ rfl g 38 ti 4 Tryz.underlying26 hi hsz g k (nk + 12) _ rfl (((Heap.own_new HO.out HB2.out).alloc _).alloc _) ⟨w2.heap.size + 1, 0, none⟩ 1 1 [.string z0, .slice (some ⟨g0, 0, none⟩) n0x (n0x + 12), .slice (some ⟨g1, 0, none⟩) n1x (n1x + 12), .int .i64 z3] rfl rfl (World.news_of_block (alloc2 w2 _ _)) (by simp [Value.oneCell']) (by omega) ?_; intro w4 hown4 hgr4; have HO4 := Lib.hid hown4; have HGR := Lib.hid hgr4; clear hown4 hgr4)))
      have hsz2 : wr.heap.size ≤ w2.heap.size := HB2.out.size
      have hblk : ∀ i, i < wr.heap.size → i ≠ g → w4.heap[i]? = wr.heap[i]? := fun i hi hne => (HGR.out.block i (by simp; omega) (fun e => hne (Option.some.inj e))).trans ((Below.heap_alloc _ _ i (by simp; omega)).trans ((Below.heap_alloc _ _ i (by omega)).trans (HB2.out.block i hi)))
      have hblk1 : ∀ (qq : Addr) v, g + 1 ≤ qq.block → wr.cell? qq = some v → w4.cell? qq = some v := fun qq v hq hc => (World.cell?_of_block (w := wr) (hblk qq.block (World.block_lt_of_cell? _ _ hc) (by omega))).trans hc
      have hblk2 : ∀ (qq : Addr) v, wr.heap.size ≤ qq.block → w2.cell? qq = some v → w4.cell? qq = some v := fun qq v hq hc => by
        have hlt := World.block_lt_of_cell? _ _ hc
        exact (World.cell?_of_block (w := w2) ((HGR.out.block qq.block (by simp; omega) (fun e => by have := Option.some.inj e; omega)).trans ((Below.heap_alloc _ _ _ (by simp; omega)).trans (Below.heap_alloc _ _ _ hlt)))).trans hc
      have hb4 : Below w.heap.size w w4 := (((HBR.out.trans (HB2.out.mono HBR.out.size)).alloc (Below.size (HBR.out.trans (HB2.out.mono HBR.out.size))) _).alloc (by have := HBR.out.size; simp; omega) _).grown HGR.out (by have := HBR.out.size; simp; omega) (fun j hj => by have := Option.some.inj hj; have := HG.out; omega)
      have hnew := (HRW.out.keep hblk1).append (show LentVs mkV w4 (g + 1) [.lit (.string z0), .row 9 1 n0x (it0), .row 35 6 n1x (it1), .lit (.int .i64 z3)] [.string z0, .slice (some ⟨g0, 0, none⟩) n0x (n0x + 12), .slice (some ⟨g1, 0, none⟩) n1x (n1x + 12), .int .i64 z3] from ⟨_, _, rfl, LentD.lit_iff.2 rfl, ⟨_, _, rfl, LentD.base (B := wr.heap.size) (by omega) (HV0.out.keep hblk2), ⟨_, _, rfl, LentD.base (B := wr.heap.size) (by omega) (HV1.out.keep hblk2), ⟨_, _, rfl, LentD.lit_iff.2 rfl, rfl⟩⟩⟩⟩)
      have HNEW := Lib.hid hnew; have HB4 := Lib.hid hb4; clear hnew hb4 hblk hblk1 hblk2
      go_roundg (nk - (k + 1))
      case measure => omega
      case rel => exact ⟨k + 1, _, by omega, rfl, by go_num, rfl, HO4.out, by rw [HSN.out, HDAT.out]; exact HNEW.out, HB4.out⟩
    · obtain rfl : k = nk := by omega
      have HRL := Lib.hid (show LentVs mkV wr (g + 1) (rusD l) us from by rw [← HTL.out]; exact HRW.out)
      go_wp2_with fail
      go_loopg [3, 6] 12 (fun gk ov i wz => ∃ j : Nat, j ≤ 12 ∧ gk = 12 - j ∧ i = .int .i64 (j : Int) ∧ ov = .slice (some ⟨g, 0, none⟩) (k + j) (k + 12) ∧ wz.ownsRow g 38 4 (.slice (some ⟨g, 0, none⟩) (k + j) (k + 12)) (k + j) (us ++ mkRule j) ∧ LentVs mkV wz (g + 1) (rusD l) us ∧ Below w.heap.size w wz)
      case atStart => exact ⟨0, by omega, by omega, rfl, rfl, by have := HO.out; simpa [mkRule] using this, HRL.out, HBR.out⟩
      case round =>
        obtain ⟨j, hj, rfl, rfl, rfl, hown2, hrows2, hbr2⟩ := hrel
        clear HO HRW HBR HRL hgl
        have HO := Lib.hid hown2; have HRW := Lib.hid hrows2; have HBR := Lib.hid hbr2; clear hown2 hrows2 hbr2
        by_cases hjt : j < 12
        · have HC := Lib.hid (HMK.out j wr (by omega))
          have HSN := Lib.hid (show mkRule (j + 1) = mkRule j ++ [.string { data := #[] }, .slice none 0 0, .slice none 0 0, .int .i64 (8000024 + (j : Int))] from HMLK.out j)
          generalize 8000024 + (j : Int) = mi at *
          have hgl : g < wr.heap.size := (HO.out.lt g rfl).2
          go_wp2_with (first
            | (go_at_call 47; go_must (refine (HC.out).mono ?_; rintro e w2 ⟨rfl, hb⟩; have HB2 := Lib.hid hb; clear hb))
            | (at_builtin; go_must (refine wpList_append_fits _ rfl _ _ _ rfl g 38 ti 4 Tryz.underlying26 hi hsz g (k + j) (k + 12) _ rfl ((Heap.own_new HO.out HB2.out).alloc _) ⟨w2.heap.size, 0, none⟩ 1 1 [.string { data := #[] }, .slice none 0 0, .slice none 0 0, .int .i64 mi] rfl rfl (World.news_of_block (heap_alloc_new w2 _)) (by simp [Value.oneCell']) (by omega) ?_; intro w4 hown4 hgr4; have HO4 := Lib.hid hown4; have HGR := Lib.hid hgr4; clear hown4 hgr4)))
          have hsz2 : wr.heap.size ≤ w2.heap.size := HB2.out.size
          have hblk : ∀ i, i < wr.heap.size → i ≠ g → w4.heap[i]? = wr.heap[i]? := fun i hi hne => (HGR.out.block i (by simp; omega) (fun e => hne (Option.some.inj e))).trans ((Below.heap_alloc _ _ i (by omega)).trans (HB2.out.block i hi))
          have hb4 : Below w.heap.size w w4 := ((HBR.out.trans (HB2.out.mono HBR.out.size)).alloc (Below.size (HBR.out.trans (HB2.out.mono HBR.out.size))) _).grown HGR.out (by have := HBR.out.size; simp; omega) (fun j hj => by have := Option.some.inj hj; have := HG.out; omega)
          have HNEW := Lib.hid (HRW.out.keep (fun qq v hq hc => (World.cell?_of_block (w := wr) (hblk qq.block (World.block_lt_of_cell? _ _ hc) (by omega))).trans hc) : LentVs mkV w4 (g + 1) (rusD l) us)
          have HB4 := Lib.hid hb4; clear hb4 hblk
          go_roundg (12 - (j + 1))
          case measure => omega
          case rel => exact ⟨j + 1, by omega, rfl, by go_num, rfl, by rw [HSN.out, ← List.append_assoc]; exact HO4.out, HNEW.out, HB4.out⟩
        · obtain rfl : j = 12 := by omega
          go_wp2_with fail
          go_ret
          exact ⟨g, rfl, lent_row hl HFL.out (by rw [HG.out]; exact Nat.le_refl _) (HRW.out.base (by have := HG.out; omega)) rfl HO.out, HBR.out⟩
theorem lent_ru (x : Ru) (ho : RuOk x) : LentOKRule x := fun _ _ _ h0 h1 => lent_Rule h0 h1 ho
set_option maxRecDepth 100000 in
set_option maxHeartbeats 4000000 in
theorem lent_Decl {y : De} {w : World} {s0 : Value} (h0 : Reads w (.row 9 1 y.names.length (nmsD y.names)) s0) (ho : DeOk y) :
    Calls Tryz.prog 44 #[.agg #[.string (bs y.kind), .string (bs y.type), s0, .int .i64 y.at_]] w fun e w' => ∃ g0, e = .returned (.agg #[.string (bs y.kind), .string (bs y.type), .slice (some ⟨g0, 0, none⟩) y.names.length (y.names.length + 12), .int .i64 y.at_]) ∧ LentD mkV w' w.heap.size (.row 9 1 y.names.length (nmsD y.names)) (.slice (some ⟨g0, 0, none⟩) y.names.length (y.names.length + 12)) ∧ Below w.heap.size w w' := by
  obtain ⟨p0, q0, rfl⟩ := Reads.slice h0
  have HL0 := Lib.hid (fun (u : World) (hu : Below w.heap.size w u) => lent_texts (Reads.below hu h0) ho)
  clear h0 ho
  generalize y.names.length = m0 at *
  generalize nmsD y.names = it0 at *
  generalize (bs y.kind) = z0 at *
  generalize (bs y.type) = z1 at *
  generalize y.at_ = z3 at *
  have HB := Lib.hid (((Below.refl w.heap.size w).alloc (Nat.le_refl _) (.cells #[.string z0, .string z1, .slice p0 m0 q0, .int .i64 z3] 62)).alloc (by simp) (.cells #[.string { data := #[] }, .string { data := #[] }, .slice none 0 0, .int .i64 0] 62))
  have HSZ := Lib.hid (show ((w.alloc (.cells #[.string z0, .string z1, .slice p0 m0 q0, .int .i64 z3] 62)).alloc (.cells #[.string { data := #[] }, .string { data := #[] }, .slice none 0 0, .int .i64 0] 62)).heap.size = w.heap.size + 2 by simp)
  have XB := Lib.hid (show ((w.alloc (.cells #[.string z0, .string z1, .slice p0 m0 q0, .int .i64 z3] 62)).alloc (.cells #[.string { data := #[] }, .string { data := #[] }, .slice none 0 0, .int .i64 0] 62)).heap[w.heap.size + 1]? = some (.cells #[.string { data := #[] }, .string { data := #[] }, .slice none 0 0, .int .i64 0] 62 (0, 0)) from alloc2 w _ _)
  have XA := Lib.hid (show ((w.alloc (.cells #[.string z0, .string z1, .slice p0 m0 q0, .int .i64 z3] 62)).alloc (.cells #[.string { data := #[] }, .string { data := #[] }, .slice none 0 0, .int .i64 0] 62)).heap[w.heap.size]? = some (.cells #[.string z0, .string z1, .slice p0 m0 q0, .int .i64 z3] 62 (0, 0)) from (Below.heap_alloc _ _ _ (by simp)).trans (heap_alloc_new _ _))
  go_enter Tryz.func44, Tryz.ntmps44
  go_upto_region 1 with fail
  generalize ((w.alloc (.cells #[.string z0, .string z1, .slice p0 m0 q0, .int .i64 z3] 62)).alloc (.cells #[.string { data := #[] }, .string { data := #[] }, .slice none 0 0, .int .i64 0] 62)) = W at *
  generalize hH : w.heap.size = H at *
  have HZ := Lib.hid hH; clear hH
  have HSL : Hid (H + 2 ≤ W.heap.size) := Lib.hid (by rw [HSZ.out]; exact Nat.le_refl _)
  clear HSZ
  have aa := cell_of_row W H 2 _ _ (0, 0) XA.out
  go_upto_region 2 with (go_at_call 66; go_must (refine (HL0.out _ HB.out).mono ?_; rintro e w2 ⟨g0, rfl, hv, hb⟩; have hoa := (hb.block H (by have := HSL.out; omega)).trans XA.out; have hob := (hb.block (H + 1) (by have := HSL.out; omega)).trans XB.out; have fa := frozen_of_row w2 H 2 _ _ hoa; have ab := cell_of_row w2 H 2 _ _ (0, 0) hoa; have HVN := Lib.hid hv; have HBN := Lib.hid hb; have XA2 := Lib.hid hoa; have XB2 := Lib.hid hob; clear hv hb hoa hob aa))
  clear fa ab
  obtain ⟨W0, hW'⟩ : ∃ W', W' = w2.setCell ⟨H, 2, none⟩ (.slice (some ⟨g0, 0, none⟩) m0 (m0 + 12)) := ⟨_, rfl⟩
  rw [← hW']
  have XA3 := Lib.hid (show W0.heap[H]? = some (.cells #[.string z0, .string z1, .slice (some ⟨g0, 0, none⟩) m0 (m0 + 12), .int .i64 z3] 62 (0, 0)) from by rw [hW']; exact blk_set XA2.out 2 _)
  have XB3 := Lib.hid (show W0.heap[H + 1]? = some (.cells #[.string { data := #[] }, .string { data := #[] }, .slice none 0 0, .int .i64 0] 62 (0, 0)) from by rw [hW']; exact (Below.heap_setCell _ _ _ _ (by simp)).trans XB2.out)
  have HB3 := Lib.hid (show Below H w W0 from by rw [hW']; exact (HB.out.trans (HBN.out.mono (by have := HSL.out; omega))).setCell (Nat.le_refl _) _)
  have HV0 := Lib.hid (show LentD mkV W0 (H + 2) (.row 9 1 m0 it0) (.slice (some ⟨g0, 0, none⟩) m0 (m0 + 12)) from by rw [hW']; exact (HVN.out.base HSL.out).set (by omega))
  have HSL3 : Hid (H + 2 ≤ W0.heap.size) := Lib.hid (by have := HSL.out; have := HBN.out.size; rw [hW']; simp only [World.setCell, Array.size_modify]; omega)
  clear hW' HVN HBN XA2 XB2 XA XB HB HSL HL0
  have XA := XA3; have XB := XB3; have HB := HB3; have HSL := HSL3
  clear XA3 XB3 HB3 HSL3
  have b0 : W0.cell? ⟨H, 0, none⟩ = some (.string z0) := cell_of_row W0 H 0 _ _ (0, 0) XA.out
  have c0 := cell_of_row W0 (H + 1) 0 _ _ (0, 0) XB.out
  have f0 := frozen_of_row W0 (H + 1) 0 _ _ XB.out
  have b1 : W0.cell? ⟨H, 1, none⟩ = some (.string z1) := cell_of_row W0 H 1 _ _ (0, 0) XA.out
  have c1 := cell_of_row W0 (H + 1) 1 _ _ (0, 0) XB.out
  have f1 := frozen_of_row W0 (H + 1) 1 _ _ XB.out
  have b2 : W0.cell? ⟨H, 2, none⟩ = some (.slice (some ⟨g0, 0, none⟩) m0 (m0 + 12)) := cell_of_row W0 H 2 _ _ (0, 0) XA.out
  have c2 := cell_of_row W0 (H + 1) 2 _ _ (0, 0) XB.out
  have f2 := frozen_of_row W0 (H + 1) 2 _ _ XB.out
  have b3 : W0.cell? ⟨H, 3, none⟩ = some (.int .i64 z3) := cell_of_row W0 H 3 _ _ (0, 0) XA.out
  have c3 := cell_of_row W0 (H + 1) 3 _ _ (0, 0) XB.out
  have f3 := frozen_of_row W0 (H + 1) 3 _ _ XB.out
  have hx := blk_set (blk_set (blk_set (blk_set XB.out 0 (.string z0)) 1 (.string z1)) 2 (.slice (some ⟨g0, 0, none⟩) m0 (m0 + 12))) 3 (.int .i64 z3)
  go_wp2_with fail
  refine bodyPost_ret (res_Decl rfl hx rfl) rfl ⟨g0, rfl, LentD.base (B := H + 2) (by have := HZ.out; omega) (LentD.set (b := H + 1) (i := 3) (LentD.set (b := H + 1) (i := 2) (LentD.set (b := H + 1) (i := 1) (LentD.set (b := H + 1) (i := 0) HV0.out (by omega)) (by omega)) (by omega)) (by omega)), ?_⟩
  rw [HZ.out]
  exact ((((HB.out.setCell (p := ⟨H + 1, 0, none⟩) (Nat.le_succ _) _).setCell (p := ⟨H + 1, 1, none⟩) (Nat.le_succ _) _).setCell (p := ⟨H + 1, 2, none⟩) (Nat.le_succ _) _).setCell (p := ⟨H + 1, 3, none⟩) (Nat.le_succ _) _)
def LentOKDecl (y : De) : Prop := ∀ (w : World) (s0 : Value), Reads w (.row 9 1 y.names.length (nmsD y.names)) s0 → Calls Tryz.prog 44 #[.agg #[.string (bs y.kind), .string (bs y.type), s0, .int .i64 y.at_]] w fun e w' => ∃ g0, e = .returned (.agg #[.string (bs y.kind), .string (bs y.type), .slice (some ⟨g0, 0, none⟩) y.names.length (y.names.length + 12), .int .i64 y.at_]) ∧ LentD mkV w' w.heap.size (.row 9 1 y.names.length (nmsD y.names)) (.slice (some ⟨g0, 0, none⟩) y.names.length (y.names.length + 12)) ∧ Below w.heap.size w w'
set_option maxRecDepth 100000 in
set_option maxHeartbeats 8000000 in
theorem lents_Decl {l : List De} {w : World} {s : Value} (ih : ∀ y ∈ l, LentOKDecl y) (hR : Reads w (.row 62 4 l.length (desD l)) s) (hl : l.length ≤ 1000000) :
    Calls Tryz.prog 28 #[s] w fun e w' => ∃ g, e = .returned (.slice (some ⟨g, 0, none⟩) l.length (l.length + 12)) ∧ LentD mkV w' w.heap.size (.row 62 4 l.length (desD l)) (.slice (some ⟨g, 0, none⟩) l.length (l.length + 12)) ∧ Below w.heap.size w w' := by
  obtain ⟨ti, hi, hz, hsz, hby⟩ := info_parts dInfo
  obtain ⟨p, c, rfl⟩ := Reads.slice hR
  have HR := Lib.hid hR; have HIH := Lib.hid ih; clear hR ih
  have HFL := Lib.hid (show (desD l).length = l.length * 4 by rw [desD_flat]; exact flat_len _ _ deD_len l)
  have HTL := Lib.hid (show (l.take l.length).flatMap deD = desD l by rw [List.take_length, desD_flat])
  generalize hnk : l.length = nk at *
  have HNK := Lib.hid hnk; clear hnk
  have HMLK := Lib.hid (fun j => flat_range (f := fun i : Nat => [.string { data := #[] }, .string { data := #[] }, .slice none 0 0, .int .i64 (8000024 + (i : Int))]) j)
  have HMK := Lib.hid (fun (j : Nat) (u : World) (hj : j ≤ 1000) => mark_Decl j hj u)
  obtain ⟨wm, hrun, hown, hgr⟩ := run_make_own (P := Tryz.prog) w w.heap.size 25 62 ti _ 4 Tryz.underlying25 hi hz hsz .i64 .i64 (nk + 12) (by rw [hby]; omega) (by unfold maxLen; omega) (Nat.le_refl _)
  have hmk : (Instr.makeSlice 25 (.int .i64 0) (.int .i64 ((nk : Int) + 12))).run Tryz.prog w = .ok (.slice (some ⟨w.heap.size, 0, none⟩) 0 (nk + 12)) wm := by
    have h := hrun
    rw [show ((nk + 12 : Nat) : Int) = (nk : Int) + 12 by omega] at h
    exact h
  have hbm : Below w.heap.size w wm := (Below.refl _ _).grown hgr (Nat.le_refl _) (fun j hj => by cases hj)
  have HOWN := Lib.hid hown; have HBM := Lib.hid hbm
  clear hrun hown hbm hgr
  go_enter Tryz.func28, Tryz.ntmps28
  go_wp2_with fail
  clear hmk
  obtain ⟨g, hg⟩ : ∃ g, g = w.heap.size := ⟨_, rfl⟩
  rw [← hg] at HOWN ⊢
  have HG := Lib.hid hg; clear hg
  have HGM : Hid (g < wm.heap.size) := Lib.hid (HOWN.out.lt g rfl).2
  go_loopg [3, 4, 5] nk (fun gk ov i _ wr => ∃ (k : Nat) (us : List Value), k ≤ nk ∧ gk = nk - k ∧ i = .int .i64 (k : Int) ∧ ov = .slice (some ⟨g, 0, none⟩) k (nk + 12) ∧ wr.ownsRow g 62 4 (.slice (some ⟨g, 0, none⟩) k (nk + 12)) k us ∧ LentVs mkV wr (g + 1) ((l.take k).flatMap deD) us ∧ Below w.heap.size w wr)
  case atStart => exact ⟨0, [], by omega, by omega, rfl, rfl, HOWN.out, rfl, HBM.out⟩
  case round =>
    obtain ⟨k, us, hk, rfl, rfl, rfl, hown, hrows, hbr⟩ := hrel
    have HO := Lib.hid hown; have HRW := Lib.hid hrows; have HBR := Lib.hid hbr; clear hown hrows hbr
    have hgl : g < wr.heap.size := (HO.out.lt g rfl).2
    by_cases hlt : k < nk
    · have hkl : k < l.length := by have := HNK.out; omega
      obtain ⟨gs, o, rfl, r1⟩ := Reads.elems HR.out (by omega)
      obtain ⟨x0, y0, e0, e1, e2, e3, hr0⟩ := decl_cells r1 hkl
      have hmem : l[k]'hkl ∈ l := List.getElem_mem hkl
      have HIY := Lib.hid (fun (u : World) (hu : Below w.heap.size w u) => HIH.out _ hmem u _ (Reads.below hu hr0))
      have HDAT := Lib.hid (show deD (l[k]'hkl) = [.lit (.string (bs (l[k]'hkl).kind)), .lit (.string (bs (l[k]'hkl).type)), .row 9 1 (l[k]'hkl).names.length (nmsD (l[k]'hkl).names), .lit (.int .i64 (l[k]'hkl).at_)] from rfl)
      have HSN := Lib.hid (flat_snoc deD l k hkl)
      have m0 := cell_on rfl HBR.out e0 ; have m1 := cell_on rfl HBR.out e1 ; have m2 := cell_on rfl HBR.out e2 ; have m3 := cell_on rfl HBR.out e3
      clear hmem r1 hr0 e0 e1 e2 e3
      generalize l[k]'hkl = y at *
      have j0 : (0 : Int) ≤ (k : Int) := by omega
      have j1 : (k : Int) < (nk : Int) := by omega
      have HCY := Lib.hid (HIY.out wr HBR.out)
      clear HIY
      generalize (bs y.kind) = z0 at *
      generalize (bs y.type) = z1 at *
      generalize y.at_ = z3 at *
      generalize y.names.length = n0x at *
      generalize nmsD y.names = it0 at *
      go_wp2_with (first
        | (go_at_call 44; go_must (refine (HCY.out).mono ?_; rintro e w2 ⟨g0, rfl, hv0, hb⟩; have HV0 := Lib.hid hv0; have HB2 := Lib.hid hb; clear hv0 hb))
        | (at_builtin; go_must (refine wpList_append_fits _ rfl _ _ _ rfl g 62 ti 4 Tryz.underlying25 hi hsz g k (nk + 12) _ rfl (((Heap.own_new HO.out HB2.out).alloc _).alloc _) ⟨w2.heap.size + 1, 0, none⟩ 1 1 [.string z0, .string z1, .slice (some ⟨g0, 0, none⟩) n0x (n0x + 12), .int .i64 z3] rfl rfl (World.news_of_block (alloc2 w2 _ _)) (by simp [Value.oneCell']) (by omega) ?_; intro w4 hown4 hgr4; have HO4 := Lib.hid hown4; have HGR := Lib.hid hgr4; clear hown4 hgr4)))
      have hsz2 : wr.heap.size ≤ w2.heap.size := HB2.out.size
      have hblk : ∀ i, i < wr.heap.size → i ≠ g → w4.heap[i]? = wr.heap[i]? := fun i hi hne => (HGR.out.block i (by simp; omega) (fun e => hne (Option.some.inj e))).trans ((Below.heap_alloc _ _ i (by simp; omega)).trans ((Below.heap_alloc _ _ i (by omega)).trans (HB2.out.block i hi)))
      have hblk1 : ∀ (qq : Addr) v, g + 1 ≤ qq.block → wr.cell? qq = some v → w4.cell? qq = some v := fun qq v hq hc => (World.cell?_of_block (w := wr) (hblk qq.block (World.block_lt_of_cell? _ _ hc) (by omega))).trans hc
      have hblk2 : ∀ (qq : Addr) v, wr.heap.size ≤ qq.block → w2.cell? qq = some v → w4.cell? qq = some v := fun qq v hq hc => by
        have hlt := World.block_lt_of_cell? _ _ hc
        exact (World.cell?_of_block (w := w2) ((HGR.out.block qq.block (by simp; omega) (fun e => by have := Option.some.inj e; omega)).trans ((Below.heap_alloc _ _ _ (by simp; omega)).trans (Below.heap_alloc _ _ _ hlt)))).trans hc
      have hb4 : Below w.heap.size w w4 := (((HBR.out.trans (HB2.out.mono HBR.out.size)).alloc (Below.size (HBR.out.trans (HB2.out.mono HBR.out.size))) _).alloc (by have := HBR.out.size; simp; omega) _).grown HGR.out (by have := HBR.out.size; simp; omega) (fun j hj => by have := Option.some.inj hj; have := HG.out; omega)
      have hnew := (HRW.out.keep hblk1).append (show LentVs mkV w4 (g + 1) [.lit (.string z0), .lit (.string z1), .row 9 1 n0x (it0), .lit (.int .i64 z3)] [.string z0, .string z1, .slice (some ⟨g0, 0, none⟩) n0x (n0x + 12), .int .i64 z3] from ⟨_, _, rfl, LentD.lit_iff.2 rfl, ⟨_, _, rfl, LentD.lit_iff.2 rfl, ⟨_, _, rfl, LentD.base (B := wr.heap.size) (by omega) (HV0.out.keep hblk2), ⟨_, _, rfl, LentD.lit_iff.2 rfl, rfl⟩⟩⟩⟩)
      have HNEW := Lib.hid hnew; have HB4 := Lib.hid hb4; clear hnew hb4 hblk hblk1 hblk2
      go_roundg (nk - (k + 1))
      case measure => omega
      case rel => exact ⟨k + 1, _, by omega, rfl, by go_num, rfl, HO4.out, by rw [HSN.out, HDAT.out]; exact HNEW.out, HB4.out⟩
    · obtain rfl : k = nk := by omega
      have HRL := Lib.hid (show LentVs mkV wr (g + 1) (desD l) us from by rw [← HTL.out]; exact HRW.out)
      go_wp2_with fail
      go_loopg [3, 6] 12 (fun gk ov i wz => ∃ j : Nat, j ≤ 12 ∧ gk = 12 - j ∧ i = .int .i64 (j : Int) ∧ ov = .slice (some ⟨g, 0, none⟩) (k + j) (k + 12) ∧ wz.ownsRow g 62 4 (.slice (some ⟨g, 0, none⟩) (k + j) (k + 12)) (k + j) (us ++ mkDecl j) ∧ LentVs mkV wz (g + 1) (desD l) us ∧ Below w.heap.size w wz)
      case atStart => exact ⟨0, by omega, by omega, rfl, rfl, by have := HO.out; simpa [mkDecl] using this, HRL.out, HBR.out⟩
      case round =>
        obtain ⟨j, hj, rfl, rfl, rfl, hown2, hrows2, hbr2⟩ := hrel
        clear HO HRW HBR HRL hgl
        have HO := Lib.hid hown2; have HRW := Lib.hid hrows2; have HBR := Lib.hid hbr2; clear hown2 hrows2 hbr2
        by_cases hjt : j < 12
        · have HC := Lib.hid (HMK.out j wr (by omega))
          have HSN := Lib.hid (show mkDecl (j + 1) = mkDecl j ++ [.string { data := #[] }, .string { data := #[] }, .slice none 0 0, .int .i64 (8000024 + (j : Int))] from HMLK.out j)
          generalize 8000024 + (j : Int) = mi at *
          have hgl : g < wr.heap.size := (HO.out.lt g rfl).2
          go_wp2_with (first
            | (go_at_call 45; go_must (refine (HC.out).mono ?_; rintro e w2 ⟨rfl, hb⟩; have HB2 := Lib.hid hb; clear hb))
            | (at_builtin; go_must (refine wpList_append_fits _ rfl _ _ _ rfl g 62 ti 4 Tryz.underlying25 hi hsz g (k + j) (k + 12) _ rfl ((Heap.own_new HO.out HB2.out).alloc _) ⟨w2.heap.size, 0, none⟩ 1 1 [.string { data := #[] }, .string { data := #[] }, .slice none 0 0, .int .i64 mi] rfl rfl (World.news_of_block (heap_alloc_new w2 _)) (by simp [Value.oneCell']) (by omega) ?_; intro w4 hown4 hgr4; have HO4 := Lib.hid hown4; have HGR := Lib.hid hgr4; clear hown4 hgr4)))
          have hsz2 : wr.heap.size ≤ w2.heap.size := HB2.out.size
          have hblk : ∀ i, i < wr.heap.size → i ≠ g → w4.heap[i]? = wr.heap[i]? := fun i hi hne => (HGR.out.block i (by simp; omega) (fun e => hne (Option.some.inj e))).trans ((Below.heap_alloc _ _ i (by omega)).trans (HB2.out.block i hi))
          have hb4 : Below w.heap.size w w4 := ((HBR.out.trans (HB2.out.mono HBR.out.size)).alloc (Below.size (HBR.out.trans (HB2.out.mono HBR.out.size))) _).grown HGR.out (by have := HBR.out.size; simp; omega) (fun j hj => by have := Option.some.inj hj; have := HG.out; omega)
          have HNEW := Lib.hid (HRW.out.keep (fun qq v hq hc => (World.cell?_of_block (w := wr) (hblk qq.block (World.block_lt_of_cell? _ _ hc) (by omega))).trans hc) : LentVs mkV w4 (g + 1) (desD l) us)
          have HB4 := Lib.hid hb4; clear hb4 hblk
          go_roundg (12 - (j + 1))
          case measure => omega
          case rel => exact ⟨j + 1, by omega, rfl, by go_num, rfl, by rw [HSN.out, ← List.append_assoc]; exact HO4.out, HNEW.out, HB4.out⟩
        · obtain rfl : j = 12 := by omega
          go_wp2_with fail
          go_ret
          exact ⟨g, rfl, lent_row hl HFL.out (by rw [HG.out]; exact Nat.le_refl _) (HRW.out.base (by have := HG.out; omega)) rfl HO.out, HBR.out⟩
theorem lent_de (x : De) (ho : DeOk x) : LentOKDecl x := fun _ _ h0 => lent_Decl h0 ho
set_option maxRecDepth 100000 in
set_option maxHeartbeats 4000000 in
theorem lent_Text {y : Tx} {w : World} {s0 : Value} {s1 : Value} (h0 : Reads w (.row 62 4 y.decls.length (desD y.decls)) s0) (h1 : Reads w (.row 38 4 y.rules.length (rusD y.rules)) s1) (ho : TxOk y) :
    Calls Tryz.prog 16 #[.agg #[s0, s1]] w fun e w' => ∃ g0 g1, e = .returned (.agg #[.slice (some ⟨g0, 0, none⟩) y.decls.length (y.decls.length + 12), .slice (some ⟨g1, 0, none⟩) y.rules.length (y.rules.length + 12)]) ∧ LentD mkV w' w.heap.size (.row 62 4 y.decls.length (desD y.decls)) (.slice (some ⟨g0, 0, none⟩) y.decls.length (y.decls.length + 12)) ∧ LentD mkV w' w.heap.size (.row 38 4 y.rules.length (rusD y.rules)) (.slice (some ⟨g1, 0, none⟩) y.rules.length (y.rules.length + 12)) ∧ Below w.heap.size w w' := by
  obtain ⟨p0, q0, rfl⟩ := Reads.slice h0
  obtain ⟨p1, q1, rfl⟩ := Reads.slice h1
  have HL0 := Lib.hid (fun (u : World) (hu : Below w.heap.size w u) => lents_Decl (fun x hx => lent_de x (ho.decls x hx)) (Reads.below hu h0) ho.n)
  have HL1 := Lib.hid (fun (u : World) (hu : Below w.heap.size w u) => lents_Rule (fun x hx => lent_ru x (ho.rules x hx)) (Reads.below hu h1) ho.m)
  clear h0 h1 ho
  generalize y.decls.length = m0 at *
  generalize desD y.decls = it0 at *
  generalize y.rules.length = m1 at *
  generalize rusD y.rules = it1 at *
  have HB := Lib.hid (((Below.refl w.heap.size w).alloc (Nat.le_refl _) (.cells #[.slice p0 m0 q0, .slice p1 m1 q1] 28)).alloc (by simp) (.cells #[.slice none 0 0, .slice none 0 0] 28))
  have HSZ := Lib.hid (show ((w.alloc (.cells #[.slice p0 m0 q0, .slice p1 m1 q1] 28)).alloc (.cells #[.slice none 0 0, .slice none 0 0] 28)).heap.size = w.heap.size + 2 by simp)
  have XB := Lib.hid (show ((w.alloc (.cells #[.slice p0 m0 q0, .slice p1 m1 q1] 28)).alloc (.cells #[.slice none 0 0, .slice none 0 0] 28)).heap[w.heap.size + 1]? = some (.cells #[.slice none 0 0, .slice none 0 0] 28 (0, 0)) from alloc2 w _ _)
  have XA := Lib.hid (show ((w.alloc (.cells #[.slice p0 m0 q0, .slice p1 m1 q1] 28)).alloc (.cells #[.slice none 0 0, .slice none 0 0] 28)).heap[w.heap.size]? = some (.cells #[.slice p0 m0 q0, .slice p1 m1 q1] 28 (0, 0)) from (Below.heap_alloc _ _ _ (by simp)).trans (heap_alloc_new _ _))
  go_enter Tryz.func16, Tryz.ntmps16
  go_upto_region 1 with fail
  generalize ((w.alloc (.cells #[.slice p0 m0 q0, .slice p1 m1 q1] 28)).alloc (.cells #[.slice none 0 0, .slice none 0 0] 28)) = W at *
  generalize hH : w.heap.size = H at *
  have HZ := Lib.hid hH; clear hH
  have HSL : Hid (H + 2 ≤ W.heap.size) := Lib.hid (by rw [HSZ.out]; exact Nat.le_refl _)
  clear HSZ
  have aa := cell_of_row W H 0 _ _ (0, 0) XA.out
  go_upto_region 2 with (go_at_call 28; go_must (refine (HL0.out _ HB.out).mono ?_; rintro e w2 ⟨g0, rfl, hv, hb⟩; have hoa := (hb.block H (by have := HSL.out; omega)).trans XA.out; have hob := (hb.block (H + 1) (by have := HSL.out; omega)).trans XB.out; have fa := frozen_of_row w2 H 0 _ _ hoa; have ab := cell_of_row w2 H 0 _ _ (0, 0) hoa; have HVN := Lib.hid hv; have HBN := Lib.hid hb; have XA2 := Lib.hid hoa; have XB2 := Lib.hid hob; clear hv hb hoa hob aa))
  clear fa ab
  obtain ⟨W0, hW'⟩ : ∃ W', W' = w2.setCell ⟨H, 0, none⟩ (.slice (some ⟨g0, 0, none⟩) m0 (m0 + 12)) := ⟨_, rfl⟩
  rw [← hW']
  have XA3 := Lib.hid (show W0.heap[H]? = some (.cells #[.slice (some ⟨g0, 0, none⟩) m0 (m0 + 12), .slice p1 m1 q1] 28 (0, 0)) from by rw [hW']; exact blk_set XA2.out 0 _)
  have XB3 := Lib.hid (show W0.heap[H + 1]? = some (.cells #[.slice none 0 0, .slice none 0 0] 28 (0, 0)) from by rw [hW']; exact (Below.heap_setCell _ _ _ _ (by simp)).trans XB2.out)
  have HB3 := Lib.hid (show Below H w W0 from by rw [hW']; exact (HB.out.trans (HBN.out.mono (by have := HSL.out; omega))).setCell (Nat.le_refl _) _)
  have HV0 := Lib.hid (show LentD mkV W0 (H + 2) (.row 62 4 m0 it0) (.slice (some ⟨g0, 0, none⟩) m0 (m0 + 12)) from by rw [hW']; exact (HVN.out.base HSL.out).set (by omega))
  have HSL3 : Hid (H + 2 ≤ W0.heap.size) := Lib.hid (by have := HSL.out; have := HBN.out.size; rw [hW']; simp only [World.setCell, Array.size_modify]; omega)
  clear hW' HVN HBN XA2 XB2 XA XB HB HSL HL0
  have XA := XA3; have XB := XB3; have HB := HB3; have HSL := HSL3
  clear XA3 XB3 HB3 HSL3
  have aa := cell_of_row W0 H 1 _ _ (0, 0) XA.out
  go_upto_region 3 with (go_at_call 29; go_must (refine (HL1.out _ HB.out).mono ?_; rintro e w2 ⟨g1, rfl, hv, hb⟩; have hoa := (hb.block H (by have := HSL.out; omega)).trans XA.out; have hob := (hb.block (H + 1) (by have := HSL.out; omega)).trans XB.out; have fa := frozen_of_row w2 H 1 _ _ hoa; have ab := cell_of_row w2 H 1 _ _ (0, 0) hoa; have HVN := Lib.hid hv; have HBN := Lib.hid hb; have XA2 := Lib.hid hoa; have XB2 := Lib.hid hob; clear hv hb hoa hob aa))
  clear fa ab
  obtain ⟨W1, hW'⟩ : ∃ W', W' = w2.setCell ⟨H, 1, none⟩ (.slice (some ⟨g1, 0, none⟩) m1 (m1 + 12)) := ⟨_, rfl⟩
  rw [← hW']
  have XA3 := Lib.hid (show W1.heap[H]? = some (.cells #[.slice (some ⟨g0, 0, none⟩) m0 (m0 + 12), .slice (some ⟨g1, 0, none⟩) m1 (m1 + 12)] 28 (0, 0)) from by rw [hW']; exact blk_set XA2.out 1 _)
  have XB3 := Lib.hid (show W1.heap[H + 1]? = some (.cells #[.slice none 0 0, .slice none 0 0] 28 (0, 0)) from by rw [hW']; exact (Below.heap_setCell _ _ _ _ (by simp)).trans XB2.out)
  have HB3 := Lib.hid (show Below H w W1 from by rw [hW']; exact (HB.out.trans (HBN.out.mono (by have := HSL.out; omega))).setCell (Nat.le_refl _) _)
  have HV1 := Lib.hid (show LentD mkV W1 (H + 2) (.row 38 4 m1 it1) (.slice (some ⟨g1, 0, none⟩) m1 (m1 + 12)) from by rw [hW']; exact (HVN.out.base HSL.out).set (by omega))
  have HVq := Lib.hid (show LentD mkV W1 (H + 2) (.row 62 4 m0 it0) (.slice (some ⟨g0, 0, none⟩) m0 (m0 + 12)) from by rw [hW']; exact (HV0.out.below HBN.out).set (by omega))
  clear HV0
  have HV0 := HVq
  clear HVq
  have HSL3 : Hid (H + 2 ≤ W1.heap.size) := Lib.hid (by have := HSL.out; have := HBN.out.size; rw [hW']; simp only [World.setCell, Array.size_modify]; omega)
  clear hW' HVN HBN XA2 XB2 XA XB HB HSL HL1
  have XA := XA3; have XB := XB3; have HB := HB3; have HSL := HSL3
  clear XA3 XB3 HB3 HSL3
  have b0 : W1.cell? ⟨H, 0, none⟩ = some (.slice (some ⟨g0, 0, none⟩) m0 (m0 + 12)) := cell_of_row W1 H 0 _ _ (0, 0) XA.out
  have c0 := cell_of_row W1 (H + 1) 0 _ _ (0, 0) XB.out
  have f0 := frozen_of_row W1 (H + 1) 0 _ _ XB.out
  have b1 : W1.cell? ⟨H, 1, none⟩ = some (.slice (some ⟨g1, 0, none⟩) m1 (m1 + 12)) := cell_of_row W1 H 1 _ _ (0, 0) XA.out
  have c1 := cell_of_row W1 (H + 1) 1 _ _ (0, 0) XB.out
  have f1 := frozen_of_row W1 (H + 1) 1 _ _ XB.out
  have hx := blk_set (blk_set XB.out 0 (.slice (some ⟨g0, 0, none⟩) m0 (m0 + 12))) 1 (.slice (some ⟨g1, 0, none⟩) m1 (m1 + 12))
  go_wp2_with fail
  refine bodyPost_ret (res_Text rfl hx rfl) rfl ⟨g0, g1, rfl, LentD.base (B := H + 2) (by have := HZ.out; omega) (LentD.set (b := H + 1) (i := 1) (LentD.set (b := H + 1) (i := 0) HV0.out (by omega)) (by omega)), LentD.base (B := H + 2) (by have := HZ.out; omega) (LentD.set (b := H + 1) (i := 1) (LentD.set (b := H + 1) (i := 0) HV1.out (by omega)) (by omega)), ?_⟩
  rw [HZ.out]
  exact ((HB.out.setCell (p := ⟨H + 1, 0, none⟩) (Nat.le_succ _) _).setCell (p := ⟨H + 1, 1, none⟩) (Nat.le_succ _) _)
end Go.Proofs.YtghebacphjglbaaGreat.SrcA
