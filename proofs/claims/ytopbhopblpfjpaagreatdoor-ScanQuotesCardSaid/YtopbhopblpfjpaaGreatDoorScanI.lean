/- The scanner's line ends, walked. -/
import Derived.Test.YtopbhopblpfjpaaGreatDoorScanH
namespace Go.Proofs.YtopbhopblpfjpaaGreatDoor.ScanI
open Go.RowKit Go.Proofs.YtopbhopblpfjpaaGreatDoor.Lexy Go.Proofs.YtopbhopblpfjpaaGreatDoor.Heap Go.Proofs.YtopbhopblpfjpaaGreatDoor.Base Go.Proofs.YtopbhopblpfjpaaGreatDoor.Scany Go.Proofs.YtopbhopblpfjpaaGreatDoor.ScanA Go.Proofs.YtopbhopblpfjpaaGreatDoor.ScanB Go.Proofs.YtopbhopblpfjpaaGreatDoor.ScanC Go.Proofs.YtopbhopblpfjpaaGreatDoor.ScanD Go.Proofs.YtopbhopblpfjpaaGreatDoor.ScanE Go.Proofs.YtopbhopblpfjpaaGreatDoor.ScanF Go.Proofs.YtopbhopblpfjpaaGreatDoor.ScanG Go.Proofs.YtopbhopblpfjpaaGreatDoor.ScanH

/-- signs are signs -/
def okT (t : Tok) : Prop := t.kind = 6 → t.text ∈ signsS
theorem closes : ∀ t ∈ signsS, Lib.contains [41, 93, 125] t = decide (t ∈ ([[41], [93], [125]] : List (List UInt8))) := by decide +kernel
theorem contains_close {t : List UInt8} {w : World} {m : Int} {v : Bool} (ht : t ∈ signsS) (hv : decide (t ∈ ([[41], [93], [125]] : List (List UInt8))) = v) (hm : w.cell? ⟨2, 0, none⟩ = some (.int .i64 m)) :
    Calls Tryz.prog 33 #[.string { data := #[41, 93, 125] }, .string (bs t)] w fun e w' => e = .returned (.bool v) ∧ w = w' := by
  refine (Tryz.strings_Contains _ _ m w (by decide) hm).mono ?_
  rintro e w' ⟨he, rfl⟩
  exact ⟨by rw [he, bs_list]; exact ret_bool ((closes t ht).trans hv), rfl⟩
/-- the words that may end a line -/
def endW : List (List UInt8) := [[98, 114, 101, 97, 107], [99, 111, 110, 116, 105, 110, 117, 101], [114, 101, 116, 117, 114, 110], [116, 114, 117, 101], [102, 97, 108, 115, 101]]

/-- what comes of a line's end -/
def EndPost (b B0 : Nat) (s : ByteArray) (a : Nat) (l : Value) (d : List Tok) (w : World) (e : Ending) (w' : World) : Prop :=
  e = .returned (.tuple #[]) ∧ KpB b B0 w w' ∧
    if endsS d.getLast? then ∃ l', Sc w' b s a l' ∧ w'.ownsRow B0 50 3 l' (d ++ [(⟨6, [59], a⟩ : Tok)]).length (cellsT (d ++ [(⟨6, [59], a⟩ : Tok)]))
    else Sc w' b s a l ∧ w'.ownsRow B0 50 3 l d.length (cellsT d)
theorem EndPost.no {b B0 : Nat} {s : ByteArray} {a : Nat} {l : Value} {d : List Tok} {w w' : World} (h : endsS d.getLast? = false) (k : KpB b B0 w w') (hr : Sc w' b s a l) (ho : w'.ownsRow B0 50 3 l d.length (cellsT d)) : EndPost b B0 s a l d w (.returned (.tuple #[])) w' :=
  ⟨rfl, k, by rw [h]; exact ⟨hr, ho⟩⟩
theorem EndPost.yes {b B0 : Nat} {s : ByteArray} {a : Nat} {l l' : Value} {d : List Tok} {w w' : World} (h : endsS d.getLast? = true) (k : KpB b B0 w w') (hr : Sc w' b s a l') (ho : w'.ownsRow B0 50 3 l' (d ++ [(⟨6, [59], a⟩ : Tok)]).length (cellsT (d ++ [(⟨6, [59], a⟩ : Tok)]))) : EndPost b B0 s a l d w (.returned (.tuple #[])) w' :=
  ⟨rfl, k, by rw [h]; exact ⟨l', hr, ho⟩⟩
set_option maxRecDepth 100000 in
set_option maxHeartbeats 2000000 in
theorem end_nil {b B0 : Nat} {s : ByteArray} {a : Nat} {l : Value} {w : World} (hr : Sc w b s a l) (hown : w.ownsRow B0 50 3 l 0 (cellsT [])) :
    Calls Tryz.prog 20 #[.pointer (some ⟨b, 0, none⟩)] w (EndPost b B0 s a l [] w) := by
  obtain ⟨sa, sc, rfl⟩ : ∃ sa sc, l = .slice sa 0 sc := by
    rcases hown.2 with ⟨h, _⟩ | ⟨g, cap, cur, h, _⟩
    · exact ⟨_, _, h⟩
    · exact ⟨_, _, h⟩
  have c2 := hr.c2
  go_enter Tryz.func20, Tryz.ntmps20
  go_wp2
  go_end0
  exact EndPost.no rfl (KpB.refl _ _ _) hr hown
theorem endW_lie (w : World) : IsStrs (w.alloc (.cells #[.string { data := #[98, 114, 101, 97, 107] }, .string { data := #[99, 111, 110, 116, 105, 110, 117, 101] }, .string { data := #[114, 101, 116, 117, 114, 110] }, .string { data := #[116, 114, 117, 101] }, .string { data := #[102, 97, 108, 115, 101] }] 9)) w.heap.size endW := strs_new w endW
set_option maxRecDepth 100000 in
set_option maxHeartbeats 1000000 in
theorem end_word_t {b B0 n g cap : Nat} {s : ByteArray} {a : Nat} {m : Int} {t : Tok} {d : List Tok} {w : World} (hd : d.length = n + 1) (hlast : d.getLast? = some t) (_hok : okT t) (hr : Sc w b s a (.slice (some ⟨g, 0, none⟩) (n + 1) cap)) (hown : w.ownsRow B0 50 3 (.slice (some ⟨g, 0, none⟩) (n + 1) cap) (n + 1) (cellsT d)) (hn : n ≤ 1000000) (hbB : b < B0) (hB : B0 ≤ w.heap.size) (hbm : 2 < b) (hk1 : t.kind = 1) (hv : decide (t.text ∈ endW) = true)
    (hm : w.cell? ⟨2, 0, none⟩ = some (.int .i64 m)) :
    Calls Tryz.prog 20 #[.pointer (some ⟨b, 0, none⟩)] w (EndPost b B0 s a (.slice (some ⟨g, 0, none⟩) (n + 1) cap) d w) := by
  have ht : tk d n = t := by
    rw [List.getLast?_eq_getElem?, hd] at hlast
    unfold tk; rw [List.getD_eq_getElem?_getD]; simp at hlast; simp [hlast]
  have hg := cellsT_get d n (by omega)
  rw [ht] at hg
  have t0 : w.cell? ⟨g, n * 3, none⟩ = some (.int .u8 (t.kind : Int)) := by rw [hown.cellAt _ (by omega)]; exact hg.1
  have t1 : w.cell? ⟨g, n * 3 + 1, none⟩ = some (.string (bs t.text)) := by rw [hown.cellAt _ (by omega)]; exact hg.2.1
  have t2 : w.cell? ⟨g, n * 3 + 2, none⟩ = some (.int .i64 (t.at_ : Int)) := by rw [hown.cellAt _ (by omega)]; exact hg.2.2
  have c2 := hr.c2
  have j0 : (0 : Int) ≤ (n : Int) := by omega
  have j1 : (n : Int) < (n : Int) + 1 := by omega
  obtain ⟨i0, hi0, hz0, hz1, hz2⟩ := info_parts tokInfo
  have HDL := Lib.hid hd
  have hlb' : ¬ some b = (Value.slice (some ⟨g, 0, none⟩) (n + 1) cap).ownBlock := fun e => by have := (hown.lt b e.symm).1; omega
  have HE := Lib.hid (show endsS d.getLast? = true by rw [hlast]; simp only [endsS, hk1, if_true]; exact hv)
  clear hg ht hlast hd
  have hgl := World.block_lt_of_cell? w _ t0
  have hbl := hr.lt
  have x2 : ∀ o, (w.alloc o).cell? ⟨b, 2, none⟩ = some (.slice (some ⟨g, 0, none⟩) (n + 1) cap) := fun o => (World.cell?_alloc_past _ _ _ hbl).trans c2
  have x3 : ∀ o, (w.alloc o).cell? ⟨g, n * 3, none⟩ = some (.int .u8 (t.kind : Int)) := fun o => (World.cell?_alloc_past _ _ _ hgl).trans t0
  have x4 : ∀ o, (w.alloc o).cell? ⟨g, n * 3 + 1, none⟩ = some (.string (bs t.text)) := fun o => (World.cell?_alloc_past _ _ _ hgl).trans t1
  have x5 : ∀ o, (w.alloc o).cell? ⟨g, n * 3 + 2, none⟩ = some (.int .i64 (t.at_ : Int)) := fun o => (World.cell?_alloc_past _ _ _ hgl).trans t2
  have e1 : ((t.kind : Int) == 1) = true := by rw [hk1]; rfl
  have HK := Lib.hid hk1; clear hk1
  have HV := Lib.hid (show decide ((bs t.text).data.toList ∈ endW) = true by rw [bs_list]; exact hv)
  clear hv
  go_enter Tryz.func20, Tryz.ntmps20
  go_wp2
  go_region
  have hT : Tk (w.alloc (.cells #[.int .u8 (t.kind : Int), .string (bs t.text), .int .i64 (t.at_ : Int)] 50)).drew w.heap.size t.kind (bs t.text) t.at_ := heap_alloc_new w _
  have hR : Sc (w.alloc (.cells #[.int .u8 (t.kind : Int), .string (bs t.text), .int .i64 (t.at_ : Int)] 50)).drew b s a (.slice (some ⟨g, 0, none⟩) (n + 1) cap) := (hr.kept (World.grownBy_alloc w _ none) (by simp)).drewN 1
  have ho : (w.alloc (.cells #[.int .u8 (t.kind : Int), .string (bs t.text), .int .i64 (t.at_ : Int)] 50)).drew.ownsRow B0 50 3 (.slice (some ⟨g, 0, none⟩) (n + 1) cap) (n + 1) (cellsT d) := hown.alloc _
  have hk : KpB b B0 w (w.alloc (.cells #[.int .u8 (t.kind : Int), .string (bs t.text), .int .i64 (t.at_ : Int)] 50)).drew := ((KpB.refl b B0 w).alloc _).drewN 1
  have hm1 := hk.cell hm (by simp; omega) (by simp; omega)
  clear x2 x3 x4 x5 t0 t1 t2 c2 hr hown hm
  generalize (w.alloc (.cells #[.int .u8 (t.kind : Int), .string (bs t.text), .int .i64 (t.at_ : Int)] 50)).drew = W at *
  have t0 := hT.c0; have t1 := hT.c1
  have hTl := hT.lt
  have x1 : ∀ o, (W.alloc o).cell? ⟨w.heap.size, 1, none⟩ = some (.string (bs t.text)) := fun o => (World.cell?_alloc_past _ _ _ hTl).trans t1
  go_wp2_with (go_at_call 32; go_must (refine (contains_is (endW_lie W) rfl (by decide) HV.out).mono ?_); rintro e w' ⟨rfl, rfl⟩)
  have hR' := hR.kept (World.grownBy_alloc W (.cells #[.string { data := #[98, 114, 101, 97, 107] }, .string { data := #[99, 111, 110, 116, 105, 110, 117, 101] }, .string { data := #[114, 101, 116, 117, 114, 110] }, .string { data := #[116, 114, 117, 101] }, .string { data := #[102, 97, 108, 115, 101] }] 9) none) (by simp)
  have ho' := ho.alloc (.cells #[.string { data := #[98, 114, 101, 97, 107] }, .string { data := #[99, 111, 110, 116, 105, 110, 117, 101] }, .string { data := #[114, 101, 116, 117, 114, 110] }, .string { data := #[116, 114, 117, 101] }, .string { data := #[102, 97, 108, 115, 101] }] 9)
  have hg' := hk.alloc (.cells #[.string { data := #[98, 114, 101, 97, 107] }, .string { data := #[99, 111, 110, 116, 105, 110, 117, 101] }, .string { data := #[114, 101, 116, 117, 114, 110] }, .string { data := #[116, 114, 117, 101] }, .string { data := #[102, 97, 108, 115, 101] }] 9)
  have hsz' : B0 ≤ (W.alloc (.cells #[.string { data := #[98, 114, 101, 97, 107] }, .string { data := #[99, 111, 110, 116, 105, 110, 117, 101] }, .string { data := #[114, 101, 116, 117, 114, 110] }, .string { data := #[116, 114, 117, 101] }, .string { data := #[102, 97, 108, 115, 101] }] 9)).heap.size := by have := hk.size; simp; omega
  clear t0 t1 x1 hTl hT hR ho hk hm1
  generalize W.alloc (.cells #[.string { data := #[98, 114, 101, 97, 107] }, .string { data := #[99, 111, 110, 116, 105, 110, 117, 101] }, .string { data := #[114, 101, 116, 117, 114, 110] }, .string { data := #[116, 114, 117, 101] }, .string { data := #[102, 97, 108, 115, 101] }] 9) = wc at *
  have hbwc := hR'.lt
  have c2 := hR'.c2; have r2 := hR'.fr 2; have c1 := hR'.c1
  have rf : ∀ o, (wc.alloc o).frozen? ⟨b, 2, none⟩ = false := fun o => (World.frozen?_of_block (Below.heap_alloc wc o b hbwc)).trans r2
  have e2 : ∀ o, (wc.alloc o).cell? ⟨b, 2, none⟩ = some (.slice (some ⟨g, 0, none⟩) (n + 1) cap) := fun o => (World.cell?_alloc_past _ _ _ hbwc).trans c2
  have q1 : ∀ o, (wc.alloc o).cell? ⟨b, 1, none⟩ = some (.int .i64 (a : Int)) := fun o => (World.cell?_alloc_past _ _ _ hbwc).trans c1
  go_wp2_with fail
  go_region_law (((refine step_append_lies _ (by rfl) _ _ _ (by rfl) B0 50 i0 _ 3 32 Tryz.underlying23 hi0 hz0 hz1 hz2 rfl (by omega) (.slice (some ⟨g, 0, none⟩) (n + 1) cap) (n + 1) (cellsT d) (by rfl) ((ho'.alloc _).drew) ⟨wc.heap.size, 0, none⟩ 1 1 [.int .u8 6, .string { data := #[59] }, .int .i64 (a : Int)] (by rfl) (by rfl) (World.news_of_block (cs := #[.int .u8 6, .string { data := #[59] }, .int .i64 (a : Int)]) (t := 50) (fr := (0, 0)) (heap_alloc_new wc _)) (by simp [Value.oneCell']) (by omega) (by unfold maxLen; omega) (by omega) (by simp; omega) (wc.heap.size + 1) (by simp) ?_; intro gg cap1 w1 hown1 hgrow hat hlt; have c2' : w1.cell? ⟨b, 2, none⟩ = some (.slice (some ⟨g, 0, none⟩) (n + 1) cap) := (by rw [hgrow.cell_far _ (by simp; omega) hlb']; exact e2 _); have r2' : w1.frozen? ⟨b, 2, none⟩ = false := (by rw [hgrow.frozen_far _ (by simp; omega) hlb']; exact rf _))))
  all_goals
    go_end0
    have hgk : KpB b B0 w w1 := ((hg'.alloc (.cells #[.int .u8 6, .string { data := #[59] }, .int .i64 (a : Int)] 50)).drewN 1).grown hgrow (fun j hj => .inr (ho'.lt j hj).1)
    have hR1 : Sc w1 b s a (.slice (some ⟨g, 0, none⟩) (n + 1) cap) := ((hR'.kept (World.grownBy_alloc wc (.cells #[.int .u8 6, .string { data := #[59] }, .int .i64 (a : Int)] 50) none) (by simp)).drewN 1).kept hgrow hlb'
    have hgg : gg ≠ b := by have := (hown1.lt gg rfl).1; omega
    refine EndPost.yes HE.out (hgk.set _ (.inl rfl)) (hR1.set2 _) ?_
    rw [cellsT_snoc, List.length_append, HDL.out]
    exact own_set hown1 (by simpa [Value.ownBlock] using hgg) 2 _
set_option maxRecDepth 100000 in
set_option maxHeartbeats 1000000 in
theorem end_word_f {b B0 n g cap : Nat} {s : ByteArray} {a : Nat} {m : Int} {t : Tok} {d : List Tok} {w : World} (hd : d.length = n + 1) (hlast : d.getLast? = some t) (_hok : okT t) (hr : Sc w b s a (.slice (some ⟨g, 0, none⟩) (n + 1) cap)) (hown : w.ownsRow B0 50 3 (.slice (some ⟨g, 0, none⟩) (n + 1) cap) (n + 1) (cellsT d)) (hn : n ≤ 1000000) (hbB : b < B0) (_hB : B0 ≤ w.heap.size) (hbm : 2 < b) (hk1 : t.kind = 1) (hv : decide (t.text ∈ endW) = false)
    (hm : w.cell? ⟨2, 0, none⟩ = some (.int .i64 m)) :
    Calls Tryz.prog 20 #[.pointer (some ⟨b, 0, none⟩)] w (EndPost b B0 s a (.slice (some ⟨g, 0, none⟩) (n + 1) cap) d w) := by
  have ht : tk d n = t := by
    rw [List.getLast?_eq_getElem?, hd] at hlast
    unfold tk; rw [List.getD_eq_getElem?_getD]; simp at hlast; simp [hlast]
  have hg := cellsT_get d n (by omega)
  rw [ht] at hg
  have t0 : w.cell? ⟨g, n * 3, none⟩ = some (.int .u8 (t.kind : Int)) := by rw [hown.cellAt _ (by omega)]; exact hg.1
  have t1 : w.cell? ⟨g, n * 3 + 1, none⟩ = some (.string (bs t.text)) := by rw [hown.cellAt _ (by omega)]; exact hg.2.1
  have t2 : w.cell? ⟨g, n * 3 + 2, none⟩ = some (.int .i64 (t.at_ : Int)) := by rw [hown.cellAt _ (by omega)]; exact hg.2.2
  have c2 := hr.c2
  have j0 : (0 : Int) ≤ (n : Int) := by omega
  have j1 : (n : Int) < (n : Int) + 1 := by omega
  obtain ⟨i0, hi0, hz0, hz1, hz2⟩ := info_parts tokInfo
  have HDL := Lib.hid hd
  have hlb' : ¬ some b = (Value.slice (some ⟨g, 0, none⟩) (n + 1) cap).ownBlock := fun e => by have := (hown.lt b e.symm).1; omega
  have HE := Lib.hid (show endsS d.getLast? = false by rw [hlast]; simp only [endsS, hk1, if_true]; exact hv)
  clear hg ht hlast hd
  have hgl := World.block_lt_of_cell? w _ t0
  have hbl := hr.lt
  have x2 : ∀ o, (w.alloc o).cell? ⟨b, 2, none⟩ = some (.slice (some ⟨g, 0, none⟩) (n + 1) cap) := fun o => (World.cell?_alloc_past _ _ _ hbl).trans c2
  have x3 : ∀ o, (w.alloc o).cell? ⟨g, n * 3, none⟩ = some (.int .u8 (t.kind : Int)) := fun o => (World.cell?_alloc_past _ _ _ hgl).trans t0
  have x4 : ∀ o, (w.alloc o).cell? ⟨g, n * 3 + 1, none⟩ = some (.string (bs t.text)) := fun o => (World.cell?_alloc_past _ _ _ hgl).trans t1
  have x5 : ∀ o, (w.alloc o).cell? ⟨g, n * 3 + 2, none⟩ = some (.int .i64 (t.at_ : Int)) := fun o => (World.cell?_alloc_past _ _ _ hgl).trans t2
  have e1 : ((t.kind : Int) == 1) = true := by rw [hk1]; rfl
  have HK := Lib.hid hk1; clear hk1
  have HV := Lib.hid (show decide ((bs t.text).data.toList ∈ endW) = false by rw [bs_list]; exact hv)
  clear hv
  go_enter Tryz.func20, Tryz.ntmps20
  go_wp2
  go_region
  have hT : Tk (w.alloc (.cells #[.int .u8 (t.kind : Int), .string (bs t.text), .int .i64 (t.at_ : Int)] 50)).drew w.heap.size t.kind (bs t.text) t.at_ := heap_alloc_new w _
  have hR : Sc (w.alloc (.cells #[.int .u8 (t.kind : Int), .string (bs t.text), .int .i64 (t.at_ : Int)] 50)).drew b s a (.slice (some ⟨g, 0, none⟩) (n + 1) cap) := (hr.kept (World.grownBy_alloc w _ none) (by simp)).drewN 1
  have ho : (w.alloc (.cells #[.int .u8 (t.kind : Int), .string (bs t.text), .int .i64 (t.at_ : Int)] 50)).drew.ownsRow B0 50 3 (.slice (some ⟨g, 0, none⟩) (n + 1) cap) (n + 1) (cellsT d) := hown.alloc _
  have hk : KpB b B0 w (w.alloc (.cells #[.int .u8 (t.kind : Int), .string (bs t.text), .int .i64 (t.at_ : Int)] 50)).drew := ((KpB.refl b B0 w).alloc _).drewN 1
  have hm1 := hk.cell hm (by simp; omega) (by simp; omega)
  clear x2 x3 x4 x5 t0 t1 t2 c2 hr hown hm
  generalize (w.alloc (.cells #[.int .u8 (t.kind : Int), .string (bs t.text), .int .i64 (t.at_ : Int)] 50)).drew = W at *
  have t0 := hT.c0; have t1 := hT.c1
  have hTl := hT.lt
  have x1 : ∀ o, (W.alloc o).cell? ⟨w.heap.size, 1, none⟩ = some (.string (bs t.text)) := fun o => (World.cell?_alloc_past _ _ _ hTl).trans t1
  go_wp2_with (go_at_call 32; go_must (refine (contains_is (endW_lie W) rfl (by decide) HV.out).mono ?_); rintro e w' ⟨rfl, rfl⟩)
  go_end0
  exact EndPost.no HE.out (hk.alloc _) (hR.kept (World.grownBy_alloc W _ none) (by simp)) (by rw [HDL.out]; exact ho.alloc _)
set_option maxRecDepth 100000 in
set_option maxHeartbeats 1000000 in
theorem end_sign_t {b B0 n g cap : Nat} {s : ByteArray} {a : Nat} {m : Int} {t : Tok} {d : List Tok} {w : World} (hd : d.length = n + 1) (hlast : d.getLast? = some t) (hok : okT t) (hr : Sc w b s a (.slice (some ⟨g, 0, none⟩) (n + 1) cap)) (hown : w.ownsRow B0 50 3 (.slice (some ⟨g, 0, none⟩) (n + 1) cap) (n + 1) (cellsT d)) (hn : n ≤ 1000000) (hbB : b < B0) (hB : B0 ≤ w.heap.size) (hbm : 2 < b) (hk1 : t.kind = 6) (hv : decide (t.text ∈ ([[41], [93], [125]] : List (List UInt8))) = true)
    (hm : w.cell? ⟨2, 0, none⟩ = some (.int .i64 m)) :
    Calls Tryz.prog 20 #[.pointer (some ⟨b, 0, none⟩)] w (EndPost b B0 s a (.slice (some ⟨g, 0, none⟩) (n + 1) cap) d w) := by
  have ht : tk d n = t := by
    rw [List.getLast?_eq_getElem?, hd] at hlast
    unfold tk; rw [List.getD_eq_getElem?_getD]; simp at hlast; simp [hlast]
  have hg := cellsT_get d n (by omega)
  rw [ht] at hg
  have t0 : w.cell? ⟨g, n * 3, none⟩ = some (.int .u8 (t.kind : Int)) := by rw [hown.cellAt _ (by omega)]; exact hg.1
  have t1 : w.cell? ⟨g, n * 3 + 1, none⟩ = some (.string (bs t.text)) := by rw [hown.cellAt _ (by omega)]; exact hg.2.1
  have t2 : w.cell? ⟨g, n * 3 + 2, none⟩ = some (.int .i64 (t.at_ : Int)) := by rw [hown.cellAt _ (by omega)]; exact hg.2.2
  have c2 := hr.c2
  have j0 : (0 : Int) ≤ (n : Int) := by omega
  have j1 : (n : Int) < (n : Int) + 1 := by omega
  obtain ⟨i0, hi0, hz0, hz1, hz2⟩ := info_parts tokInfo
  have HDL := Lib.hid hd
  have hlb' : ¬ some b = (Value.slice (some ⟨g, 0, none⟩) (n + 1) cap).ownBlock := fun e => by have := (hown.lt b e.symm).1; omega
  have HE := Lib.hid (show endsS d.getLast? = true by rw [hlast]; simp only [endsS, hk1]; simpa using hv)
  clear hg ht hlast hd
  have hgl := World.block_lt_of_cell? w _ t0
  have hbl := hr.lt
  have x2 : ∀ o, (w.alloc o).cell? ⟨b, 2, none⟩ = some (.slice (some ⟨g, 0, none⟩) (n + 1) cap) := fun o => (World.cell?_alloc_past _ _ _ hbl).trans c2
  have x3 : ∀ o, (w.alloc o).cell? ⟨g, n * 3, none⟩ = some (.int .u8 (t.kind : Int)) := fun o => (World.cell?_alloc_past _ _ _ hgl).trans t0
  have x4 : ∀ o, (w.alloc o).cell? ⟨g, n * 3 + 1, none⟩ = some (.string (bs t.text)) := fun o => (World.cell?_alloc_past _ _ _ hgl).trans t1
  have x5 : ∀ o, (w.alloc o).cell? ⟨g, n * 3 + 2, none⟩ = some (.int .i64 (t.at_ : Int)) := fun o => (World.cell?_alloc_past _ _ _ hgl).trans t2
  have e1 : ((t.kind : Int) == 1) = false := by rw [hk1]; rfl
  have e6 : ((t.kind : Int) == 6) = true := by rw [hk1]; rfl
  have HS := Lib.hid (hok hk1)
  have HK := Lib.hid hk1; clear hk1
  have HV := Lib.hid hv; clear hv
  go_enter Tryz.func20, Tryz.ntmps20
  go_wp2
  go_region
  have hT : Tk (w.alloc (.cells #[.int .u8 (t.kind : Int), .string (bs t.text), .int .i64 (t.at_ : Int)] 50)).drew w.heap.size t.kind (bs t.text) t.at_ := heap_alloc_new w _
  have hR : Sc (w.alloc (.cells #[.int .u8 (t.kind : Int), .string (bs t.text), .int .i64 (t.at_ : Int)] 50)).drew b s a (.slice (some ⟨g, 0, none⟩) (n + 1) cap) := (hr.kept (World.grownBy_alloc w _ none) (by simp)).drewN 1
  have ho : (w.alloc (.cells #[.int .u8 (t.kind : Int), .string (bs t.text), .int .i64 (t.at_ : Int)] 50)).drew.ownsRow B0 50 3 (.slice (some ⟨g, 0, none⟩) (n + 1) cap) (n + 1) (cellsT d) := hown.alloc _
  have hk : KpB b B0 w (w.alloc (.cells #[.int .u8 (t.kind : Int), .string (bs t.text), .int .i64 (t.at_ : Int)] 50)).drew := ((KpB.refl b B0 w).alloc _).drewN 1
  have hm1 := hk.cell hm (by simp; omega) (by simp; omega)
  clear x2 x3 x4 x5 t0 t1 t2 c2 hr hown hm
  generalize (w.alloc (.cells #[.int .u8 (t.kind : Int), .string (bs t.text), .int .i64 (t.at_ : Int)] 50)).drew = W at *
  have t0 := hT.c0; have t1 := hT.c1
  have hTl := hT.lt
  have x1 : ∀ o, (W.alloc o).cell? ⟨w.heap.size, 1, none⟩ = some (.string (bs t.text)) := fun o => (World.cell?_alloc_past _ _ _ hTl).trans t1
  go_wp2_with (go_at_call 33; go_must (refine (contains_close HS.out HV.out hm1).mono ?_); rintro e w' ⟨rfl, rfl⟩)
  have hR' := hR; have ho' := ho; have hg' := hk
  have hsz' : B0 ≤ W.heap.size := by have := hk.size; omega
  clear t0 t1 x1 hTl hT hR ho hk hm1
  generalize W = wc at *
  have hbwc := hR'.lt
  have c2 := hR'.c2; have r2 := hR'.fr 2; have c1 := hR'.c1
  have rf : ∀ o, (wc.alloc o).frozen? ⟨b, 2, none⟩ = false := fun o => (World.frozen?_of_block (Below.heap_alloc wc o b hbwc)).trans r2
  have e2 : ∀ o, (wc.alloc o).cell? ⟨b, 2, none⟩ = some (.slice (some ⟨g, 0, none⟩) (n + 1) cap) := fun o => (World.cell?_alloc_past _ _ _ hbwc).trans c2
  have q1 : ∀ o, (wc.alloc o).cell? ⟨b, 1, none⟩ = some (.int .i64 (a : Int)) := fun o => (World.cell?_alloc_past _ _ _ hbwc).trans c1
  go_wp2_with fail
  go_region_law (((refine step_append_lies _ (by rfl) _ _ _ (by rfl) B0 50 i0 _ 3 32 Tryz.underlying23 hi0 hz0 hz1 hz2 rfl (by omega) (.slice (some ⟨g, 0, none⟩) (n + 1) cap) (n + 1) (cellsT d) (by rfl) ((ho'.alloc _).drew) ⟨wc.heap.size, 0, none⟩ 1 1 [.int .u8 6, .string { data := #[59] }, .int .i64 (a : Int)] (by rfl) (by rfl) (World.news_of_block (cs := #[.int .u8 6, .string { data := #[59] }, .int .i64 (a : Int)]) (t := 50) (fr := (0, 0)) (heap_alloc_new wc _)) (by simp [Value.oneCell']) (by omega) (by unfold maxLen; omega) (by omega) (by simp; omega) (wc.heap.size + 1) (by simp) ?_; intro gg cap1 w1 hown1 hgrow hat hlt; have c2' : w1.cell? ⟨b, 2, none⟩ = some (.slice (some ⟨g, 0, none⟩) (n + 1) cap) := (by rw [hgrow.cell_far _ (by simp; omega) hlb']; exact e2 _); have r2' : w1.frozen? ⟨b, 2, none⟩ = false := (by rw [hgrow.frozen_far _ (by simp; omega) hlb']; exact rf _))))
  all_goals
    go_end0
    have hgk : KpB b B0 w w1 := ((hg'.alloc (.cells #[.int .u8 6, .string { data := #[59] }, .int .i64 (a : Int)] 50)).drewN 1).grown hgrow (fun j hj => .inr (ho'.lt j hj).1)
    have hR1 : Sc w1 b s a (.slice (some ⟨g, 0, none⟩) (n + 1) cap) := ((hR'.kept (World.grownBy_alloc wc (.cells #[.int .u8 6, .string { data := #[59] }, .int .i64 (a : Int)] 50) none) (by simp)).drewN 1).kept hgrow hlb'
    have hgg : gg ≠ b := by have := (hown1.lt gg rfl).1; omega
    refine EndPost.yes HE.out (hgk.set _ (.inl rfl)) (hR1.set2 _) ?_
    rw [cellsT_snoc, List.length_append, HDL.out]
    exact own_set hown1 (by simpa [Value.ownBlock] using hgg) 2 _
set_option maxRecDepth 100000 in
set_option maxHeartbeats 1000000 in
theorem end_sign_f {b B0 n g cap : Nat} {s : ByteArray} {a : Nat} {m : Int} {t : Tok} {d : List Tok} {w : World} (hd : d.length = n + 1) (hlast : d.getLast? = some t) (hok : okT t) (hr : Sc w b s a (.slice (some ⟨g, 0, none⟩) (n + 1) cap)) (hown : w.ownsRow B0 50 3 (.slice (some ⟨g, 0, none⟩) (n + 1) cap) (n + 1) (cellsT d)) (hn : n ≤ 1000000) (hbB : b < B0) (_hB : B0 ≤ w.heap.size) (hbm : 2 < b) (hk1 : t.kind = 6) (hv : decide (t.text ∈ ([[41], [93], [125]] : List (List UInt8))) = false)
    (hm : w.cell? ⟨2, 0, none⟩ = some (.int .i64 m)) :
    Calls Tryz.prog 20 #[.pointer (some ⟨b, 0, none⟩)] w (EndPost b B0 s a (.slice (some ⟨g, 0, none⟩) (n + 1) cap) d w) := by
  have ht : tk d n = t := by
    rw [List.getLast?_eq_getElem?, hd] at hlast
    unfold tk; rw [List.getD_eq_getElem?_getD]; simp at hlast; simp [hlast]
  have hg := cellsT_get d n (by omega)
  rw [ht] at hg
  have t0 : w.cell? ⟨g, n * 3, none⟩ = some (.int .u8 (t.kind : Int)) := by rw [hown.cellAt _ (by omega)]; exact hg.1
  have t1 : w.cell? ⟨g, n * 3 + 1, none⟩ = some (.string (bs t.text)) := by rw [hown.cellAt _ (by omega)]; exact hg.2.1
  have t2 : w.cell? ⟨g, n * 3 + 2, none⟩ = some (.int .i64 (t.at_ : Int)) := by rw [hown.cellAt _ (by omega)]; exact hg.2.2
  have c2 := hr.c2
  have j0 : (0 : Int) ≤ (n : Int) := by omega
  have j1 : (n : Int) < (n : Int) + 1 := by omega
  obtain ⟨i0, hi0, hz0, hz1, hz2⟩ := info_parts tokInfo
  have HDL := Lib.hid hd
  have hlb' : ¬ some b = (Value.slice (some ⟨g, 0, none⟩) (n + 1) cap).ownBlock := fun e => by have := (hown.lt b e.symm).1; omega
  have HE := Lib.hid (show endsS d.getLast? = false by rw [hlast]; simp only [endsS, hk1]; simpa using hv)
  clear hg ht hlast hd
  have hgl := World.block_lt_of_cell? w _ t0
  have hbl := hr.lt
  have x2 : ∀ o, (w.alloc o).cell? ⟨b, 2, none⟩ = some (.slice (some ⟨g, 0, none⟩) (n + 1) cap) := fun o => (World.cell?_alloc_past _ _ _ hbl).trans c2
  have x3 : ∀ o, (w.alloc o).cell? ⟨g, n * 3, none⟩ = some (.int .u8 (t.kind : Int)) := fun o => (World.cell?_alloc_past _ _ _ hgl).trans t0
  have x4 : ∀ o, (w.alloc o).cell? ⟨g, n * 3 + 1, none⟩ = some (.string (bs t.text)) := fun o => (World.cell?_alloc_past _ _ _ hgl).trans t1
  have x5 : ∀ o, (w.alloc o).cell? ⟨g, n * 3 + 2, none⟩ = some (.int .i64 (t.at_ : Int)) := fun o => (World.cell?_alloc_past _ _ _ hgl).trans t2
  have e1 : ((t.kind : Int) == 1) = false := by rw [hk1]; rfl
  have e6 : ((t.kind : Int) == 6) = true := by rw [hk1]; rfl
  have HS := Lib.hid (hok hk1)
  have HK := Lib.hid hk1; clear hk1
  have HV := Lib.hid hv; clear hv
  go_enter Tryz.func20, Tryz.ntmps20
  go_wp2
  go_region
  have hT : Tk (w.alloc (.cells #[.int .u8 (t.kind : Int), .string (bs t.text), .int .i64 (t.at_ : Int)] 50)).drew w.heap.size t.kind (bs t.text) t.at_ := heap_alloc_new w _
  have hR : Sc (w.alloc (.cells #[.int .u8 (t.kind : Int), .string (bs t.text), .int .i64 (t.at_ : Int)] 50)).drew b s a (.slice (some ⟨g, 0, none⟩) (n + 1) cap) := (hr.kept (World.grownBy_alloc w _ none) (by simp)).drewN 1
  have ho : (w.alloc (.cells #[.int .u8 (t.kind : Int), .string (bs t.text), .int .i64 (t.at_ : Int)] 50)).drew.ownsRow B0 50 3 (.slice (some ⟨g, 0, none⟩) (n + 1) cap) (n + 1) (cellsT d) := hown.alloc _
  have hk : KpB b B0 w (w.alloc (.cells #[.int .u8 (t.kind : Int), .string (bs t.text), .int .i64 (t.at_ : Int)] 50)).drew := ((KpB.refl b B0 w).alloc _).drewN 1
  have hm1 := hk.cell hm (by simp; omega) (by simp; omega)
  clear x2 x3 x4 x5 t0 t1 t2 c2 hr hown hm
  generalize (w.alloc (.cells #[.int .u8 (t.kind : Int), .string (bs t.text), .int .i64 (t.at_ : Int)] 50)).drew = W at *
  have t0 := hT.c0; have t1 := hT.c1
  have hTl := hT.lt
  have x1 : ∀ o, (W.alloc o).cell? ⟨w.heap.size, 1, none⟩ = some (.string (bs t.text)) := fun o => (World.cell?_alloc_past _ _ _ hTl).trans t1
  go_wp2_with (go_at_call 33; go_must (refine (contains_close HS.out HV.out hm1).mono ?_); rintro e w' ⟨rfl, rfl⟩)
  go_end0
  exact EndPost.no HE.out hk hR (by rw [HDL.out]; exact ho)
set_option maxRecDepth 100000 in
set_option maxHeartbeats 1000000 in
theorem end_other {b B0 n g cap : Nat} {s : ByteArray} {a : Nat} {m : Int} {t : Tok} {d : List Tok} {w : World} (hd : d.length = n + 1) (hlast : d.getLast? = some t) (_hok : okT t) (hr : Sc w b s a (.slice (some ⟨g, 0, none⟩) (n + 1) cap)) (hown : w.ownsRow B0 50 3 (.slice (some ⟨g, 0, none⟩) (n + 1) cap) (n + 1) (cellsT d)) (hn : n ≤ 1000000) (hbB : b < B0) (hB : B0 ≤ w.heap.size) (hbm : 2 < b) (hk1 : t.kind ≠ 1) (hk2 : t.kind ≠ 6)
    (hm : w.cell? ⟨2, 0, none⟩ = some (.int .i64 m)) :
    Calls Tryz.prog 20 #[.pointer (some ⟨b, 0, none⟩)] w (EndPost b B0 s a (.slice (some ⟨g, 0, none⟩) (n + 1) cap) d w) := by
  have ht : tk d n = t := by
    rw [List.getLast?_eq_getElem?, hd] at hlast
    unfold tk; rw [List.getD_eq_getElem?_getD]; simp at hlast; simp [hlast]
  have hg := cellsT_get d n (by omega)
  rw [ht] at hg
  have t0 : w.cell? ⟨g, n * 3, none⟩ = some (.int .u8 (t.kind : Int)) := by rw [hown.cellAt _ (by omega)]; exact hg.1
  have t1 : w.cell? ⟨g, n * 3 + 1, none⟩ = some (.string (bs t.text)) := by rw [hown.cellAt _ (by omega)]; exact hg.2.1
  have t2 : w.cell? ⟨g, n * 3 + 2, none⟩ = some (.int .i64 (t.at_ : Int)) := by rw [hown.cellAt _ (by omega)]; exact hg.2.2
  have c2 := hr.c2
  have j0 : (0 : Int) ≤ (n : Int) := by omega
  have j1 : (n : Int) < (n : Int) + 1 := by omega
  obtain ⟨i0, hi0, hz0, hz1, hz2⟩ := info_parts tokInfo
  have HDL := Lib.hid hd
  have hlb' : ¬ some b = (Value.slice (some ⟨g, 0, none⟩) (n + 1) cap).ownBlock := fun e => by have := (hown.lt b e.symm).1; omega
  have HE := Lib.hid (show endsS d.getLast? = true by rw [hlast]; simp [endsS, hk1, hk2])
  clear hg ht hlast hd
  have hgl := World.block_lt_of_cell? w _ t0
  have hbl := hr.lt
  have x2 : ∀ o, (w.alloc o).cell? ⟨b, 2, none⟩ = some (.slice (some ⟨g, 0, none⟩) (n + 1) cap) := fun o => (World.cell?_alloc_past _ _ _ hbl).trans c2
  have x3 : ∀ o, (w.alloc o).cell? ⟨g, n * 3, none⟩ = some (.int .u8 (t.kind : Int)) := fun o => (World.cell?_alloc_past _ _ _ hgl).trans t0
  have x4 : ∀ o, (w.alloc o).cell? ⟨g, n * 3 + 1, none⟩ = some (.string (bs t.text)) := fun o => (World.cell?_alloc_past _ _ _ hgl).trans t1
  have x5 : ∀ o, (w.alloc o).cell? ⟨g, n * 3 + 2, none⟩ = some (.int .i64 (t.at_ : Int)) := fun o => (World.cell?_alloc_past _ _ _ hgl).trans t2
  have e1 : ((t.kind : Int) == 1) = false := beq_eq_false_iff_ne.2 (by omega)
  have e6 : ((t.kind : Int) == 6) = false := beq_eq_false_iff_ne.2 (by omega)
  have HK := Lib.hid hk1; have HK2 := Lib.hid hk2; clear hk1 hk2
  go_enter Tryz.func20, Tryz.ntmps20
  go_wp2
  go_region
  have hT : Tk (w.alloc (.cells #[.int .u8 (t.kind : Int), .string (bs t.text), .int .i64 (t.at_ : Int)] 50)).drew w.heap.size t.kind (bs t.text) t.at_ := heap_alloc_new w _
  have hR : Sc (w.alloc (.cells #[.int .u8 (t.kind : Int), .string (bs t.text), .int .i64 (t.at_ : Int)] 50)).drew b s a (.slice (some ⟨g, 0, none⟩) (n + 1) cap) := (hr.kept (World.grownBy_alloc w _ none) (by simp)).drewN 1
  have ho : (w.alloc (.cells #[.int .u8 (t.kind : Int), .string (bs t.text), .int .i64 (t.at_ : Int)] 50)).drew.ownsRow B0 50 3 (.slice (some ⟨g, 0, none⟩) (n + 1) cap) (n + 1) (cellsT d) := hown.alloc _
  have hk : KpB b B0 w (w.alloc (.cells #[.int .u8 (t.kind : Int), .string (bs t.text), .int .i64 (t.at_ : Int)] 50)).drew := ((KpB.refl b B0 w).alloc _).drewN 1
  have hm1 := hk.cell hm (by simp; omega) (by simp; omega)
  clear x2 x3 x4 x5 t0 t1 t2 c2 hr hown hm
  generalize (w.alloc (.cells #[.int .u8 (t.kind : Int), .string (bs t.text), .int .i64 (t.at_ : Int)] 50)).drew = W at *
  have t0 := hT.c0; have t1 := hT.c1
  have hTl := hT.lt
  have x1 : ∀ o, (W.alloc o).cell? ⟨w.heap.size, 1, none⟩ = some (.string (bs t.text)) := fun o => (World.cell?_alloc_past _ _ _ hTl).trans t1
  go_wp2_with fail
  have hR' := hR; have ho' := ho; have hg' := hk
  have hsz' : B0 ≤ W.heap.size := by have := hk.size; omega
  clear t0 t1 x1 hTl hT hR ho hk hm1
  generalize W = wc at *
  have hbwc := hR'.lt
  have c2 := hR'.c2; have r2 := hR'.fr 2; have c1 := hR'.c1
  have rf : ∀ o, (wc.alloc o).frozen? ⟨b, 2, none⟩ = false := fun o => (World.frozen?_of_block (Below.heap_alloc wc o b hbwc)).trans r2
  have e2 : ∀ o, (wc.alloc o).cell? ⟨b, 2, none⟩ = some (.slice (some ⟨g, 0, none⟩) (n + 1) cap) := fun o => (World.cell?_alloc_past _ _ _ hbwc).trans c2
  have q1 : ∀ o, (wc.alloc o).cell? ⟨b, 1, none⟩ = some (.int .i64 (a : Int)) := fun o => (World.cell?_alloc_past _ _ _ hbwc).trans c1
  go_wp2_with fail
  go_region_law (((refine step_append_lies _ (by rfl) _ _ _ (by rfl) B0 50 i0 _ 3 32 Tryz.underlying23 hi0 hz0 hz1 hz2 rfl (by omega) (.slice (some ⟨g, 0, none⟩) (n + 1) cap) (n + 1) (cellsT d) (by rfl) ((ho'.alloc _).drew) ⟨wc.heap.size, 0, none⟩ 1 1 [.int .u8 6, .string { data := #[59] }, .int .i64 (a : Int)] (by rfl) (by rfl) (World.news_of_block (cs := #[.int .u8 6, .string { data := #[59] }, .int .i64 (a : Int)]) (t := 50) (fr := (0, 0)) (heap_alloc_new wc _)) (by simp [Value.oneCell']) (by omega) (by unfold maxLen; omega) (by omega) (by simp; omega) (wc.heap.size + 1) (by simp) ?_; intro gg cap1 w1 hown1 hgrow hat hlt; have c2' : w1.cell? ⟨b, 2, none⟩ = some (.slice (some ⟨g, 0, none⟩) (n + 1) cap) := (by rw [hgrow.cell_far _ (by simp; omega) hlb']; exact e2 _); have r2' : w1.frozen? ⟨b, 2, none⟩ = false := (by rw [hgrow.frozen_far _ (by simp; omega) hlb']; exact rf _))))
  all_goals
    go_end0
    have hgk : KpB b B0 w w1 := ((hg'.alloc (.cells #[.int .u8 6, .string { data := #[59] }, .int .i64 (a : Int)] 50)).drewN 1).grown hgrow (fun j hj => .inr (ho'.lt j hj).1)
    have hR1 : Sc w1 b s a (.slice (some ⟨g, 0, none⟩) (n + 1) cap) := ((hR'.kept (World.grownBy_alloc wc (.cells #[.int .u8 6, .string { data := #[59] }, .int .i64 (a : Int)] 50) none) (by simp)).drewN 1).kept hgrow hlb'
    have hgg : gg ≠ b := by have := (hown1.lt gg rfl).1; omega
    refine EndPost.yes HE.out (hgk.set _ (.inl rfl)) (hR1.set2 _) ?_
    rw [cellsT_snoc, List.length_append, HDL.out]
    exact own_set hown1 (by simpa [Value.ownBlock] using hgg) 2 _
end Go.Proofs.YtopbhopblpfjpaaGreatDoor.ScanI
