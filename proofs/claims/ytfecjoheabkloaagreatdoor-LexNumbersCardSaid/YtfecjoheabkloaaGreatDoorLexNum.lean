/- The closed law of the lexer, walked: it asks LexTells of many sources, and that says yes of each. -/
import Derived.Test.YtfecjoheabkloaaGreatDoorTells
namespace Go.Proofs.YtfecjoheabkloaaGreatDoor.LexNum
open Go.RowKit Go.Proofs.YtfecjoheabkloaaGreatDoor.Lexy Go.Proofs.YtfecjoheabkloaaGreatDoor.LexA Go.Proofs.YtfecjoheabkloaaGreatDoor.LexB Go.Proofs.YtfecjoheabkloaaGreatDoor.LexC Go.Proofs.YtfecjoheabkloaaGreatDoor.LexD Go.Proofs.YtfecjoheabkloaaGreatDoor.LexE Go.Proofs.YtfecjoheabkloaaGreatDoor.LexF Go.Proofs.YtfecjoheabkloaaGreatDoor.LexG Go.Proofs.YtfecjoheabkloaaGreatDoor.Heap

/-- the library's variable that the walk reads -/
def Ml (w : World) (m : Int) : Prop := w.cell? ⟨1, 0, none⟩ = some (.int .i64 m)
theorem Ml.at_ {w w' : World} {m : Int} (h : Ml w m) (hb : Below w.heap.size w w') : Ml w' m := (hb.cell (World.block_lt_of_cell? _ _ h)).trans h
theorem sz_lit (l : List UInt8) : (ByteArray.mk l.toArray).size = l.length := by simp [ByteArray.size]
theorem tells_at {w wr : World} {m : Int} {s : ByteArray} (hM : Ml w m) (hb : Below w.heap.size w wr) (hs : s.size ≤ 1000000) :
    Calls Tryz.prog 4 #[.string s] wr fun e w' => e = .returned (.bool true) ∧ Below w.heap.size w w' :=
  (Tells.tells_any (by omega) (hM.at_ hb)).mono fun _ _ h => ⟨h.1, hb.trans (h.2.mono hb.size)⟩
theorem awake_at {w wr : World} {m : Int} (hM : Ml w m) (hb : Below w.heap.size w wr) :
    Calls Tryz.prog 8 #[] wr fun e w' => e = .returned (.bool true) ∧ Below w.heap.size w w' :=
  (awake_any (hM.at_ hb)).mono fun _ _ h => ⟨h.1, hb.trans (h.2.mono hb.size)⟩
theorem tells_ext {W : World} {m : Int} {s : ByteArray} {x : Ext (Below W.heap.size W)} (hM : Ml W m) (hs : s.size ≤ 1000000) :
    Calls Tryz.prog 4 #[.string s] x.w fun e w'' => e = .returned (.bool true) ∧ ∃ y : Ext (Below W.heap.size W), w'' = y.w :=
  ext_call (tells_at hM x.i hs) fun _ h => h
theorem upper_at {w wr : World} {s : ByteArray} (hb : Below w.heap.size w wr) (hs : s.size ≤ 1000) (ha : ∀ (j : Nat) (b : UInt8), s.data.toList[j]? = some b → b.toNat < 128) :
    Calls Tryz.prog 6 #[.string s] wr fun e w' => ∃ X : ByteArray, e = .returned (.string X) ∧ X.size ≤ 1000 ∧ Below w.heap.size w w' :=
  (Tryz.strings_ToUpper_ascii s wr (by omega) ha).mono fun _ _ h => ⟨_, h.1, by rw [sz_lit]; simp [Lib.toUpperA]; exact hs, hb.trans (h.2.mono hb.size)⟩
theorem repeat_at {w wr : World} {c : UInt8} {n : Nat} {z : Int} (hb : Below w.heap.size w wr) (hn : n ≤ 100000) (hz : z = (n : Int)) :
    Calls Tryz.prog 7 #[.string { data := #[c] }, .int .i64 z] wr fun e w' => ∃ X : ByteArray, e = .returned (.string X) ∧ X.size ≤ 100000 ∧ Below w.heap.size w w' := by
  subst hz
  exact (Tryz.strings_Repeat { data := #[c] } n wr (by omega) (by show 1 * n ≤ _; omega)).mono fun _ _ h => ⟨_, h.1, by rw [sz_lit, Lib.repeatL_length]; show n * 1 ≤ _; omega, hb.trans (h.2.mono hb.size)⟩
theorem conv1 (w : World) (n : Int) : (convert 22 9 (.slice (some ⟨w.heap.size, 0, none⟩) 1 1)).run Tryz.prog (w.alloc (.cells #[.int .u8 n] 5)) = .ok (.string (Go.strOfNums [n])) (w.alloc (.cells #[.int .u8 n] 5)) := by
  refine run_convert_bytes_arg _ 22 5 Tryz.underlying22 Tryz.underlying5 w.heap.size 0 1 1 [n] rfl ?_ 9 Tryz.underlying9
  intro i hi
  obtain rfl : i = 0 := by omega
  exact cell_of_row (w.alloc (.cells #[.int .u8 n] 5)) w.heap.size 0 #[.int .u8 n] 5 (0, 0) (heap_alloc_new w _)
theorem str1_size (n : Int) : (Go.strOfNums [n]).size = 1 := by
  have := strOfNums_data [n]
  have h : (Go.strOfNums [n]).data.toList.length = 1 := by rw [this]; rfl
  simpa using h
/-- the words, in new memory -/
def wordsN : List (List UInt8) := wordsL ++ [[], [37], [116, 111, 107, 101, 110, 115], [117, 110, 105, 111, 110], [95], [112, 114, 101, 99, 49]]
def strC (l : List (List UInt8)) : List Value := l.map fun x => .string (bs x)
theorem words_o (w : World) :
    Calls Tryz.prog 5 #[] w fun e w' => e = .returned (.slice (some ⟨w.heap.size, 0, none⟩) 7 7) ∧ w'.ownsRow w.heap.size 9 1 (.slice (some ⟨w.heap.size, 0, none⟩) 7 7) 7 (strC wordsL) ∧ Below w.heap.size w w' := by
  go_enter Tryz.func5, Tryz.ntmps5
  go_wp2
  go_ret
  exact ⟨rfl, World.ownsRow_lit w (strC wordsL).toArray 7 (Nat.le_refl _) (by decide) rfl, (Below.refl _ _).alloc (Nat.le_refl _) _⟩
theorem words_fine : ∀ x ∈ wordsN, x.length ≤ 20 ∧ ∀ b ∈ x, b.toNat < 128 := by decide
theorem word_at {i : Nat} (h : i < 13) : ∃ x, (strC wordsL ++ strC [[], [37], [116, 111, 107, 101, 110, 115], [117, 110, 105, 111, 110], [95], [112, 114, 101, 99, 49]])[i]? = some (.string (bs x)) ∧ x ∈ wordsN := by
  have e : strC wordsL ++ strC [[], [37], [116, 111, 107, 101, 110, 115], [117, 110, 105, 111, 110], [95], [112, 114, 101, 99, 49]] = strC wordsN := by simp [strC, wordsN]
  have hl : i < wordsN.length := h
  refine ⟨wordsN[i], ?_, List.getElem_mem hl⟩
  rw [e, strC, List.getElem?_map, List.getElem?_eq_getElem hl]; rfl
theorem strInfo : (Tryz.prog.info? 9).map (fun i => (i.zero, i.size, i.bytes)) = some (some (.string { data := #[] }), 1, 16) := by kernel_rfl

def l13 (B : ByteArray) : Array Value := #[.string B, .string ({ data := #[97] } ++ B), .string ({ data := #[49] } ++ B), .string ({ data := #[37] } ++ B), .string ({ data := #[37, 37] } ++ B), .string ({ data := #[37, 116, 111, 107, 101, 110] } ++ B), .string ({ data := #[123] } ++ B ++ { data := #[125] }), .string ({ data := #[123, 34] } ++ B ++ { data := #[34, 125] }), .string ({ data := #[123, 34, 92] } ++ B ++ { data := #[34, 125] }), .string ({ data := #[123, 47] } ++ B ++ { data := #[125] }), .string ({ data := #[47, 47, 32] } ++ B ++ { data := #[10] } ++ B), .string ({ data := #[47] } ++ B), .string ({ data := #[97, 123, 125] } ++ B ++ { data := #[123, 123, 125, 125] })]
theorem l13_at {B : ByteArray} (hB : B.size = 1) {i : Nat} (h : i < 13) : ∃ X : ByteArray, (l13 B)[i]? = some (.string X) ∧ X.size ≤ 1000 := by
  rcases (show i = 0 ∨ i = 1 ∨ i = 2 ∨ i = 3 ∨ i = 4 ∨ i = 5 ∨ i = 6 ∨ i = 7 ∨ i = 8 ∨ i = 9 ∨ i = 10 ∨ i = 11 ∨ i = 12 by omega) with rfl | rfl | rfl | rfl | rfl | rfl | rfl | rfl | rfl | rfl | rfl | rfl | rfl
  all_goals exact ⟨_, rfl, by (try simp only [ByteArray.size_append, sz_lit, List.length_cons, List.length_nil]); omega⟩
theorem l13_cells (w : World) (o : Obj) (B : ByteArray) (T : TypeId) {i : Nat} {v : Value} (h : (l13 B)[i]? = some v) : ((w.alloc o).alloc (.cells (l13 B) T)).cell? ⟨w.heap.size + 1, i, none⟩ = some v := by
  have := heap_alloc_new (w.alloc o) (.cells (l13 B) T)
  have e : (w.alloc o).heap.size = w.heap.size + 1 := by simp
  rw [e] at this
  rw [cell_of_row _ _ i _ _ (0, 0) this]; exact h
set_option maxRecDepth 100000 in
set_option maxHeartbeats 16000000 in
theorem numbers_any {w : World} {m : Int} (hM : Ml w m) :
    Calls Tryz.prog 3 #[] w fun e w' => e = .returned (.bool true) ∧ Below w.heap.size w w' := by
  obtain ⟨si, hi0, hz0, hz1, hz2⟩ := info_parts strInfo
  have HMw := Lib.hid hM; clear hM
  go_enter Tryz.func3, Tryz.ntmps3
  go_wp2
  go_loopg [1] 256 (fun gk t1 wr => ∃ k : Nat, k ≤ 256 ∧ gk = 256 - k ∧ t1 = .int .i64 (k : Int) ∧ Below w.heap.size w wr)
  case atStart => exact ⟨0, by omega, by omega, rfl, Below.refl _ _⟩
  case round =>
    obtain ⟨k, hk, rfl, rfl, hb⟩ := hrel
    obtain ⟨wo, rfl⟩ : ∃ wo : World, wo = wr := ⟨_, rfl⟩
    by_cases hlt : k < 256
    case pos =>
      have j0 : (0 : Int) ≤ (k : Int) := by omega
      have j1 : (k : Int) < 256 := by omega
      obtain ⟨B, hB⟩ : ∃ B, Go.strOfNums [(k : Int)] = B := ⟨_, rfl⟩
      have hc1 := conv1 wo (k : Int)
      rw [hB] at hc1
      have hBs : B.size = 1 := by rw [← hB]; exact str1_size _
      clear hB
      go_wp2
      have hcell : ∀ i, i < 13 → ∃ X : ByteArray, ((wo.alloc (.cells #[.int .u8 (k : Int)] 5)).alloc (.cells (l13 B) 9)).cell? ⟨wo.heap.size + 1, i, none⟩ = some (.string X) ∧ X.size ≤ 1000 := fun i hi => by
        obtain ⟨X, h1, h2⟩ := l13_at hBs hi
        exact ⟨X, l13_cells _ _ _ _ h1, h2⟩
      have hbW : Below w.heap.size w ((wo.alloc (.cells #[.int .u8 (k : Int)] 5)).alloc (.cells (l13 B) 9)) := (hb.alloc hb.size _).alloc (by have := hb.size; simp; omega) _
      clear hc1 hBs hb
      unfold l13 at hcell hbW
      generalize ((wo.alloc (.cells #[.int .u8 (k : Int)] 5)).alloc (.cells #[.string B, .string ({ data := #[97] } ++ B), .string ({ data := #[49] } ++ B), .string ({ data := #[37] } ++ B), .string ({ data := #[37, 37] } ++ B), .string ({ data := #[37, 116, 111, 107, 101, 110] } ++ B), .string ({ data := #[123] } ++ B ++ { data := #[125] }), .string ({ data := #[123, 34] } ++ B ++ { data := #[34, 125] }), .string ({ data := #[123, 34, 92] } ++ B ++ { data := #[34, 125] }), .string ({ data := #[123, 47] } ++ B ++ { data := #[125] }), .string ({ data := #[47, 47, 32] } ++ B ++ { data := #[10] } ++ B), .string ({ data := #[47] } ++ B), .string ({ data := #[97, 123, 125] } ++ B ++ { data := #[123, 123, 125, 125] })] 9)) = W at *
      generalize wo.heap.size + 1 = L at *
      have HC := Lib.hid hcell; clear hcell
      have HM2 := Lib.hid (HMw.out.at_ hbW)
      go_loopg [4] 13 (fun gk t4 w2 => ∃ i : Nat, i ≤ 13 ∧ gk = 13 - i ∧ t4 = .int .i64 (i : Int) ∧ Below W.heap.size W w2)
      case atStart => exact ⟨0, by omega, by omega, rfl, Below.refl _ _⟩
      case round =>
        obtain ⟨i, hi, rfl, rfl, hb2⟩ := hrel
        by_cases hli : i < 13
        case pos =>
          have i0 : (0 : Int) ≤ (i : Int) := by omega
          have i1 : (i : Int) < 13 := by omega
          obtain ⟨X, hX, hXs⟩ := HC.out i hli
          have hX2 := (hb2.cell (World.block_lt_of_cell? _ _ hX)).trans hX
          clear hX
          go_wp2_with (go_at_call 4; go_must (refine (tells_at HM2.out hb2 (by (try simp only [ByteArray.size_append, sz_lit, List.length_cons, List.length_nil]); omega)).mono ?_); rintro e wt ⟨rfl, hb2⟩)
          go_roundg (13 - (i + 1))
          case measure => omega
          case rel => exact ⟨i + 1, by omega, rfl, by go_num, hb2⟩
        case neg =>
          obtain rfl : i = 13 := by omega
          go_wp2
          go_roundg (256 - (k + 1))
          case measure => omega
          case rel => exact ⟨k + 1, by omega, rfl, by go_num, hbW.trans (hb2.mono hbW.size)⟩
    case neg =>
      obtain rfl : k = 256 := by omega
      have HM3 := Lib.hid (HMw.out.at_ hb)
      have hs6 : ∀ u ∈ strC [[], [37], [116, 111, 107, 101, 110, 115], [117, 110, 105, 111, 110], [95], [112, 114, 101, 99, 49]], u.oneCell' = true := by decide
      go_wp2_with (first | (go_at_call 5; go_must (refine (words_o _).mono ?_); rintro e w1 ⟨rfl, ho1, hb1⟩; have hb3 := hb.trans (hb1.mono hb.size); have hz1' := hb1.size) | (at_builtin; go_must (refine wpList_append_lies _ rfl _ _ _ rfl wo.heap.size 9 si _ 1 16 Tryz.underlying23 hi0 hz0 hz1 hz2 rfl (by omega) (.slice (some ⟨wo.heap.size, 0, none⟩) 7 7) 7 (strC wordsL) rfl (ho1.alloc _) ⟨w1.heap.size, 0, none⟩ 6 6 (strC [[], [37], [116, 111, 107, 101, 110, 115], [117, 110, 105, 111, 110], [95], [112, 114, 101, 99, 49]]) rfl rfl (World.news_of_block (cs := (strC [[], [37], [116, 111, 107, 101, 110, 115], [117, 110, 105, 111, 110], [95], [112, 114, 101, 99, 49]]).toArray) (t := 9) (fr := (0, 0)) (heap_alloc_new w1 _)) hs6 (by omega) (by unfold maxLen; omega) (by omega) (by simp; omega) (w1.heap.size + 1) (by simp) ?_); intro g cap w4 ho4 hg4 hat hlt4))
      have hb4 : Below w.heap.size w w4 := (hb3.alloc hb3.size (.cells (strC [[], [37], [116, 111, 107, 101, 110, 115], [117, 110, 105, 111, 110], [95], [112, 114, 101, 99, 49]]).toArray 9)).grown hg4 (by have := hb3.size; simp; omega) (fun j hj => by have := hb.size; have := (ho1.lt _ hj).1; omega)
      have hcell : ∀ i, i < 13 → ∃ x : List UInt8, w4.cell? ⟨g, i, none⟩ = some (.string (bs x)) ∧ x ∈ wordsN := fun i hi => by
        obtain ⟨x, h1, h2⟩ := word_at hi
        exact ⟨x, by rw [ho4.cellAt i (by omega)]; exact h1, h2⟩
      have HC := Lib.hid hcell
      have HM4 := Lib.hid (HMw.out.at_ hb4)
      clear hcell ho4 hg4 hat hlt4 ho1 hb1 hb3 hs6
      go_loopg [6] 13 (fun gk t6 w2 => ∃ i : Nat, i ≤ 13 ∧ gk = 13 - i ∧ t6 = .int .i64 (i : Int) ∧ Below w4.heap.size w4 w2)
      case atStart => exact ⟨0, by omega, by omega, rfl, Below.refl _ _⟩
      case round =>
        obtain ⟨i, hi, rfl, rfl, hb2⟩ := hrel
        by_cases hli : i < 13
        case pos =>
          have i0 : (0 : Int) ≤ (i : Int) := by omega
          have i1 : (i : Int) < 13 := by omega
          obtain ⟨x, hx, hxm⟩ := HC.out i hli
          obtain ⟨hx1, hx2⟩ := words_fine x hxm
          have hX2 := (hb2.cell (World.block_lt_of_cell? _ _ hx)).trans hx
          obtain ⟨X, hX⟩ : ∃ X, bs x = X := ⟨_, rfl⟩
          have hXs : X.size ≤ 20 := by rw [← hX]; unfold bs; rw [sz_lit]; exact hx1
          have HA := Lib.hid (show ∀ (j : Nat) (b : UInt8), X.data.toList[j]? = some b → b.toNat < 128 from fun j b hb => hx2 b (by rw [← hX] at hb; exact List.mem_of_getElem? (by simpa [bs] using hb)))
          rw [hX] at hX2
          have j2 : (0 : Int) ≤ (X.size : Int) / 2 := by omega
          have j3 : (X.size : Int) / 2 ≤ (X.size : Int) := by omega
          have j4 : ((X.size : Int) / 2).toNat = X.size / 2 := by omega
          clear hx hxm hx1 hx2 hX
          go_wp2_with (first | (go_at_call 6; go_must (refine (upper_at hb2 (by omega) HA.out).mono ?_); rintro e wt ⟨Y, rfl, hY, hb2⟩) | (go_at_call 4; go_must (refine (tells_at HM4.out hb2 (by (try simp only [ByteArray.size_append, ByteArray.size_extract, sz_lit, List.length_cons, List.length_nil]); omega)).mono ?_); rintro e wt ⟨rfl, hb2⟩))
          go_roundg (13 - (i + 1))
          case measure => omega
          case rel => exact ⟨i + 1, by omega, rfl, by go_num, hb2⟩
        case neg =>
          obtain rfl : i = 13 := by omega
          obtain ⟨wp, rfl⟩ : ∃ wp : World, wp = wr := ⟨_, rfl⟩
          have hb5 := hb4.trans (hb2.mono hb4.size)
          have HM5 := Lib.hid (HMw.out.at_ hb5)
          clear hb2 HC
          go_wp2
          obtain ⟨A, hA⟩ : ∃ A : ByteArray, { data := #[97, 32, 123, 32, 120, 40, 34, 123, 92, 34, 125, 34, 41, 32, 47, 47, 32, 125, 34, 10, 32, 123, 32, 121, 32, 125, 32, 47, 32, 123, 32, 34, 34, 32, 125, 32, 125, 32, 98] } = A := ⟨_, rfl⟩
          have hAs : A.size = 39 := by rw [← hA]; rfl
          rw [hA]
          have HAS := Lib.hid hAs; clear hA hAs
          go_loopg [9] 40 (fun gk t9 w2 => ∃ i : Nat, i ≤ 40 ∧ gk = 40 - i ∧ t9 = .int .i64 (i : Int) ∧ Below wp.heap.size wp w2)
          case atStart => exact ⟨0, by omega, by omega, rfl, Below.refl _ _⟩
          case round =>
            obtain ⟨i, hi, rfl, rfl, hb2⟩ := hrel
            have hsA := HAS.out
            by_cases hli : i ≤ 39
            case pos =>
              have i0 : (0 : Int) ≤ (i : Int) := by omega
              have i1 : (i : Int) ≤ (A.size : Int) := by omega
              have i2 : A.size ≤ 100 := by omega
              clear hsA
              go_wp2
              refine wp_region_ext (Below wp.heap.size wp) hb2.drew (by kernel_rfl) (by kernel_rfl) ?_
              repeat (go_big_quiet_step ((go_at_call 4; exact tells_ext HM5.out (by (try simp only [ByteArray.size_append, ByteArray.size_extract, sz_lit, List.length_cons, List.length_nil]); omega))))
              refine wpQuiet_nil ?_
              intro _ hw'
              obtain ⟨x, hw''⟩ := hw'
              subst hw''
              go_wp2
              go_roundg (40 - (i + 1))
              case measure => omega
              case rel => exact ⟨i + 1, by omega, rfl, by go_num, x.i⟩
            case neg =>
              have i1 : ¬ ((i : Int) ≤ (A.size : Int)) := by omega
              obtain ⟨wq, rfl⟩ : ∃ wq : World, wq = wr := ⟨_, rfl⟩
              have hb6 := hb5.trans (hb2.mono hb5.size)
              have HM6 := Lib.hid (HMw.out.at_ hb6)
              clear hb2 hsA
              go_wp2
              go_loopg [10] 3 (fun gk t10 w2 => ∃ n : Nat, 39 ≤ n ∧ n ≤ 42 ∧ gk = 42 - n ∧ t10 = .int .i64 (n : Int) ∧ Below wq.heap.size wq w2)
              case atStart => exact ⟨39, by omega, by omega, rfl, rfl, Below.refl _ _⟩
              case round =>
                obtain ⟨n, hn1, hn2, rfl, rfl, hb2⟩ := hrel
                by_cases hln : n < 42
                case pos =>
                  have n1 : (n : Int) < 42 := by omega
                  go_wp2_with (first | (go_at_call 7; go_must (refine (repeat_at (c := 97) (n := n) hb2 (by omega) rfl).mono ?_); rintro e wt ⟨Y, rfl, hY, hb2⟩) | (go_at_call 4; go_must (refine (tells_at HM6.out hb2 (by (try simp only [ByteArray.size_append, ByteArray.size_extract, sz_lit, List.length_cons, List.length_nil]); omega)).mono ?_); rintro e wt ⟨rfl, hb2⟩))
                  go_roundg (42 - (n + 1))
                  case measure => omega
                  case rel => exact ⟨n + 1, by omega, by omega, rfl, by go_num, hb2⟩
                case neg =>
                  obtain rfl : n = 42 := by omega
                  go_wp2_with (first | (go_at_call 7; go_must (refine (repeat_at (c := 32) (n := 65534) hb2 (by omega) rfl).mono ?_); rintro e wt ⟨Y, rfl, hY, hb2⟩) | (go_at_call 4; go_must (refine (tells_at HM6.out hb2 (by (try simp only [ByteArray.size_append, ByteArray.size_extract, sz_lit, List.length_cons, List.length_nil]); omega)).mono ?_); rintro e wt ⟨rfl, hb2⟩) | (go_at_call 8; go_must (refine (awake_at HM6.out hb2).mono ?_); rintro e wt ⟨rfl, hb2⟩))
                  go_ret
                  exact ⟨rfl, hb6.trans (hb2.mono hb6.size)⟩
end Go.Proofs.YtfecjoheabkloaaGreatDoor.LexNum
