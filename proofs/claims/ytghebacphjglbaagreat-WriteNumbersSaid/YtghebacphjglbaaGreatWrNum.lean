/- The closed law of the writer, walked: it asks WriteTells of many texts, and that says yes of each. -/
import Derived.Test.YtghebacphjglbaaGreatRwT
import Derived.Test.YtghebacphjglbaaGreatShelf
import Derived.Test.YtghebacphjglbaaGreatM2
import Derived.Test.YtghebacphjglbaaGreatM12
import Derived.Test.YtghebacphjglbaaGreatM13
import Derived.Test.YtghebacphjglbaaGreatM14
namespace Go.Proofs.YtghebacphjglbaaGreat.WrNum
open Go Go.RowKit Go.Proofs.YtghebacphjglbaaGreat.Lexy Go.Proofs.YtghebacphjglbaaGreat.LexA Go.Proofs.YtghebacphjglbaaGreat.LexB Go.Proofs.YtghebacphjglbaaGreat.LexC Go.Proofs.YtghebacphjglbaaGreat.LexD Go.Proofs.YtghebacphjglbaaGreat.LexE Go.Proofs.YtghebacphjglbaaGreat.LexF Go.Proofs.YtghebacphjglbaaGreat.LexG Go.Proofs.YtghebacphjglbaaGreat.Heap Go.Proofs.YtghebacphjglbaaGreat.Dat Go.Proofs.YtghebacphjglbaaGreat.Ready Go.Proofs.YtghebacphjglbaaGreat.ReadA Go.Proofs.YtghebacphjglbaaGreat.ReadC Go.Proofs.YtghebacphjglbaaGreat.ReadH Go.Proofs.YtghebacphjglbaaGreat.ReadI Go.Proofs.YtghebacphjglbaaGreat.ReadM Go.Proofs.YtghebacphjglbaaGreat.ReadO Go.Proofs.YtghebacphjglbaaGreat.Same Go.Proofs.YtghebacphjglbaaGreat.Cut Go.Proofs.YtghebacphjglbaaGreat.WrO Go.Proofs.YtghebacphjglbaaGreat.WrK Go.Proofs.YtghebacphjglbaaGreat.Law12A Go.Proofs.YtghebacphjglbaaGreat.BentB

/-- the library's variable that the walk reads -/
def Ml (w : World) (m : Int) : Prop := w.cell? ⟨0, 0, none⟩ = some (.int .i64 m)
theorem Ml.at_ {w w' : World} {m : Int} (h : Ml w m) (hb : Below w.heap.size w w') : Ml w' m := (hb.cell (World.block_lt_of_cell? _ _ h)).trans h
theorem bent_any {n : Nat} (hn : n < 15) {w : World} {sd sr : Value} {s : List UInt8} (hD : Reads w (.row 62 4 smallT.decls.length (desD smallT.decls)) sd) (hR : Reads w (.row 38 4 smallT.rules.length (rusD smallT.rules)) sr) (hs : s.length ≤ 100) :
    Calls Tryz.prog 6 #[.agg #[sd, sr], .int .i64 (n : Int), .string (bs s)] w (BentQ w) := by
  rcases (show n = 0 ∨ n = 1 ∨ n = 2 ∨ n = 3 ∨ n = 4 ∨ n = 5 ∨ n = 6 ∨ n = 7 ∨ n = 8 ∨ n = 9 ∨ n = 10 ∨ n = 11 ∨ n = 12 ∨ n = 13 ∨ n = 14 by omega) with rfl | rfl | rfl | rfl | rfl | rfl | rfl | rfl | rfl | rfl | rfl | rfl | rfl | rfl | rfl
  · exact BentC1.bent_0 hD hR hs
  · exact BentC1.bent_1 hD hR hs
  · exact BentC1.bent_2 hD hR hs
  · exact BentC2.bent_3 hD hR hs
  · exact BentC2.bent_4 hD hR hs
  · exact BentC2.bent_5 hD hR hs
  · exact BentC6.bent_6 hD hR hs
  · exact BentC3.bent_7 hD hR hs
  · exact BentC3.bent_8 hD hR hs
  · exact BentC3.bent_9 hD hR hs
  · exact BentC4.bent_10 hD hR hs
  · exact BentC4.bent_11 hD hR hs
  · exact BentC5.bent_12 hD hR hs
  · exact BentC7.bent_13 hD hR hs
  · exact BentC5.bent_14 hD hR hs
theorem repeat_s (w : World) (z : Int) (hz' : z = 40 ∨ z = 41) :
    Calls Tryz.prog 4 #[.string { data := #[97] }, .int .i64 z] w fun e w' => ∃ s : List UInt8, e = .returned (.string (bs s)) ∧ s.length ≤ 100 ∧ Below w.heap.size w w' := by
  obtain ⟨n, hn, rfl⟩ : ∃ n : Nat, n ≤ 100 ∧ z = (n : Int) := by
    rcases hz' with rfl | rfl
    · exact ⟨40, by omega, rfl⟩
    · exact ⟨41, by omega, rfl⟩
  exact (Tryz.strings_Repeat { data := #[97] } n w (by omega) (by show 1 * n ≤ _; omega)).mono fun _ _ h => ⟨_, h.1, by rw [Lib.repeatL_length]; show n * 1 ≤ _; omega, h.2⟩
/-- the texts that are put in -/
def texts (a b : List UInt8) : List (List UInt8) := [[], [97], [95], [97, 49], [49], [97, 32, 98], [97, 45], [37, 97], [123], [125], [123, 125], [125, 123], [34], [34, 125, 34], [47, 47, 32], [47, 47, 32, 10], [47], [255], [116, 111, 107, 101, 110], [116, 121, 112, 101], [108, 101, 102, 116], [114, 105, 103, 104, 116], [110, 111, 110, 97, 115, 115, 111, 99], [115, 116, 97, 114, 116], [112, 114, 101, 99], a, b]
theorem texts_le {a b : List UInt8} (ha : a.length ≤ 100) (hb : b.length ≤ 100) : ∀ s ∈ texts a b, s.length ≤ 100 := by
  intro s hs
  simp only [texts, List.mem_cons, List.not_mem_nil, or_false] at hs
  rcases hs with rfl | rfl | rfl | rfl | rfl | rfl | rfl | rfl | rfl | rfl | rfl | rfl | rfl | rfl | rfl | rfl | rfl | rfl | rfl | rfl | rfl | rfl | rfl | rfl | rfl | rfl | rfl <;> first | assumption | decide
theorem texts_at {a b : List UInt8} {w : World} {T : Nat} {cs : Array Value} (hcs : cs.toList = (texts a b).map fun x => .string (bs x)) (h : w.heap[T]? = some (.cells cs 9 (0, 0))) {i : Nat} (hi : i < 27) (ha : a.length ≤ 100) (hb : b.length ≤ 100) : ∃ s : List UInt8, w.cell? ⟨T, i, none⟩ = some (.string (bs s)) ∧ s.length ≤ 100 := by
  have hl : i < (texts a b).length := hi
  refine ⟨(texts a b)[i], ?_, texts_le ha hb _ (List.getElem_mem hl)⟩
  rw [cell_of_row w T i cs _ (0, 0) h, ← Array.getElem?_toList, hcs, List.getElem?_map, List.getElem?_eq_getElem hl]; rfl
/-- a word in so many others -/
def nestW : Nat → Wd
  | 0 => .mk [98] [] 0
  | n + 1 => .mk [97] [nestW n, .mk [99] [] 0] 0
theorem nest_big : ∀ n, bigW (nestW n)
  | 0 => bw_of (by decide) (by decide) (fa0 _)
  | n + 1 => bw_of (by decide) (by simp [Lim]) (fa2 (nest_big n) (bw_of (by decide) (by decide) (fa0 _)))
def headW : Wd → List UInt8
  | .mk n _ _ => n
def argsW : Wd → List Wd
  | .mk _ l _ => l
theorem nest_eta : ∀ n, nestW n = .mk (headW (nestW n)) (argsW (nestW n)) 0
  | 0 => rfl
  | _ + 1 => rfl
/-- read in each world that is the same but for one block -/
def RX (w : World) (G : Nat) (d : Dat) (v : Value) : Prop := ∀ w' : World, (∀ b, b < w.heap.size → b ≠ G → w'.heap[b]? = w.heap[b]?) → Reads w' d v
theorem RX.keep {w w2 : World} {G : Nat} {d : Dat} {v : Value} (h : RX w G d v) (hs : w.heap.size ≤ w2.heap.size) (hk : ∀ b, b < w.heap.size → b ≠ G → w2.heap[b]? = w.heap[b]?) : RX w2 G d v :=
  fun w' hw' => h w' fun b hb hne => (hw' b (by omega) hne).trans (hk b hb hne)
/-- what the loop of words keeps: the block of the word, and its arguments elsewhere -/
structure NestI (W wr : World) (G i : Nat) : Prop where
  box : ∃ v, wr.heap[G]? = some (.cells #[.string (bs (headW (nestW i))), v, .int .i64 0] 33 (0, 0)) ∧ RX wr G (.row 33 3 (argsW (nestW i)).length (wdsD (argsW (nestW i)))) v
  below : Below G W wr
set_option maxRecDepth 100000 in
set_option maxHeartbeats 16000000 in
theorem numbers_any {w : World} {m : Int} (hM : Ml w m) :
    Calls Tryz.prog 3 #[] w fun e w' => e = .returned (.bool true) ∧ Below w.heap.size w w' := by
  have HTE := Lib.hid (fun (u : World) (x : Tx) (sd sr : Value) (hu : Below w.heap.size w u) (hb : bigT x) (h1 : Reads u (.row 62 4 x.decls.length (desD x.decls)) sd) (h2 : Reads u (.row 38 4 x.rules.length (rusD x.rules)) sr) => RwT.tells_any (hM.at_ hu) hb h1 h2)
  have HAW := Lib.hid (fun (u : World) (hu : Below w.heap.size w u) => Law12A.awake_any (hM.at_ hu))
  clear hM
  go_enter Tryz.func3, Tryz.ntmps3
  have HR1 := Lib.hid (repeat_s w 40 (.inl rfl))
  go_upto_region 1 with fail
  go_upto_region 2 with (first
    | (go_at_call 4; refine (HR1.out).mono ?_; rintro e w1 ⟨sa, rfl, ha, hb1⟩; have HB1 := Lib.hid hb1; have HR2 := Lib.hid (repeat_s w1 41 (.inr rfl)); clear hb1 HR1)
    | (go_at_call 4; refine (HR2.out).mono ?_; rintro e w2 ⟨sb, rfl, hb, hb2⟩; have HB2 := Lib.hid hb2; clear hb2 HR2))
  have hT := heap_alloc_new w2 (.cells #[.string { data := #[] }, .string { data := #[97] }, .string { data := #[95] }, .string { data := #[97, 49] }, .string { data := #[49] }, .string { data := #[97, 32, 98] }, .string { data := #[97, 45] }, .string { data := #[37, 97] }, .string { data := #[123] }, .string { data := #[125] }, .string { data := #[123, 125] }, .string { data := #[125, 123] }, .string { data := #[34] }, .string { data := #[34, 125, 34] }, .string { data := #[47, 47, 32] }, .string { data := #[47, 47, 32, 10] }, .string { data := #[47] }, .string { data := #[255] }, .string { data := #[116, 111, 107, 101, 110] }, .string { data := #[116, 121, 112, 101] }, .string { data := #[108, 101, 102, 116] }, .string { data := #[114, 105, 103, 104, 116] }, .string { data := #[110, 111, 110, 97, 115, 115, 111, 99] }, .string { data := #[115, 116, 97, 114, 116] }, .string { data := #[112, 114, 101, 99] }, .string (bs sa), .string (bs sb)] 9)
  have hBW := (HB1.out.trans (HB2.out.mono HB1.out.size)).alloc (Below.size (HB1.out.trans (HB2.out.mono HB1.out.size))) (.cells #[.string { data := #[] }, .string { data := #[97] }, .string { data := #[95] }, .string { data := #[97, 49] }, .string { data := #[49] }, .string { data := #[97, 32, 98] }, .string { data := #[97, 45] }, .string { data := #[37, 97] }, .string { data := #[123] }, .string { data := #[125] }, .string { data := #[123, 125] }, .string { data := #[125, 123] }, .string { data := #[34] }, .string { data := #[34, 125, 34] }, .string { data := #[47, 47, 32] }, .string { data := #[47, 47, 32, 10] }, .string { data := #[47] }, .string { data := #[255] }, .string { data := #[116, 111, 107, 101, 110] }, .string { data := #[116, 121, 112, 101] }, .string { data := #[108, 101, 102, 116] }, .string { data := #[114, 105, 103, 104, 116] }, .string { data := #[110, 111, 110, 97, 115, 115, 111, 99] }, .string { data := #[115, 116, 97, 114, 116] }, .string { data := #[112, 114, 101, 99] }, .string (bs sa), .string (bs sb)] 9)
  have hTl : w2.heap.size < (w2.alloc (.cells #[.string { data := #[] }, .string { data := #[97] }, .string { data := #[95] }, .string { data := #[97, 49] }, .string { data := #[49] }, .string { data := #[97, 32, 98] }, .string { data := #[97, 45] }, .string { data := #[37, 97] }, .string { data := #[123] }, .string { data := #[125] }, .string { data := #[123, 125] }, .string { data := #[125, 123] }, .string { data := #[34] }, .string { data := #[34, 125, 34] }, .string { data := #[47, 47, 32] }, .string { data := #[47, 47, 32, 10] }, .string { data := #[47] }, .string { data := #[255] }, .string { data := #[116, 111, 107, 101, 110] }, .string { data := #[116, 121, 112, 101] }, .string { data := #[108, 101, 102, 116] }, .string { data := #[114, 105, 103, 104, 116] }, .string { data := #[110, 111, 110, 97, 115, 115, 111, 99] }, .string { data := #[115, 116, 97, 114, 116] }, .string { data := #[112, 114, 101, 99] }, .string (bs sa), .string (bs sb)] 9)).heap.size := by simp
  have HTX := Lib.hid (fun (u : World) (hu : u.heap[w2.heap.size]? = some (.cells #[.string { data := #[] }, .string { data := #[97] }, .string { data := #[95] }, .string { data := #[97, 49] }, .string { data := #[49] }, .string { data := #[97, 32, 98] }, .string { data := #[97, 45] }, .string { data := #[37, 97] }, .string { data := #[123] }, .string { data := #[125] }, .string { data := #[123, 125] }, .string { data := #[125, 123] }, .string { data := #[34] }, .string { data := #[34, 125, 34] }, .string { data := #[47, 47, 32] }, .string { data := #[47, 47, 32, 10] }, .string { data := #[47] }, .string { data := #[255] }, .string { data := #[116, 111, 107, 101, 110] }, .string { data := #[116, 121, 112, 101] }, .string { data := #[108, 101, 102, 116] }, .string { data := #[114, 105, 103, 104, 116] }, .string { data := #[110, 111, 110, 97, 115, 115, 111, 99] }, .string { data := #[115, 116, 97, 114, 116] }, .string { data := #[112, 114, 101, 99] }, .string (bs sa), .string (bs sb)] 9 (0, 0))) (i : Nat) (hi : i < 27) => texts_at (a := sa) (b := sb) (w := u) (T := w2.heap.size) rfl hu hi ha hb)
  have HTB := Lib.hid hT; have HBW := Lib.hid hBW
  clear hT hBW ha hb HB1 HB2
  generalize w2.alloc (.cells #[.string { data := #[] }, .string { data := #[97] }, .string { data := #[95] }, .string { data := #[97, 49] }, .string { data := #[49] }, .string { data := #[97, 32, 98] }, .string { data := #[97, 45] }, .string { data := #[37, 97] }, .string { data := #[123] }, .string { data := #[125] }, .string { data := #[123, 125] }, .string { data := #[125, 123] }, .string { data := #[34] }, .string { data := #[34, 125, 34] }, .string { data := #[47, 47, 32] }, .string { data := #[47, 47, 32, 10] }, .string { data := #[47] }, .string { data := #[255] }, .string { data := #[116, 111, 107, 101, 110] }, .string { data := #[116, 121, 112, 101] }, .string { data := #[108, 101, 102, 116] }, .string { data := #[114, 105, 103, 104, 116] }, .string { data := #[110, 111, 110, 97, 115, 115, 111, 99] }, .string { data := #[115, 116, 97, 114, 116] }, .string { data := #[112, 114, 101, 99] }, .string (bs sa), .string (bs sb)] 9) = W1 at *
  generalize w2.heap.size = T at *
  have HTA := Lib.hid (fun (u : World) (hu : Below W1.heap.size W1 u) (i : Nat) (hi : i < 27) => HTX.out u ((hu.block T hTl).trans HTB.out) i hi)
  clear HTX HTB hTl
  go_wp2
  go_loopg [2] 15 (fun g i wr => ∃ n : Nat, n ≤ 15 ∧ g = 15 - n ∧ i = .int .i64 (n : Int) ∧ Below W1.heap.size W1 wr)
  case atStart => exact ⟨0, by omega, by omega, rfl, Below.refl _ _⟩
  case round =>
    obtain ⟨n, hn, rfl, rfl, hb0⟩ := hrel
    have HB0 := Lib.hid hb0; clear hb0
    by_cases hlt : n < 15
    · obtain ⟨wo, rfl⟩ : ∃ wo : World, wo = wr := ⟨_, rfl⟩
      have j0 : (n : Int) < 15 := by omega
      go_wp2
      go_loopg [3] 27 (fun g i wz => ∃ k : Nat, k ≤ 27 ∧ g = 27 - k ∧ i = .int .i64 (k : Int) ∧ Below W1.heap.size W1 wz)
      case atStart => exact ⟨0, by omega, by omega, rfl, HB0.out⟩
      case round => as_aux_lemma =>
        obtain ⟨k, hk, rfl, rfl, hb1⟩ := hrel
        have HB1 := Lib.hid hb1; clear hb1
        by_cases hlk : k < 27
        · obtain ⟨s, hs, hsl⟩ := HTA.out wr HB1.out k hlk
          have HSL := Lib.hid hsl; clear hsl
          have i0 : (0 : Int) ≤ (k : Int) := by omega
          have i1 : (k : Int) < 27 := by omega
          go_wp2_with fail
          refine wp_region_mixS (l1 := [_, _, _, _, _, _, _, _]) (l2 := [_]) [(1, true), (2, true), (3, true), (4, true), (5, true), (0, false), (6, false), (7, false)] (fun u => Below wr.heap.size wr u) (by kernel_rfl) (by kernel_rfl) (by repeat (first | refine loose_then ?_ | refine loose_block ?_ | exact loose_body (P := Tryz.prog) (fn := Tryz.f3))) ((Below.refl _ wr).drew) ?_
          · refine mixS_take (.int .i64 (n : Int)) rfl rfl (fun u hu => by go_simp) ?_
            refine mixS_take (.slice (some ⟨T, 0, none⟩) 27 27) rfl rfl (fun u hu => by go_simp) ?_
            refine mixS_take (.int .i64 (k : Int)) rfl rfl (fun u hu => by go_simp) ?_
            refine mixS_take (.pointer (some ⟨T, k, none⟩)) rfl rfl (fun u hu => by go_simp) ?_
            refine mixS_take (.string (bs s)) rfl rfl (fun u hu => by have e0 := SrcA.cell_on rfl hu hs; go_simp) ?_
            clear hs
            have HBD := Lib.hid (show Below wr.heap.size wr wr.drew from (Below.refl _ wr).drew)
            refine mixS_go rfl rfl fun K hK => wp_go (f := 7) (args := #[]) (by go_simp) ((Law12A.small_any _).mono ?_)
            rintro e u1 ⟨sd, sr, rfl, h1, h2, hb3⟩
            obtain ⟨x0, y0, rfl⟩ := Reads.slice h1
            obtain ⟨x1, y1, rfl⟩ := Reads.slice h2
            have HR1 := Lib.hid h1; have HR2 := Lib.hid h2
            have HBE := Lib.hid (HBD.out.trans (hb3.mono HBD.out.size))
            refine hK.out _ _ HBE.out ?_
            clear hK h1 h2 hb3
            refine mixS_go rfl rfl fun K hK => wp_go (f := 6) (args := #[.agg #[.slice x0 smallT.decls.length y0, .slice x1 smallT.rules.length y1], .int .i64 (n : Int), .string (bs s)]) (by go_simp) ((bent_any hlt HR1.out HR2.out HSL.out).mono ?_)
            rintro e u2 ⟨y, sd, sr, rfl, hbig, h1, h2, hb3⟩
            obtain ⟨x2, y2, rfl⟩ := Reads.slice h1
            obtain ⟨x3, y3, rfl⟩ := Reads.slice h2
            have HBF := Lib.hid (HBE.out.trans (hb3.mono HBE.out.size))
            have hbw : Below w.heap.size w u2 := (HBW.out.trans (HB1.out.mono HBW.out.size)).trans (HBF.out.mono (Below.size (HBW.out.trans (HB1.out.mono HBW.out.size))))
            have HC := Lib.hid (HTE.out u2 y _ _ hbw hbig h1 h2)
            refine hK.out _ _ HBF.out ?_
            clear hK h1 h2 hb3 hbig hbw HR1 HR2
            generalize y.decls.length = n2 at *
            generalize y.rules.length = n3 at *
            refine mixS_go rfl rfl fun K hK => wp_go (f := 5) (args := #[.agg #[.slice x2 n2 y2, .slice x3 n3 y3]]) (by go_simp) ((HC.out).mono ?_)
            rintro e u3 ⟨rfl, hb3⟩
            have HBG := Lib.hid (HBF.out.trans (hb3.mono HBF.out.size))
            refine hK.out _ _ HBG.out ?_
            clear hK hb3
            show wpList _ _ _ _ _ _
            simp only [Act.put, List.getElem_toArray, List.getElem_cons_zero, List.getElem_cons_succ, List.setIfInBounds_toArray, List.set_cons_zero, List.set_cons_succ]
            go_wp2_with fail
            go_roundg (27 - (k + 1))
            case measure => omega
            case rel => exact ⟨k + 1, by omega, rfl, by go_num, HB1.out.trans (HBG.out.mono HB1.out.size)⟩
        · obtain rfl : k = 27 := by omega
          go_wp2
          go_roundg (15 - (n + 1))
          case measure => omega
          case rel => exact ⟨n + 1, by omega, rfl, by go_num, HB1.out⟩
    · obtain rfl : n = 15 := by omega
      obtain ⟨wo, rfl⟩ : ∃ wo : World, wo = wr := ⟨_, rfl⟩
      have HBX := Lib.hid (HBW.out.trans (HB0.out.mono HBW.out.size))
      clear HB0 HTA HBW
      go_wp2
      go_loopg [4] 5 (fun g i wz => ∃ n : Nat, 58 ≤ n ∧ n ≤ 63 ∧ g = 63 - n ∧ i = .int .i64 (n : Int) ∧ Below w.heap.size w wz)
      case atStart => exact ⟨58, by omega, by omega, by omega, rfl, HBX.out⟩
      case round =>
        clear HBX
        obtain ⟨n, hn1, hn2, rfl, rfl, hb1⟩ := hrel
        have HB1 := Lib.hid hb1; clear hb1
        by_cases hln : n < 63
        · have j0 : (n : Int) < 63 := by omega
          have HX1 := Lib.hid (box1 wr (.cells #[.string { data := #[98] }, .slice none 0 0, .int .i64 0] 33 (0, 0)))
          go_upto_region 14 with fail
          generalize hw3 : wr.alloc (.cells #[.string { data := #[98] }, .slice none 0 0, .int .i64 0] 33 (0, 0)) = w3 at *
          clear hw3
          obtain ⟨x3, hb3, hs3⟩ := HX1.out
          have HI0 := Lib.hid (show NestI wr w3 wr.heap.size 0 from ⟨⟨_, x3, fun w' _ => rd_nil _ _ _⟩, hb3⟩)
          clear HX1 x3 hb3
          have HSW := Lib.hid hs3
          obtain ⟨wp, hwp⟩ : ∃ wp : World, wp = wr := ⟨_, rfl⟩
          rw [← hwp] at HI0 HSW HB1
          generalize hG : wr.heap.size = G at *
          rw [hwp, hG] at HSW
          rw [show wp.heap.size = G by rw [hwp, hG]] at HI0
          have HGW := Lib.hid (show wp.heap.size = G by rw [hwp, hG])
          clear hwp hG hs3
          go_wp2
          go_loopg [6] n (fun g i wz => ∃ k : Nat, k ≤ n ∧ g = n - k ∧ i = .int .i64 (k : Int) ∧ NestI wp wz G k)
          case atStart => exact ⟨0, by omega, by omega, rfl, HI0.out⟩
          case round =>
            clear HI0
            obtain ⟨k, hk, rfl, rfl, hI⟩ := hrel
            obtain ⟨⟨v, hbx, hrx⟩, hbe⟩ := hI
            obtain ⟨a0, q0, rfl⟩ := Reads.slice (hrx wr fun _ _ _ => rfl)
            have HBX := Lib.hid hbx; have HRX := Lib.hid hrx; have HBE := Lib.hid hbe
            have hGl : G < wr.heap.size := (Array.getElem?_eq_some_iff.1 hbx).1
            clear hbx hrx hbe
            generalize hla : (argsW (nestW k)).length = la at *
            have HLA := Lib.hid hla; clear hla
            generalize hzn : bs (headW (nestW k)) = zn at *
            have HZN := Lib.hid hzn; clear hzn
            by_cases hlk : k < n
            · have i0 : (k : Int) < (n : Int) := by omega
              have c0 : wr.cell? ⟨G, 0, none⟩ = some (.string zn) := cell_of_row wr G 0 _ _ (0, 0) HBX.out
              have c1 : wr.cell? ⟨G, 1, none⟩ = some (.slice a0 la q0) := cell_of_row wr G 1 _ _ (0, 0) HBX.out
              have c2 : wr.cell? ⟨G, 2, none⟩ = some (.int .i64 0) := cell_of_row wr G 2 _ _ (0, 0) HBX.out
              obtain ⟨x4, hb4, hs4⟩ := box1 wr (.cells #[.string zn, .slice a0 la q0, .int .i64 0, .string { data := #[99] }, .slice none 0 0, .int .i64 0] 33 (0, 0))
              have y4 := (hb4.block G hGl).trans HBX.out
              have d0 : (wr.alloc (.cells #[.string zn, .slice a0 la q0, .int .i64 0, .string { data := #[99] }, .slice none 0 0, .int .i64 0] 33 (0, 0))).cell? ⟨G, 0, none⟩ = some (.string zn) := cell_of_row _ G 0 _ _ (0, 0) y4
              have d1 : (wr.alloc (.cells #[.string zn, .slice a0 la q0, .int .i64 0, .string { data := #[99] }, .slice none 0 0, .int .i64 0] 33 (0, 0))).cell? ⟨G, 1, none⟩ = some (.slice a0 la q0) := cell_of_row _ G 1 _ _ (0, 0) y4
              have d2 : (wr.alloc (.cells #[.string zn, .slice a0 la q0, .int .i64 0, .string { data := #[99] }, .slice none 0 0, .int .i64 0] 33 (0, 0))).cell? ⟨G, 2, none⟩ = some (.int .i64 0) := cell_of_row _ G 2 _ _ (0, 0) y4
              have g0 := frozen_of_row _ G 0 _ _ y4
              have g1 := frozen_of_row _ G 1 _ _ y4
              have g2 := frozen_of_row _ G 2 _ _ y4
              have HX4 := Lib.hid x4; have HBB := Lib.hid hb4; have HSS := Lib.hid hs4; have HY4 := Lib.hid y4; have HGL := Lib.hid hGl
              clear x4 hb4 hs4 y4 hGl
              go_upto_region 16 with fail
              clear c0 c1 c2 d0 d1 d2 g0 g1 g2
              generalize hw4 : wr.alloc (.cells #[.string zn, .slice a0 la q0, .int .i64 0, .string { data := #[99] }, .slice none 0 0, .int .i64 0] 33 (0, 0)) = w4 at *
              clear hw4
              have hs4 := HSS.out; have hGl := HGL.out
              obtain ⟨w5, hw5⟩ : ∃ w5, w5 = ((w4.setCell ⟨G, 0, none⟩ (.string { data := #[97] })).setCell ⟨G, 1, none⟩ (.slice (some ⟨wr.heap.size, 0, none⟩) 2 2)).setCell ⟨G, 2, none⟩ (.int .i64 0) := ⟨_, rfl⟩
              rw [← hw5]
              have hkS : ∀ b, b ≠ G → w5.heap[b]? = w4.heap[b]? := fun b hb => by rw [hw5]; exact (Below.heap_setCell _ _ _ _ hb).trans ((Below.heap_setCell _ _ _ _ hb).trans (Below.heap_setCell _ _ _ _ hb))
              have x4 := (hkS wr.heap.size (by omega)).trans HX4.out
              have hs5 : w5.heap.size = wr.heap.size + 1 := by rw [hw5]; simp [World.setCell, hs4]
              have hk5 : ∀ b, b < wr.heap.size → b ≠ G → w5.heap[b]? = wr.heap[b]? := fun b hb hne => (hkS b hne).trans (HBB.out.block b hb)
              have hb5 : w5.heap[G]? = some (.cells #[.string { data := #[97] }, .slice (some ⟨wr.heap.size, 0, none⟩) 2 2, .int .i64 0] 33 (0, 0)) := by rw [hw5]; exact blk_set (blk_set (blk_set HY4.out 0 _) 1 _) 2 _
              have hbe5 : Below G wp w5 := by
                rw [hw5]
                exact (((HBE.out.trans (HBB.out.mono (by omega))).setCell (p := ⟨G, 0, none⟩) (Nat.le_refl _) _).setCell (p := ⟨G, 1, none⟩) (Nat.le_refl _) _).setCell (p := ⟨G, 2, none⟩) (Nat.le_refl _) _
              clear hw5 hkS
              have hni : NestI wp w5 G (k + 1) := by
                refine ⟨⟨_, hb5, fun w' hw' => ?_⟩, hbe5⟩
                have hq : w'.heap[wr.heap.size]? = some (.cells #[.string zn, .slice a0 la q0, .int .i64 0, .string { data := #[99] }, .slice none 0 0, .int .i64 0] 33 (0, 0)) := (hw' _ (by omega) (by omega)).trans x4
                have hin := HRX.out w' (fun b hb hne => (hw' b (by omega) hne).trans (hk5 b hb hne))
                have e : argsW (nestW (k + 1)) = [.mk (headW (nestW k)) (argsW (nestW k)) 0, .mk [99] [] 0] := by rw [← nest_eta k]; rfl
                rw [e]
                rw [← HLA.out] at hin
                exact rd_word2 (by rw [HZN.out]; exact cell_of_row w' _ 0 _ _ (0, 0) hq) (cell_of_row w' _ 1 _ _ (0, 0) hq) (cell_of_row w' _ 2 _ _ (0, 0) hq) (by rw [← HLA.out]; exact hin) (cell_of_row w' _ 3 _ _ (0, 0) hq) (cell_of_row w' _ 4 _ _ (0, 0) hq) (cell_of_row w' _ 5 _ _ (0, 0) hq) (rz ⟨_, _, rfl, fun _ => rfl⟩ _)
              have HNI := Lib.hid hni
              clear hni hb5 hbe5 hk5 hs5 x4
              go_wp2
              go_roundg (n - (k + 1))
              case measure => omega
              case rel => exact ⟨k + 1, by omega, rfl, by go_num, HNI.out⟩
            · obtain rfl : k = n := by omega
              have c0 := cell_of_row wr G 0 _ _ (0, 0) HBX.out
              have c1 := cell_of_row wr G 1 _ _ (0, 0) HBX.out
              have c2 := cell_of_row wr G 2 _ _ (0, 0) HBX.out
              have HW := Lib.hid (Below.trans HB1.out (HBE.out.mono (by have := HGW.out; have := HB1.out.size; omega)) : Below w.heap.size w wr)
              obtain ⟨u1, hu1⟩ : ∃ u1, u1 = wr.alloc (.cells #[.string zn, .slice a0 la q0, .int .i64 0] 33 (0, 0)) := ⟨_, rfl⟩
              obtain ⟨u2, hu2⟩ : ∃ u2, u2 = u1.alloc (.cells #[.slice (some ⟨wr.heap.size, 0, none⟩) 1 1, .string { data := #[] }, .bool false, .string { data := #[] }, .int .i64 0, .int .i64 0] 35 (0, 0)) := ⟨_, rfl⟩
              obtain ⟨u3, hu3⟩ : ∃ u3, u3 = u2.alloc (.cells #[.string { data := #[101] }, .slice none 0 0, .slice (some ⟨wr.heap.size + 1, 0, none⟩) 1 1, .int .i64 0] 38 (0, 0)) := ⟨_, rfl⟩
              have s1 : u1.heap.size = wr.heap.size + 1 := by rw [hu1]; simp
              have s2 : u2.heap.size = wr.heap.size + 2 := by rw [hu2]; simp [s1]
              have s3 : u3.heap.size = wr.heap.size + 3 := by rw [hu3]; simp [s2]
              have b1 : Below wr.heap.size wr u1 := by rw [hu1]; exact (Below.refl _ _).alloc (Nat.le_refl _) _
              have b2 : Below u1.heap.size u1 u2 := by rw [hu2]; exact (Below.refl _ _).alloc (Nat.le_refl _) _
              have b3 : Below u2.heap.size u2 u3 := by rw [hu3]; exact (Below.refl _ _).alloc (Nat.le_refl _) _
              have x1 : u3.heap[wr.heap.size]? = some (.cells #[.string zn, .slice a0 la q0, .int .i64 0] 33 (0, 0)) := (b3.block _ (by omega)).trans ((b2.block _ (by omega)).trans (by rw [hu1]; exact heap_alloc_new wr _))
              have x2 : u3.heap[wr.heap.size + 1]? = some (.cells #[.slice (some ⟨wr.heap.size, 0, none⟩) 1 1, .string { data := #[] }, .bool false, .string { data := #[] }, .int .i64 0, .int .i64 0] 35 (0, 0)) := (b3.block _ (by omega)).trans (by rw [hu2, ← s1]; exact heap_alloc_new u1 _)
              have x3 : u3.heap[wr.heap.size + 2]? = some (.cells #[.string { data := #[101] }, .slice none 0 0, .slice (some ⟨wr.heap.size + 1, 0, none⟩) 1 1, .int .i64 0] 38 (0, 0)) := by rw [hu3, ← s2]; exact heap_alloc_new u2 _
              have HU := Lib.hid (show Below w.heap.size w u3 from HW.out.trans ((b1.trans ((b2.mono (by omega)).trans (b3.mono (by omega)))).mono HW.out.size))
              have hin := HRX.out u3 (fun b hb _ => (b3.block b (by omega)).trans ((b2.block b (by omega)).trans (b1.block b hb)))
              have r1 : Reads u3 (.row 33 3 1 (wdsD [nestW k])) (.slice (some ⟨wr.heap.size, 0, none⟩) 1 1) := by
                rw [nest_eta k]
                exact rd_word1 (by rw [HZN.out]; exact cell_of_row u3 _ 0 _ _ (0, 0) x1) (cell_of_row u3 _ 1 _ _ (0, 0) x1) (cell_of_row u3 _ 2 _ _ (0, 0) x1) (by rw [HLA.out]; exact hin)
              have r2 : Reads u3 (.row 35 6 1 (alsD [⟨[nestW k], [], false, [], 0, 0⟩])) (.slice (some ⟨wr.heap.size + 1, 0, none⟩) 1 1) :=
                rd_row rfl (by decide) (reads_at (cell_of_row u3 _ 0 _ _ (0, 0) x2) r1 (reads_lit (cell_of_row u3 _ 1 _ _ (0, 0) x2) (reads_lit (cell_of_row u3 _ 2 _ _ (0, 0) x2) (reads_lit (cell_of_row u3 _ 3 _ _ (0, 0) x2) (reads_lit (cell_of_row u3 _ 4 _ _ (0, 0) x2) (reads_lit (cell_of_row u3 _ 5 _ _ (0, 0) x2) reads_end))))))
              have r3 : Reads u3 (.row 38 4 1 (rusD [⟨[101], [], [⟨[nestW k], [], false, [], 0, 0⟩], 0⟩])) (.slice (some ⟨wr.heap.size + 2, 0, none⟩) 1 1) :=
                rd_rule (x := ⟨[101], [], [⟨[nestW k], [], false, [], 0, 0⟩], 0⟩) (cell_of_row u3 _ 0 _ _ (0, 0) x3) (cell_of_row u3 _ 1 _ _ (0, 0) x3) (rd_nil _ _ _) (cell_of_row u3 _ 2 _ _ (0, 0) x3) r2 (cell_of_row u3 _ 3 _ _ (0, 0) x3)
              have hbig : bigT ⟨[], [⟨[101], [], [⟨[nestW k], [], false, [], 0, 0⟩], 0⟩]⟩ := ⟨by simp [Lim], by simp [Lim], fa0 _, fa1 ⟨show ([101] : List UInt8).length ≤ 140737488351232 by decide, by simp [Lim], by simp [Lim], fa0 _, fa1 ⟨by simp [Lim], by simp [Lim], by simp [Lim], fa1 (nest_big k)⟩⟩⟩
              have HTL := Lib.hid (HTE.out u3 ⟨[], [⟨[101], [], [⟨[nestW k], [], false, [], 0, 0⟩], 0⟩]⟩ (.slice none 0 0) (.slice (some ⟨wr.heap.size + 2, 0, none⟩) 1 1) HU.out hbig (rd_nil _ _ _) r3)
              have HU3 := Lib.hid hu3
              rw [hu2, hu1] at HU3
              clear hbig r1 r2 r3 hin x1 x2 x3 b1 b2 b3 s1 s2 s3 hu3 hu2 hu1
              rw [HU3.out] at HTL
              go_wp2_with (go_at_call 5; refine (HTL.out).mono ?_; rintro e w3 ⟨rfl, hb3⟩; rw [← HU3.out] at hb3; have HB3 := Lib.hid (HU.out.trans (hb3.mono HU.out.size)); clear hb3)
              go_roundg (63 - (k + 1))
              case measure => omega
              case rel => exact ⟨k + 1, by omega, by omega, rfl, by go_num, HB3.out⟩
        · obtain rfl : n = 63 := by omega
          have HTL := Lib.hid (HTE.out wr ⟨[], []⟩ (.slice none 0 0) (.slice none 0 0) HB1.out ⟨by decide, by decide, fa0 _, fa0 _⟩ (rd_nil _ _ _) (rd_nil _ _ _))
          go_wp2_with (first
            | (go_at_call 5; refine (HTL.out).mono ?_; rintro e w3 ⟨rfl, hb3⟩; have HB3 := Lib.hid (HB1.out.trans (hb3.mono HB1.out.size)); have HA3 := Lib.hid (HAW.out w3 HB3.out); clear hb3 HTL)
            | (go_at_call 8; refine (HA3.out).mono ?_; rintro e w4 ⟨rfl, hb4⟩; have HB4 := Lib.hid (HB3.out.trans (hb4.mono HB3.out.size)); clear hb4))
          go_ret
          exact ⟨rfl, HB4.out⟩
end Go.Proofs.YtghebacphjglbaaGreat.WrNum
