/- The writer of grammars' texts: words, walked. -/
import Derived.Test.YtghebacphjglbaaGreatM17
namespace Go.Proofs.YtghebacphjglbaaGreat.WrJ
open Go.RowKit Go.Proofs.YtghebacphjglbaaGreat.Lexy Go.Proofs.YtghebacphjglbaaGreat.LexA Go.Proofs.YtghebacphjglbaaGreat.LexB Go.Proofs.YtghebacphjglbaaGreat.LexC Go.Proofs.YtghebacphjglbaaGreat.LexD Go.Proofs.YtghebacphjglbaaGreat.LexE Go.Proofs.YtghebacphjglbaaGreat.LexF Go.Proofs.YtghebacphjglbaaGreat.LexG Go.Proofs.YtghebacphjglbaaGreat.Heap Go.Proofs.YtghebacphjglbaaGreat.Dat Go.Proofs.YtghebacphjglbaaGreat.Ready Go.Proofs.YtghebacphjglbaaGreat.ReadA Go.Proofs.YtghebacphjglbaaGreat.ReadC Go.Proofs.YtghebacphjglbaaGreat.ReadI Go.Proofs.YtghebacphjglbaaGreat.Same Go.Proofs.YtghebacphjglbaaGreat.WrD Go.Proofs.YtghebacphjglbaaGreat.WrE Go.Proofs.YtghebacphjglbaaGreat.WrF Go.Proofs.YtghebacphjglbaaGreat.WrG Go.Proofs.YtghebacphjglbaaGreat.WrH Go.Proofs.YtghebacphjglbaaGreat.Cut Go.Proofs.YtghebacphjglbaaGreat.WrI

set_option maxRecDepth 100000 in
set_option maxHeartbeats 2000000 in
theorem word_of {W0 : World} {n : List UInt8} {xs : List Wd} {z : Int} (hx : ∀ y ∈ xs, WordW W0 y) : WordW W0 (.mk n xs z) := by
  intro d b m l w n' xs' z' s he hI hE hW hR hlen hok hd1000
  injection he with e1 e2 e3
  subst e1 e2 e3
  obtain ⟨a0, c, rfl⟩ := Reads.slice hR
  rw [wdOk] at hok
  rw [wrW, wrP_eq, List.length_append] at hlen
  rw [wrW, wrP_eq, okW, okWs_eq]
  have hbl := hI.lt
  have hsz := hW.size
  have HX := Lib.hid (boxes3 w (.cells #[.pointer (some ⟨b, 0, none⟩)] 78 (0, 0)) (.cells #[.string (bs n), .slice a0 xs.length c, .int .i64 z] 33 (0, 0)) (.cells #[.int .i64 (d : Int)] 3 (0, 0)))
  have hnm : ∀ (u : World) (g : Nat), g = u.heap.size → IsW W0.heap.size b l u → Env W0.heap.size m u → Calls Tryz.prog 49 #[.pointer (some ⟨b, 0, none⟩), .string { data := #[] }, .slice (some ⟨g, 0, none⟩) 1 1] (u.alloc (.cells #[.string (bs n)] 9)) (Wrote W0.heap.size b u l (nameB n) n) := fun u g hg hu he => name1 (n := n) (a := []) hg rfl rfl hu he (by simp only [List.length_nil]; omega)
  have hrw : d ≤ 60 → ∀ (u : World) (l' : List UInt8) (H : Nat), b < H → Below W0.heap.size W0 u → Env W0.heap.size m u → IsW W0.heap.size b l' u → l'.length + (wrN (xs.map wrW)).length ≤ 140737488351232 → u.heap[H]? = some (.cells #[.pointer (some ⟨b, 0, none⟩)] 78 (0, 0)) → u.heap[H + 1]? = some (.cells #[.string (bs n), .slice a0 xs.length c, .int .i64 z] 33 (0, 0)) → u.heap[H + 2]? = some (.cells #[.int .i64 (d : Int)] 3 (0, 0)) →
      Calls Tryz.prog 50 #[.pointer (some ⟨b, 0, none⟩), .int .i64 (xs.length : Int), .func (.func 84) #[] #[.pointer (some ⟨H, 0, none⟩), .pointer (some ⟨H + 1, 0, none⟩), .pointer (some ⟨H + 1 + 1, 0, none⟩)]] u (Wrote W0.heap.size b u l' ((xs.map (okW (d + 1))).all id) (wrN (xs.map wrW))) := fun hd u l' H hbH hu he hi hl k1 k2 k3 => by
    have := row_any (part_word hx he hu hR hok.2 hd hok.1 k1 k2 k3 hbH) hi he.size hl (by rw [List.length_map]; exact hok.1)
    rw [List.length_map] at this
    exact this
  have HNM := Lib.hid hnm; have HRW := Lib.hid hrw
  have HI := Lib.hid hI; have HE := Lib.hid hE; have HW := Lib.hid hW; have HL := Lib.hid hlen; have HD := Lib.hid hd1000
  have hn := hok.1
  clear hI hE hW hR hx hok hlen hd1000 hnm hrw
  generalize (xs.map (okW (d + 1))).all id = okr at *
  generalize wrN (xs.map wrW) = wr at *
  generalize nameB n = okn at *
  generalize bs n = zn at *
  by_cases hd : d ≤ 60
  · have hdi : (d : Int) ≤ 60 := by omega
    have HR1 := Lib.hid (HRW.out hd); clear HRW
    rw [decide_eq_true hd, Bool.true_and]
    clear hd
    go_enter Tryz.func70, Tryz.ntmps70
    go_upto_region 1 with fail
    generalize hw3 : (((w.alloc (.cells #[.pointer (some ⟨b, 0, none⟩)] 78 (0, 0))).alloc (.cells #[.string zn, .slice a0 xs.length c, .int .i64 z] 33 (0, 0))).alloc (.cells #[.int .i64 (d : Int)] 3 (0, 0))) = w3 at *
    clear hw3
    obtain ⟨x1, x2, x3, hbx, hsx⟩ := HX.out
    have HI1 := Lib.hid (HI.out.new hbx); have HE1 := Lib.hid (HE.out.new hbx)
    have HK1 := Lib.hid ((Kb.refl W0.heap.size b w).new hbx hsz)
    have X1 := Lib.hid x1; have X2 := Lib.hid x2; have X3 := Lib.hid x3
    generalize w.heap.size = H at *
    have y4 : w3.cell? ⟨H + 1 + 1, 0, none⟩ = some (.int .i64 (d : Int)) := cell_of_row w3 (H + 2) 0 _ _ (0, 0) x3
    have hx3 := hsx
    have hB3 : W0.heap.size ≤ w3.heap.size := HE1.out.size
    clear HX HI HE hbx x1 x2 x3
    go_upto_region 2 with (go_at_call 48; refine (must_t (w := w3) (by omega)).mono ?_; rintro e w4 ⟨rfl, rfl⟩)
    have hbt := (Below.refl w3.heap.size w3).alloc (Nat.le_refl _) (.cells #[.bool true] 4 (0, 0))
    have HI2 := Lib.hid (HI1.out.new hbt); have HE2 := Lib.hid (HE1.out.new hbt); have HK2 := Lib.hid (HK1.out.new hbt hB3)
    have X4 := Lib.hid ((hbt.block H (by omega)).trans X1.out); have X5 := Lib.hid ((hbt.block (H + 1) (by omega)).trans X2.out); have X6 := Lib.hid ((hbt.block (H + 2) (by omega)).trans X3.out)
    have hs4 : (w3.alloc (.cells #[.bool true] 4 (0, 0))).heap.size = H + 4 := by simp [hx3]
    clear HI1 HE1 HK1 X1 X2 X3 y4 hbt hx3 hsx
    generalize w3.alloc (.cells #[.bool true] 4 (0, 0)) = w4 at *
    have z4 : w4.cell? ⟨H, 0, none⟩ = some (.pointer (some ⟨b, 0, none⟩)) := cell_of_row w4 H 0 _ _ (0, 0) X4.out
    have z5 : w4.cell? ⟨H + 1, 0, none⟩ = some (.string zn) := cell_of_row w4 (H + 1) 0 _ _ (0, 0) X5.out
    go_upto_region 3 with (go_at_call 49; refine (HNM.out w4 _ (by omega) HI2.out HE2.out).mono ?_; rintro e w5 ⟨hK5, hr⟩; rcases hr with ⟨rfl, rfl, hI5⟩ | ⟨rfl, rfl⟩)
    · have hK6 := HK2.out.trans hK5
      have hW5 := HW.out.trans hK6.below
      have hE5 := HE2.out.kb hK5
      have z6 := hK5.heap X4.out (by omega) (by decide)
      have z7 := hK5.heap X5.out (by omega) (by decide)
      have z8 := hK5.heap X6.out (by omega) (by decide)
      have HC := Lib.hid (HR1.out w5 _ H hbl hW5 hE5 hI5 (by have := HL.out; simp only [List.length_append]; omega) z6 z7 z8)
      have HK6 := Lib.hid hK6
      have q1 : w5.cell? ⟨H, 0, none⟩ = some (.pointer (some ⟨b, 0, none⟩)) := cell_of_row w5 H 0 _ _ (0, 0) z6
      have q2 : w5.cell? ⟨H + 1, 1, none⟩ = some (.slice a0 xs.length c) := cell_of_row w5 (H + 1) 1 _ _ (0, 0) z7
      clear hK5 hK6 hW5 hE5 z6 z7 z8 hI5 z4 z5 HR1 HNM HI2 HE2 HK2 X4 X5 X6
      go_wp2_with (go_at_call 50; refine (HC.out).mono ?_; rintro e w6 ⟨hK7, hr⟩; rcases hr with ⟨rfl, rfl, hI7⟩ | ⟨rfl, rfl⟩)
      · have HI7 := Lib.hid hI7; have HK7 := Lib.hid hK7; clear hI7 hK7
        go_end0
        exact ⟨HK6.out.trans HK7.out, .inl ⟨rfl, rfl, by rw [← List.append_assoc]; exact HI7.out⟩⟩
      · exact ⟨rfl, HK6.out.trans hK7, .inr ⟨rfl, rfl⟩⟩
    · exact ⟨rfl, HK2.out.trans hK5, .inr ⟨rfl, rfl⟩⟩
  · have hdi : ¬ (d : Int) ≤ 60 := by omega
    rw [decide_eq_false hd, Bool.false_and]
    clear hd HRW HNM
    go_enter Tryz.func70, Tryz.ntmps70
    go_upto_region 1 with fail
    generalize hw3 : (((w.alloc (.cells #[.pointer (some ⟨b, 0, none⟩)] 78 (0, 0))).alloc (.cells #[.string zn, .slice a0 xs.length c, .int .i64 z] 33 (0, 0))).alloc (.cells #[.int .i64 (d : Int)] 3 (0, 0))) = w3 at *
    clear hw3
    obtain ⟨x1, x2, x3, hbx, hsx⟩ := HX.out
    have HK1 := Lib.hid ((Kb.refl W0.heap.size b w).new hbx hsz)
    generalize w.heap.size = H at *
    have y4 : w3.cell? ⟨H + 1 + 1, 0, none⟩ = some (.int .i64 (d : Int)) := cell_of_row w3 (H + 2) 0 _ _ (0, 0) x3
    have hB3 : W0.heap.size ≤ w3.heap.size := by omega
    clear HX HI HE hbx x1 x2 x3
    go_wp2_with (go_at_call 48; refine (must_f (w := w3) (by omega)).mono ?_; rintro e w4 ⟨rfl, rfl⟩)
    exact ⟨rfl, kb_alloc HK1.out hB3 _, .inr ⟨rfl, rfl⟩⟩
mutual
theorem word_any (W0 : World) : ∀ x : Wd, WordW W0 x
  | .mk _ xs _ => word_of fun y hy => words_any W0 xs y hy
theorem words_any (W0 : World) : ∀ (xs : List Wd) (y : Wd), y ∈ xs → WordW W0 y
  | x :: xs, y, hy => by
    rcases List.mem_cons.1 hy with e | h
    · rw [e]; exact word_any W0 x
    · exact words_any W0 xs y h
end
end Go.Proofs.YtghebacphjglbaaGreat.WrJ
