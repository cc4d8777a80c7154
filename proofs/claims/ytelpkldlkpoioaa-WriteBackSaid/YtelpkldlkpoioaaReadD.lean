/- The reader of grammars' texts: a part of a word, walked. -/
import Derived.Test.YtelpkldlkpoioaaReadE
import Derived.Test.YtelpkldlkpoioaaCut
namespace Go.Proofs.Ytelpkldlkpoioaa.ReadD
open Go.RowKit Go.Proofs.Ytelpkldlkpoioaa.Lexy Go.Proofs.Ytelpkldlkpoioaa.LexA Go.Proofs.Ytelpkldlkpoioaa.LexB Go.Proofs.Ytelpkldlkpoioaa.LexC Go.Proofs.Ytelpkldlkpoioaa.LexD Go.Proofs.Ytelpkldlkpoioaa.LexE Go.Proofs.Ytelpkldlkpoioaa.LexF Go.Proofs.Ytelpkldlkpoioaa.LexG Go.Proofs.Ytelpkldlkpoioaa.Heap Go.Proofs.Ytelpkldlkpoioaa.Dat Go.Proofs.Ytelpkldlkpoioaa.Ready Go.Proofs.Ytelpkldlkpoioaa.ReadA Go.Proofs.Ytelpkldlkpoioaa.ReadB Go.Proofs.Ytelpkldlkpoioaa.ReadC Go.Proofs.Ytelpkldlkpoioaa.ReadE Go.Proofs.Ytelpkldlkpoioaa.Cut

/-- how a call of word ended -/
def WordQ (b g c : Nat) (T : List Tok) (w : World) : Ans → Ending → World → Prop
  | .one x k1, e, w' => WordP b g c T k1 w x e w'
  | .bad x p, e, w' => e = .panicked (thrownF (x : Int) (p : Int)) ∧ w.grownBy w' (some b)
  | .many _ _, _, _ => False
/-- a word that is being read: its cells, in a world; what lies in its row -/
structure WordI (Hw Hr Hd b g c d B : Nat) (T : List Tok) (n : ByteArray) (p : Int) (k : Nat) (ws : List Wd) (w : World) : Prop where
  rr : Rr w b g c T k
  lies : ∃ va bk, EnvW w Hw Hr Hd b d n va p ∧ Lies w B (.row 54 3 ws.length (wdsD ws)) va bk ∧ bk.Nodup
  base : B ≤ w.heap.size
/-- how a part of it ended -/
def PartQ (Hw Hr Hd b g c d B B1 : Nat) (T : List Tok) (n : ByteArray) (p : Int) (ws : List Wd) (w : World) : Ans → Ending → World → Prop
  | .one x k1, e, w' => e = .returned (.tuple #[]) ∧ WordI Hw Hr Hd b g c d B T n p k1 (ws ++ [x]) w' ∧ Bx B1 b w w'
  | .bad x p, e, w' => e = .panicked (thrownF (x : Int) (p : Int)) ∧ Bx B1 b w w'
  | .many _ _, _, _ => False
set_option maxRecDepth 100000 in
set_option maxHeartbeats 4000000 in
theorem part_any {w : World} {b g c Hw Hr Hd B B1 d k : Nat} {T : List Tok} {n : ByteArray} {p : Int} {ws : List Wd} {a : Ans}
    (hI : WordI Hw Hr Hd b g c d B T n p k ws w) (hm2 : ws.length ≤ 1000000) (hB : b < B ∧ g < B ∧ Hw < B ∧ Hr < B ∧ Hd < B) (hne : Hw ≠ b ∧ Hr ≠ b ∧ Hd ≠ b ∧ Hr ≠ Hw ∧ Hd ≠ Hw ∧ Hw ≠ g) (hd : d ≤ 1000) (hB1 : B1 ≤ Hw)
    (hW : ∀ w1, Rr w1 b g c T k → Calls Try.prog 88 #[.pointer (some ⟨b, 0, none⟩), .int .i64 ((d : Int) + 1)] w1 (WordQ b g c T w1 a)) :
    Calls Try.prog 98 #[.pointer (some ⟨Hw, 0, none⟩), .pointer (some ⟨Hr, 0, none⟩), .pointer (some ⟨Hd, 0, none⟩)] w (PartQ Hw Hr Hd b g c d B B1 T n p ws w a) := by
  obtain ⟨ti0, hi0, hz0, hz1, hz2⟩ := info_parts wordInfo
  obtain ⟨hR, ⟨va, bk, hE, hL, hnd⟩, b6⟩ := hI
  have e1 : w.cell? ⟨Hw, 1, none⟩ = some va := cell_of_row w Hw 1 _ _ _ hE.hw
  have f1 : w.frozen? ⟨Hw, 1, none⟩ = false := frozen_of_row w Hw 1 _ _ hE.hw
  have e2 : w.cell? ⟨Hr, 0, none⟩ = some (.pointer (some ⟨b, 0, none⟩)) := cell_of_row w Hr 0 _ _ _ hE.hr
  have e3 : w.cell? ⟨Hd, 0, none⟩ = some (.int .i64 (d : Int)) := cell_of_row w Hd 0 _ _ _ hE.hd
  have hdw : IntKind.i64.wrap ((d : Int) + 1) = (d : Int) + 1 := IntWalk.i64_in _ (by omega)
  obtain ⟨b1, b2, b3, b4, b5⟩ := hB
  obtain ⟨n1, n2, n3, n4, n5, n6⟩ := hne
  have HPQ := Lib.hid (show PartQ Hw Hr Hd b g c d B B1 T n p ws w a = PartQ Hw Hr Hd b g c d B B1 T n p ws w a from rfl)
  obtain ⟨oa, oc, rfl⟩ : ∃ oa oc, va = .slice oa ws.length oc := by
    obtain ⟨xs, bs', hown, _⟩ := hL.own
    rcases hown.2 with ⟨h, h0⟩ | ⟨g, cap, cur, h, _⟩
    · exact ⟨none, 0, by rw [h, h0]⟩
    · exact ⟨_, _, h⟩
  go_enter Try.func98, Try.ntmps98
  go_wp2
  refine append13 (α := Option Addr × Nat × Wd) (val := fun x => match x with | (va, vc, .mk n ws a) => .agg #[.string (bs n), .slice va ws.length vc, .int .i64 (a : Int)]) (us := fun x => match x with | (va, vc, .mk n ws a) => (.string (bs n), .slice va ws.length vc, .int .i64 (a : Int))) (ds := fun x => wdD x.2.2) (X := fun x u => ∃ k1, a = .one x.2.2 k1 ∧ Rr u b g c T k1) (S2 := fun u => u.cell? ⟨Hr, 0, none⟩ = some (.pointer (some ⟨b, 0, none⟩)) ∧ u.cell? ⟨Hd, 0, none⟩ = some (.int .i64 (d : Int))) (rr := some b) (H := Hw) (fo := 1) (B := B) (bk := bk) (items := wdsD ws) (n := ws.length) (E := 54) (R := 49) (bytes := 48) (ti := ti0) (z := .agg #[.string { data := #[] }, .slice none 0 0, .int .i64 0]) (z0 := .string { data := #[] }) (z1 := .slice none 0 0) (z2 := .int .i64 0) (v2 := .pointer (some ⟨b, 0, none⟩)) (v3 := .int .i64 (d : Int)) (v4 := .int .i64 ((d : Int) + 1)) (v6 := .int .i64 (ws.length : Int)) (f := 88) (args := #[.pointer (some ⟨b, 0, none⟩), .int .i64 ((d : Int) + 1)]) (by kernel_rfl) (by kernel_rfl) loose_body e1 f1 hL hnd b3 b6 Try.underlying49 hi0 hz0 hz1 hz2 (by rfl) hm2 (by omega) (by simp [Value.oneCell']) ?_ _ rfl _ rfl _ rfl _ rfl _ rfl _ rfl ?y0 ?y1 ⟨by simpa using e2, by simpa using e3⟩ ?hS2n ?hXn ?y2 ?y3 ?y4 ?y6 ?y5 ?y5' ?hc ?y7 (by rfl) ?y8a ?y8b ?y9 ?y11 ?y10 ?y12 ?hfin
  case y0 => intro u; go_simp
  case y1 => intro u hu; go_simp
  case y2 => rintro u ⟨h1, h2⟩; go_simp
  case y3 => rintro u ⟨h1, h2⟩; go_simp
  case y4 => intro u; go_simp
  case y6 => intro u; go_simp
  case y5 => intro v7 u; go_simp
  case y5' => intro u; go_simp
  case y7 => intro a' u; go_simp
  case y8a => intro x v7; rfl
  case y8b => intro x v7; rfl
  case y9 => intro x v7 gg cp u; go_simp; intro h; omega
  case y11 => intro x v7 gg cp u; go_simp
  case y10 => rintro ⟨va, vc, ⟨nx, ax, px⟩⟩ v7 gg cp u ⟨c0, c1, c2, h0, h1, h2⟩ ⟨k0, k1, k2⟩; go_simp; rfl
  case y12 => intro x v7 gg cp u h0 h1; go_simp
  case hS2n => rintro u o ⟨h1, h2⟩; exact ⟨(World.cell?_alloc_past _ _ _ (World.block_lt_of_cell? _ _ h1)).trans h1, (World.cell?_alloc_past _ _ _ (World.block_lt_of_cell? _ _ h2)).trans h2⟩
  case hXn => rintro x u o ⟨k1, h, hr⟩; exact ⟨k1, h, hr.new ((Below.refl _ _).alloc (Nat.le_refl _) _)⟩
  case hc =>
    intro w0 hw0
    have hb0 : Below w.heap.size w w0 := by
      rcases hw0 with rfl | rfl
      · exact (Below.refl _ w).drew
      · exact ((Below.refl _ w).drew).alloc (Nat.le_refl _) _
    have hs0 := hb0.size
    refine (hW w0 (hR.new hb0)).mono ?_
    intro e w1 hq
    have hE0 : EnvW w0 Hw Hr Hd b d n (.slice oa ws.length oc) p := hE.new hb0
    cases a with
    | many xs k1 => exact hq.elim
    | bad x px =>
      obtain ⟨rfl, hg⟩ := hq
      refine .inl ⟨_, rfl, ⟨rfl, rfl, ?_⟩, fun v7 => ⟨rfl, rfl, ?_⟩⟩
      · exact ((Bx.refl B1 b w).below hb0 (by omega)).grown hg (by omega) (fun j hj => .inl (Option.some.inj hj).symm)
      · exact ((Bx.refl B1 b w).below hb0 (by omega)).grown hg (by omega) (fun j hj => .inl (Option.some.inj hj).symm)
    | one x k1 =>
      obtain ⟨nx, ax, px⟩ := x
      obtain ⟨va, vc, bx, rfl, hLx, hndx, hgx, hRx⟩ := hq
      have hE1 := hE0.grown hgx (by simpa using n1) (by simpa using n2) (by simpa using n3)
      refine .inr ⟨(va, vc, .mk nx ax px), bx ++ [], rfl, ⟨k1, rfl, hRx⟩, ⟨cell_of_row w1 Hr 0 _ _ _ hE1.hr, cell_of_row w1 Hd 0 _ _ _ hE1.hd⟩, ⟨?_, by simpa using hndx, hgx, ?_⟩⟩
      · have h1 := LiesL.lit (u := .string (bs nx)) (LiesL.more hLx (LiesL.lit (u := .int .i64 (px : Int)) (LiesL.nil.2 ⟨rfl, rfl⟩)))
        show LiesL w1 w0.heap.size (wdD (.mk nx ax px)) _ _
        simp only [wdD]
        exact h1
      · intro j hj; cases hj; exact ⟨b1, fun e => n1 e.symm⟩
  case hfin =>
    rintro ⟨va, vc, ⟨nx, ax, px⟩⟩ w0 w1 wa gg cp bk' v7 ⟨k1, rfl, hr1⟩ ⟨r, hgr, hrb⟩ ⟨hg0, hg1⟩ hL' hnd' hbk hsz hH
    have hlt := Lies.lt hL
    have hr0 : ∀ j, j < B → some j ≠ r := fun j hj e => by have := (hlt j (hrb j e.symm)).1; omega
    have hs0 := hg0.size; have hs1 := hg1.size; have hs2 := hgr.size
    have hE1 := ((hE.grown hg0 (by simp) (by simp) (by simp)).grown hg1 (by simpa using n1) (by simpa using n2) (by simpa using n3)).grown hgr (hr0 _ b3) (hr0 _ b4) (hr0 _ b5)
    go_end0
    refine ⟨rfl, ⟨(hr1.grown hgr (hr0 _ b1) (hr0 _ b2)).grown (Heap.grown_set wa ⟨Hw, 1, none⟩ _) (by simpa using fun e => n1 e.symm) (by simpa using fun e => n6 e.symm), ⟨_, bk', hE1.put _ n4 n5, ?_, hnd'⟩, by simp; omega⟩, ?_⟩
    · rw [wdsD_snoc, List.length_append]; exact hL'
    · refine ((((Bx.refl B1 b w).grown hg0 (by omega) (fun j hj => by cases hj)).grown hg1 (by omega) (fun j hj => .inl (Option.some.inj hj).symm)).grown hgr (by omega) (fun j hj => .inr ?_)).grown (Heap.grown_set wa ⟨Hw, 1, none⟩ _) (by omega) (fun j hj => .inr ?_)
      · have := (hlt j (hrb j hj)).1; omega
      · have : Hw = j := Option.some.inj hj
        omega
  · intro x; exact wdD_len _
end Go.Proofs.Ytelpkldlkpoioaa.ReadD
