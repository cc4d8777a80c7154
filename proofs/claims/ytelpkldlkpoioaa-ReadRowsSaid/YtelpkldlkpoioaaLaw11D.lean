/- The law ReadPlaces, walked. -/
import Derived.Test.YtelpkldlkpoioaaLaw11C
import Derived.Test.YtelpkldlkpoioaaPlain11
import Derived.Test.YtelpkldlkpoioaaCut
import Derived.Test.YtelpkldlkpoioaaReadPlain
namespace Go.Proofs.Ytelpkldlkpoioaa.Law11D
open Go.RowKit Go.Proofs.Ytelpkldlkpoioaa.Lexy Go.Proofs.Ytelpkldlkpoioaa.LexA Go.Proofs.Ytelpkldlkpoioaa.LexB Go.Proofs.Ytelpkldlkpoioaa.LexC Go.Proofs.Ytelpkldlkpoioaa.LexD Go.Proofs.Ytelpkldlkpoioaa.LexE Go.Proofs.Ytelpkldlkpoioaa.LexF Go.Proofs.Ytelpkldlkpoioaa.LexG Go.Proofs.Ytelpkldlkpoioaa.Heap Go.Proofs.Ytelpkldlkpoioaa.Dat Go.Proofs.Ytelpkldlkpoioaa.Ready Go.Proofs.Ytelpkldlkpoioaa.ReadA Go.Proofs.Ytelpkldlkpoioaa.ReadC Go.Proofs.Ytelpkldlkpoioaa.ReadG Go.Proofs.Ytelpkldlkpoioaa.ReadH Go.Proofs.Ytelpkldlkpoioaa.ReadI Go.Proofs.Ytelpkldlkpoioaa.ReadJ Go.Proofs.Ytelpkldlkpoioaa.ReadM Go.Proofs.Ytelpkldlkpoioaa.ReadO Go.Proofs.Ytelpkldlkpoioaa.ReadQ Go.Proofs.Ytelpkldlkpoioaa.Same Go.Proofs.Ytelpkldlkpoioaa.Law11A Go.Proofs.Ytelpkldlkpoioaa.Law11B Go.Proofs.Ytelpkldlkpoioaa.Law11C Go.Proofs.Ytelpkldlkpoioaa.Cut

/-- 'plain', told as data that is read -/
theorem plain_tx {x y : Tx} (hx : TxOk x) (hy : plainT x = y) {w : World} {s1 s2 : Value} (h1 : Reads w (.row 45 4 x.decls.length (desD x.decls)) s1) (h2 : Reads w (.row 48 4 x.rules.length (rusD x.rules)) s2) :
    Calls Try.prog 18 #[.agg #[s1, s2]] w fun e w' => ∃ (p0 : Option Addr) (q0 : Nat) (p1 : Option Addr) (q1 : Nat), e = .returned (.agg #[.slice p0 y.decls.length q0, .slice p1 y.rules.length q1]) ∧ Reads w' (.row 45 4 y.decls.length (desD y.decls)) (.slice p0 y.decls.length q0) ∧ Reads w' (.row 48 4 y.rules.length (rusD y.rules)) (.slice p1 y.rules.length q1) ∧ Below w.heap.size w w' := by
  refine (Plain11.plain_any hx h1 h2).mono ?_
  rintro e w' ⟨p0, q0, k0, p1, q1, k1, rfl, hL0, hL1, _, hb⟩
  subst hy
  have e0 : (plainT x).decls.length = x.decls.length := by simp [plainT]
  have e1 : (plainT x).rules.length = x.rules.length := by simp [plainT]
  rw [← e0] at hL0
  rw [← e1] at hL1
  refine ⟨p0, q0, p1, q1, by rw [e0, e1], hL0.reads, hL1.reads, hb⟩
/-- what a good source says, that it says with comments and blanks about it -/
theorem says_wrap {s : List UInt8} {x : Tx} {k : Nat} (h : SaysR s (.ok x k)) (hs : s.length ≤ 20000) : TxOk x ∧ thereT s x ∧ ∃ x2 k2, SaysR (47 :: 47 :: 32 :: 37 :: 10 :: 9 :: (s ++ [32, 47, 47, 32, 123])) (.ok x2 k2) ∧ TxOk x2 ∧ plainT x2 = plainT x := by
  generalize ho : Out.ok x k = o at h
  cases h with
  | bad _ => cases ho
  | good h1 h2 =>
    rename_i T
    subst ho
    have hT := toks_told h1
    have hk := TextR_end hT.1.ends h2
    have hlen := hT.1.len
    obtain ⟨g1, g2, g3⟩ := TextR_good (toks_places h1) h2 (by omega)
    obtain ⟨T2, h3, h4⟩ := toks_wrap h1 hs
    have hl2 : T2.length = T.length := by have := congrArg List.length h4; simpa [bare] using this
    obtain ⟨x2, h5, h6⟩ := g3 T2 (alike_of h4 _) (by omega)
    have hT2 := toks_told h3
    have hk2 := TextR_end hT2.1.ends h5
    exact ⟨g1, g2, x2, k, .good h3 h5, (TextR_good (toks_places h3) h5 (by omega)).1, h6⟩
theorem says_bad {s : List UInt8} {e p : Nat} (h : SaysR s (.bad e p)) : e ≠ 0 ∧ p ≤ s.length := by
  generalize ho : Out.bad e p = o at h
  cases h with
  | bad h => cases ho; have := toks_bad _ _ _ h; exact ⟨this.1, by omega⟩
  | good h1 h2 =>
    subst ho
    obtain ⟨h3, k, rfl⟩ := TextR_bad h2
    exact ⟨by omega, (toks_told h1).1.at_ k⟩
set_option maxRecDepth 100000 in
set_option maxHeartbeats 1000000 in
theorem places_big {s : ByteArray} {w : World} {m : Int} (hm : w.cell? ⟨0, 0, none⟩ = some (.int .i64 m)) (hb : 20000 < s.size) (hs : s.size ≤ 140737488351232) :
    Calls Try.prog 5 #[.string s] w fun e w' => e = .returned (.bool true) ∧ Below w.heap.size w w' := by
  have HM := Lib.hid hm; clear hm
  go_enter Try.func5, Try.ntmps5
  go_wp2_with (go_at_call 13; refine (Law11C.awake_any HM.out).mono ?_; rintro e w1 ⟨rfl, hb1⟩)
  go_ret
  exact ⟨rfl, hb1⟩
set_option maxRecDepth 100000 in
set_option maxHeartbeats 1000000 in
theorem places_bad {s : ByteArray} {w : World} {m : Int} {x p : Nat} (hm : w.cell? ⟨0, 0, none⟩ = some (.int .i64 m)) (hs : s.size ≤ 20000) (h : SaysR s.data.toList (.bad x p)) :
    Calls Try.prog 5 #[.string s] w fun e w' => e = .returned (.bool true) ∧ Below w.heap.size w w' := by
  have hml := World.block_lt_of_cell? _ _ hm
  obtain ⟨hx, hp⟩ := says_bad h
  have hp' : p ≤ s.size := by simpa using hp
  have hxb : ((x : Int) != 0) = true := by simp; omega
  have HM := Lib.hid hm; have HT := Lib.hid h; clear hm h hp hx
  go_enter Try.func5, Try.ntmps5
  go_wp2_with (first | (go_at_call 13; refine (Law11C.awake_any HM.out).mono ?_; rintro e w1 ⟨rfl, hb1⟩; have HM1 := Lib.hid ((hb1.cell (p := ⟨0, 0, none⟩) hml).trans HM.out)) | (go_at_call 14; refine (text_any (by omega) HM1.out HT.out).mono ?_; rintro e w2 ⟨rfl, hb2⟩; have hb3 := hb1.trans (hb2.mono hb1.size)))
  go_ret
  exact ⟨rfl, (hb3.alloc hb3.size _).alloc (by have := hb3.size; simp; omega) _⟩
end Go.Proofs.Ytelpkldlkpoioaa.Law11D
