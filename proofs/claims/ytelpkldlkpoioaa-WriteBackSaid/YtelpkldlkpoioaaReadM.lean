/- The reader of grammars' texts: a declaration: what it is while it is read. -/
import Derived.Test.YtelpkldlkpoioaaReadL
namespace Go.Proofs.Ytelpkldlkpoioaa.ReadM
open Go.RowKit Go.Proofs.Ytelpkldlkpoioaa.Lexy Go.Proofs.Ytelpkldlkpoioaa.LexA Go.Proofs.Ytelpkldlkpoioaa.LexB Go.Proofs.Ytelpkldlkpoioaa.LexC Go.Proofs.Ytelpkldlkpoioaa.LexD Go.Proofs.Ytelpkldlkpoioaa.LexE Go.Proofs.Ytelpkldlkpoioaa.LexF Go.Proofs.Ytelpkldlkpoioaa.LexG Go.Proofs.Ytelpkldlkpoioaa.Heap Go.Proofs.Ytelpkldlkpoioaa.Dat Go.Proofs.Ytelpkldlkpoioaa.Ready Go.Proofs.Ytelpkldlkpoioaa.ReadA Go.Proofs.Ytelpkldlkpoioaa.ReadB Go.Proofs.Ytelpkldlkpoioaa.ReadC Go.Proofs.Ytelpkldlkpoioaa.ReadE Go.Proofs.Ytelpkldlkpoioaa.ReadD Go.Proofs.Ytelpkldlkpoioaa.ReadF Go.Proofs.Ytelpkldlkpoioaa.ReadG Go.Proofs.Ytelpkldlkpoioaa.ReadH Go.Proofs.Ytelpkldlkpoioaa.ReadI Go.Proofs.Ytelpkldlkpoioaa.ReadJ Go.Proofs.Ytelpkldlkpoioaa.ReadL Go.Proofs.Ytelpkldlkpoioaa.Cut

/-- a declaration's cells -/
def deD (x : De) : List Dat := [.lit (.string (bs x.kind)), .lit (.string (bs x.type)), .row 9 1 x.names.length (nmsD x.names), .lit (.int .i64 (x.at_ : Int))]
/-- how a declaration ended -/
def DeclQ (b g c : Nat) (T : List Tok) (w : World) : Out De → Ending → World → Prop
  | .ok x k1, e, w' => ∃ (na : Option Addr) (nc : Nat) (bk : List Nat), e = .returned (.agg #[.string (bs x.kind), .string (bs x.type), .slice na x.names.length nc, .int .i64 (x.at_ : Int)]) ∧ LiesL w' w.heap.size (deD x) [.string (bs x.kind), .string (bs x.type), .slice na x.names.length nc, .int .i64 (x.at_ : Int)] bk ∧ bk.Nodup ∧ w.grownBy w' (some b) ∧ Rr w' b g c T k1
  | .bad x p, e, w' => e = .panicked (thrownF (x : Int) (p : Int)) ∧ w.grownBy w' (some b)
/-- a declaration that is being read -/
structure DeS (w w' : World) (Hd b g c : Nat) (T : List Tok) (kd ty : List UInt8) (at_ k : Nat) (ns : List (List UInt8)) : Prop where
  bx : Bx w.heap.size b w w'
  rr : Rr w' b g c T k
  hz : w'.heap[w.heap.size]? = some (.cells #[.string { data := #[] }, .string { data := #[] }, .slice none 0 0, .int .i64 0] 45 (0, 0))
  row : ∃ vn bn, w'.heap[Hd]? = some (.cells #[.string (bs kd), .string (bs ty), vn, .int .i64 (at_ : Int)] 45 (0, 0)) ∧ Lies w' (Hd + 1) (.row 9 1 ns.length (nmsD ns)) vn bn ∧ bn.Nodup
  base : w.heap.size < Hd
variable {w w' w2 : World} {Hd b g c k k' at_ : Nat} {T : List Tok} {kd ty kd' ty' : List UInt8} {ns ns' : List (List UInt8)}
theorem DeS.go (h : DeS w w' Hd b g c T kd ty at_ k ns) (hbw : b < w.heap.size) (hg : w'.grownBy w2 (some b)) (hR : Rr w2 b g c T k') : DeS w w2 Hd b g c T kd ty at_ k' ns := by
  obtain ⟨vn, bn, hH, hL, hnd⟩ := h.row
  have hb := h.base
  exact ⟨h.bx.grown hg h.bx.size (fun j hj => .inl (Option.some.inj hj).symm), hR, (hg.block _ (Array.getElem?_eq_some_iff.1 h.hz).1 (by simp; omega)).trans h.hz, ⟨vn, bn, (hg.block _ (Array.getElem?_eq_some_iff.1 hH).1 (by simp; omega)).trans hH, Lies.kept hg hL (fun j hj e => by have := (Lies.lt hL j hj).1; have : j = b := Option.some.inj e; omega), hnd⟩, hb⟩
theorem DeS.below (h : DeS w w' Hd b g c T kd ty at_ k ns) (hbw : b < w.heap.size) (hb : Below w'.heap.size w' w2) : DeS w w2 Hd b g c T kd ty at_ k ns := h.go hbw (grown_below hb _) (h.rr.new hb)
/-- a store of its word, or of its type -/
theorem DeS.put {i : Nat} {v vn : Value} (h : DeS w w' Hd b g c T kd ty at_ k ns) (hbw : b < w.heap.size) (hgw : g < w.heap.size) (hH : w'.heap[Hd]? = some (.cells #[.string (bs kd), .string (bs ty), vn, .int .i64 (at_ : Int)] 45 (0, 0)))
    (hs : #[.string (bs kd), .string (bs ty), vn, .int .i64 (at_ : Int)].setIfInBounds i v = #[.string (bs kd'), .string (bs ty'), vn, .int .i64 (at_ : Int)]) : DeS w (w'.setCell ⟨Hd, i, none⟩ v) Hd b g c T kd' ty' at_ k ns := by
  have h0 := h.base
  have hg := Heap.grown_set w' ⟨Hd, i, none⟩ v
  have hH' := heap_setCell_same w' Hd i _ _ v hH
  rw [hs] at hH'
  obtain ⟨vb, bk, hB, hL, hnd⟩ := h.row
  obtain ⟨⟨_, _, c2, _⟩, _⟩ := cells4 hB
  obtain ⟨⟨_, _, d2, _⟩, _⟩ := cells4 hH
  obtain rfl : vn = vb := Option.some.inj (d2.symm.trans c2)
  exact ⟨h.bx.set (.inr (by omega)) i v h.bx.size, h.rr.grown hg (by simp; omega) (by simp; omega), (hg.block _ (Array.getElem?_eq_some_iff.1 h.hz).1 (by simp; omega)).trans h.hz, ⟨vn, bk, hH', Lies.kept hg hL (fun j hj e => by have := (Lies.lt hL j hj).1; have : j = Hd := Option.some.inj e; omega), hnd⟩, h0⟩
theorem DeS.slice {v0 v1 vn v3 : Value} (h : DeS w w' Hd b g c T kd ty at_ k ns) (hH : w'.heap[Hd]? = some (.cells #[v0, v1, vn, v3] 45 (0, 0))) : ∃ a cc, vn = .slice a ns.length cc := by
  obtain ⟨vb, bk, hB, hL, hnd⟩ := h.row
  obtain ⟨⟨_, _, c2, _⟩, _⟩ := cells4 hB
  obtain ⟨⟨_, _, d2, _⟩, _⟩ := cells4 hH
  obtain rfl : vn = vb := Option.some.inj (d2.symm.trans c2)
  exact row_slice hL
/-- a name more -/
theorem DeS.more {wa : World} {va v : Value} {bk' : List Nat} (h : DeS w w2 Hd b g c T kd ty at_ k ns) (hbw : b < w.heap.size) (hgw : g < w.heap.size) (hH : w2.heap[Hd]? = some (.cells #[.string (bs kd), .string (bs ty), va, .int .i64 (at_ : Int)] 45 (0, 0)))
    (hb : Bx (Hd + 1) b w2 wa) (hR : Rr wa b g c T k') (hL : Lies (wa.setCell ⟨Hd, 2, none⟩ v) (Hd + 1) (.row 9 1 ns'.length (nmsD ns')) v bk') (hnd : bk'.Nodup) : DeS w (wa.setCell ⟨Hd, 2, none⟩ v) Hd b g c T kd ty at_ k' ns' := by
  have h0 := h.base
  have hs := h.bx.size
  have hg := Heap.grown_set wa ⟨Hd, 2, none⟩ v
  have hz := (hb.block w.heap.size (by omega) (by omega)).trans h.hz
  have ha := (hb.block Hd (by omega) (by omega)).trans hH
  exact ⟨(h.bx.trans (bx_less hb (by omega))).set (.inr (by omega)) 2 v (by have := hb.size; omega), hR.grown hg (by simp; omega) (by simp; omega), (hg.block _ (Array.getElem?_eq_some_iff.1 hz).1 (by simp; omega)).trans hz, ⟨v, bk', heap_setCell_same _ _ 2 _ _ _ ha, hL, hnd⟩, h0⟩
theorem DeS.start {w1 : World} (_hbw : b < w.heap.size) (hR : Rr w b g c T k) (hb1 : Below (w.alloc (.cells #[.string { data := #[] }, .string { data := #[] }, .slice none 0 0, .int .i64 0] 45)).heap.size (w.alloc (.cells #[.string { data := #[] }, .string { data := #[] }, .slice none 0 0, .int .i64 0] 45)) w1) :
    DeS w (w1.alloc (.cells #[.string { data := #[] }, .string { data := #[] }, .slice none 0 0, .int .i64 (at_ : Int)] 45)) w1.heap.size b g c T [] [] at_ k [] := by
  have hs : w.heap.size + 1 ≤ w1.heap.size := by simpa using hb1.size
  have h0 : Below w.heap.size w w1 := ((Below.refl _ w).alloc (Nat.le_refl _) _).trans (hb1.mono (by simp))
  exact ⟨((Bx.refl _ b w).below h0 (Nat.le_refl _)).below ((Below.refl _ _).alloc (Nat.le_refl _) _) h0.size, (hR.new h0).new ((Below.refl _ _).alloc (Nat.le_refl _) _), (Below.heap_alloc _ _ _ (by omega)).trans ((hb1.block _ (by simp)).trans (heap_alloc_new w _)), ⟨_, [], heap_alloc_new w1 _, by simpa [nmsD] using Lies.nil _ _ _ _, List.nodup_nil⟩, by omega⟩
theorem DeS.done {vn v0 v1 v2 v3 : Value} (h : DeS w w' Hd b g c T kd ty at_ k ns) (hbw : b < w.heap.size) (hgw : g < w.heap.size) (h2' : w'.cell? ⟨Hd, 2, none⟩ = some vn) (h0 : v0 = .string (bs kd)) (h1 : v1 = .string (bs ty)) (h2 : v2 = vn) (h3 : v3 = .int .i64 (at_ : Int)) :
    DeclQ b g c T w (.ok ⟨kd, ty, ns, at_⟩ k) (.returned (.agg #[v0, v1, v2, v3])) ((((w'.setCell ⟨w.heap.size, 0, none⟩ v0).setCell ⟨w.heap.size, 1, none⟩ v1).setCell ⟨w.heap.size, 2, none⟩ v2).setCell ⟨w.heap.size, 3, none⟩ v3) := by
  subst h0 h1 h2 h3
  obtain ⟨hbx, hR, hz, ⟨vb, bk, hB, hL, hnd⟩, hx⟩ := h
  obtain ⟨⟨_, _, c2, _⟩, _⟩ := cells4 hB
  obtain rfl : v2 = vb := Option.some.inj (h2'.symm.trans c2)
  obtain ⟨na, nc, rfl⟩ := row_slice hL
  have hg := grown_set4 w' w.heap.size (.string (bs kd)) (.string (bs ty)) (.slice na ns.length nc) (.int .i64 (at_ : Int))
  refine ⟨na, nc, bk ++ [], rfl, LiesL.lit (LiesL.lit (LiesL.more (Lies.base (by omega) (Lies.kept hg hL (fun j hj e => by have := (Lies.lt hL j hj).1; have : j = w.heap.size := Option.some.inj e; omega))) (LiesL.lit (LiesL.nil.2 ⟨rfl, rfl⟩)))), by simpa using hnd, (hbx.grown hg hbx.size (fun j hj => .inr (by have : w.heap.size = j := Option.some.inj hj; omega))).to, hR.grown hg (by simp; omega) (by simp; omega)⟩
theorem res_decl {w : World} {H : Nat} {v0 v1 v2 v3 : Value} {tmps : Array Value} (hH : w.heap[H]? = some (.cells #[v0, v1, v2, v3] 45 (0, 0)))
    (h2 : tmps[2]?.getD undef = .pointer (some ⟨H, 0, none⟩)) : (results Try.f36 tmps).run Try.prog w = .ok (.agg #[v0, v1, v2, v3]) w := by
  obtain ⟨⟨a0, a1, a2, a3⟩, _⟩ := cells4 hH
  simp [results, Try.results36, go_sem, h2, a0, a1, a2, a3]
end Go.Proofs.Ytelpkldlkpoioaa.ReadM
