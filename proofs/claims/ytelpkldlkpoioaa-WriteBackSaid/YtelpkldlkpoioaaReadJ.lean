/- The reader of grammars' texts: a rule, walked. -/
import Derived.Test.YtelpkldlkpoioaaReadI
namespace Go.Proofs.Ytelpkldlkpoioaa.ReadJ
open Go.RowKit Go.Proofs.Ytelpkldlkpoioaa.Lexy Go.Proofs.Ytelpkldlkpoioaa.LexA Go.Proofs.Ytelpkldlkpoioaa.LexB Go.Proofs.Ytelpkldlkpoioaa.LexC Go.Proofs.Ytelpkldlkpoioaa.LexD Go.Proofs.Ytelpkldlkpoioaa.LexE Go.Proofs.Ytelpkldlkpoioaa.LexF Go.Proofs.Ytelpkldlkpoioaa.LexG Go.Proofs.Ytelpkldlkpoioaa.Heap Go.Proofs.Ytelpkldlkpoioaa.Dat Go.Proofs.Ytelpkldlkpoioaa.Ready Go.Proofs.Ytelpkldlkpoioaa.ReadA Go.Proofs.Ytelpkldlkpoioaa.ReadB Go.Proofs.Ytelpkldlkpoioaa.ReadC Go.Proofs.Ytelpkldlkpoioaa.ReadE Go.Proofs.Ytelpkldlkpoioaa.ReadD Go.Proofs.Ytelpkldlkpoioaa.ReadF Go.Proofs.Ytelpkldlkpoioaa.ReadG Go.Proofs.Ytelpkldlkpoioaa.ReadH Go.Proofs.Ytelpkldlkpoioaa.ReadI Go.Proofs.Ytelpkldlkpoioaa.Cut

/-- how a rule ended -/
def RuleQ (b g c : Nat) (T : List Tok) (w : World) : Out Ru → Ending → World → Prop
  | .ok x k1, e, w' => ∃ (pa aa : Option Addr) (pc ac : Nat) (bk : List Nat), e = .returned (.agg #[.string (bs x.name), .slice pa x.params.length pc, .slice aa x.alts.length ac, .int .i64 (x.at_ : Int)]) ∧ LiesL w' w.heap.size (ruD x) [.string (bs x.name), .slice pa x.params.length pc, .slice aa x.alts.length ac, .int .i64 (x.at_ : Int)] bk ∧ bk.Nodup ∧ w.grownBy w' (some b) ∧ Rr w' b g c T k1
  | .bad x p, e, w' => e = .panicked (thrownF (x : Int) (p : Int)) ∧ w.grownBy w' (some b)
/-- a rule that is being read, and where its answer is laid -/
structure RuS (w w' : World) (Hx b g c : Nat) (T : List Tok) (nm : List UInt8) (at_ k : Nat) (ps : List (List UInt8)) (zs : List Al) : Prop where
  i : RuleI Hx w.heap.size b g c (Hx + 1) T (bs nm) (at_ : Int) k ps zs w'
  bx : Bx w.heap.size b w w'
  hz : w'.heap[w.heap.size + 1]? = some (.cells #[.string { data := #[] }, .slice none 0 0, .slice none 0 0, .int .i64 0] 48 (0, 0))
  hx : w.heap.size + 1 < Hx
variable {w w' w2 : World} {Hx b g c k k' at_ : Nat} {T : List Tok} {nm : List UInt8} {ps ps' : List (List UInt8)} {zs zs' : List Al}
theorem RuS.went (h : RuS w w' Hx b g c T nm at_ k ps zs) (hbw : b < w.heap.size) (hb : Bx (w.heap.size + 1 + 1) b w' w2) (hi : RuleI Hx w.heap.size b g c (Hx + 1) T (bs nm) (at_ : Int) k' ps' zs' w2) : RuS w w2 Hx b g c T nm at_ k' ps' zs' :=
  ⟨hi, h.bx.trans (bx_less hb (by omega)), (hb.block _ (by omega) (by omega)).trans h.hz, h.hx⟩
theorem RuS.go (h : RuS w w' Hx b g c T nm at_ k ps zs) (hbw : b < w.heap.size) (hgw : g < w.heap.size) (hg : w'.grownBy w2 (some b)) (hR : Rr w2 b g c T k') : RuS w w2 Hx b g c T nm at_ k' ps zs := by
  have hx := h.hx
  have hs := h.i.base
  exact h.went hbw ((Bx.refl _ b w').grown hg (by omega) (fun j hj => .inl (Option.some.inj hj).symm)) (h.i.go ⟨by omega, by omega, by omega, by omega⟩ ⟨by omega, by omega⟩ hg hR)
theorem RuS.below (h : RuS w w' Hx b g c T nm at_ k ps zs) (hbw : b < w.heap.size) (hgw : g < w.heap.size) (hb : Below w'.heap.size w' w2) : RuS w w2 Hx b g c T nm at_ k ps zs := h.go hbw hgw (grown_below hb _) (h.i.rr.new hb)
theorem RuS.bounds (h : RuS w w' Hx b g c T nm at_ k ps zs) (hbw : b < w.heap.size) (hgw : g < w.heap.size) : (b < Hx + 1 ∧ g < Hx + 1 ∧ Hx < Hx + 1 ∧ w.heap.size < Hx + 1) ∧ (Hx ≠ b ∧ w.heap.size ≠ b ∧ w.heap.size ≠ Hx ∧ Hx ≠ g) ∧ w.heap.size + 1 + 1 ≤ Hx := by
  have := h.hx
  exact ⟨⟨by omega, by omega, by omega, by omega⟩, ⟨by omega, by omega, by omega, by omega⟩, by omega⟩
theorem RuS.given {o : Ends2 (List (List UInt8))} (h : RuS w w' Hx b g c T nm at_ k [] []) (hbw : b < w.heap.size) (hgw : g < w.heap.size) (hT : Ready.Ends T) (hT2 : T.length ≤ 1000000) (hk : k < T.length) (ho : GR T (NPS T) k [] o) :
    Calls Try.prog 64 #[.pointer (some ⟨b, 0, none⟩), .func (.func 65) #[] #[.pointer (some ⟨Hx, 0, none⟩), .pointer (some ⟨w.heap.size, 0, none⟩)]] w' fun e w2 => match o with
      | .inl (k1, ps) => e = .returned (.tuple #[]) ∧ RuS w w2 Hx b g c T nm at_ k1 ps []
      | .inr (x, p) => e = .panicked (thrownF (x : Int) (p : Int)) ∧ w.grownBy w2 (some b) := by
  obtain ⟨h1, h2, h3⟩ := h.bounds hbw hgw
  refine (given_any (rule_part1 (nm := bs nm) (at_ := (at_ : Int)) (zs := []) hT hT2 h1 h2 h3) hT hT2 ho hk h.i).mono fun e w2 hq => ?_
  rcases o with ⟨k1, s1⟩ | ⟨x, p⟩
  · exact ⟨hq.1, h.went hbw hq.2.2 hq.2.1⟩
  · exact ⟨hq.1, (h.bx.trans (bx_less hq.2 (by omega))).to⟩
theorem RuS.list {o : Ends2 (List Al)} (h : RuS w w' Hx b g c T nm at_ k ps []) (hbw : b < w.heap.size) (hgw : g < w.heap.size) (hAt : ∀ i, (tok T i).at_ ≤ 1000000000) (hT : Ready.Ends T) (hT2 : T.length ≤ 1000000) (hk : k < T.length) (ho : LR T [124] (APS T) k [] o) :
    Calls Try.prog 66 #[.pointer (some ⟨b, 0, none⟩), .string (bs [124]), .func (.func 67) #[] #[.pointer (some ⟨Hx, 0, none⟩), .pointer (some ⟨w.heap.size, 0, none⟩)]] w' fun e w2 => match o with
      | .inl (k1, zs) => e = .returned (.tuple #[]) ∧ RuS w w2 Hx b g c T nm at_ k1 ps zs
      | .inr (x, p) => e = .panicked (thrownF (x : Int) (p : Int)) ∧ w.grownBy w2 (some b) := by
  obtain ⟨h1, h2, h3⟩ := h.bounds hbw hgw
  refine (list_any (rule_part2 (nm := bs nm) (at_ := (at_ : Int)) (ps := ps) hAt hT hT2 h1 h2 h3) hT hT2 ho hk h.i).mono fun e w2 hq => ?_
  rcases o with ⟨k1, s1⟩ | ⟨x, p⟩
  · exact ⟨hq.1, h.went hbw hq.2.2 hq.2.1⟩
  · exact ⟨hq.1, (h.bx.trans (bx_less hq.2 (by omega))).to⟩
theorem tok4h {w : World} {H : Nat} {u0 u1 u2 u3 : Value} {t : TypeId} (h : w.heap[H]? = some (.cells #[u0, u1, u2, u3] t (0, 0))) (v0 v1 v2 v3 : Value) :
    ((((w.setCell ⟨H, 0, none⟩ v0).setCell ⟨H, 1, none⟩ v1).setCell ⟨H, 2, none⟩ v2).setCell ⟨H, 3, none⟩ v3).heap[H]? = some (.cells #[v0, v1, v2, v3] t (0, 0)) :=
  heap_setCell_same _ H 3 _ _ v3 (heap_setCell_same _ H 2 _ _ v2 (heap_setCell_same _ H 1 _ _ v1 (heap_setCell_same w H 0 _ _ v0 h)))
theorem grown_set4 (w : World) (H : Nat) (v0 v1 v2 v3 : Value) : w.grownBy ((((w.setCell ⟨H, 0, none⟩ v0).setCell ⟨H, 1, none⟩ v1).setCell ⟨H, 2, none⟩ v2).setCell ⟨H, 3, none⟩ v3) (some H) :=
  Heap.grown_trans (Heap.grown_trans (Heap.grown_trans (Heap.grown_set w ⟨H, 0, none⟩ v0) (Heap.grown_set _ ⟨H, 1, none⟩ v1)) (Heap.grown_set _ ⟨H, 2, none⟩ v2)) (Heap.grown_set _ ⟨H, 3, none⟩ v3)
/-- its beginning -/
theorem RuS.start (hbw : b < w.heap.size) (hgw : g < w.heap.size) {w0 : World} (hw0 : Below w.heap.size w w0) (hr : w0.heap[w.heap.size]? = some (.cells #[.pointer (some ⟨b, 0, none⟩)] 71 (0, 0))) (hz : w0.heap[w.heap.size + 1]? = some (.cells #[.string { data := #[] }, .slice none 0 0, .slice none 0 0, .int .i64 0] 48 (0, 0)))
    (hg : w0.grownBy w' (some b)) (hR : Rr w' b g c T k) (hH : w0.heap.size ≤ Hx) {E : Value × Value × Value × Value} (hc : w'.heap[Hx]? = some (.cells #[E.1, E.2.1, E.2.2.1, E.2.2.2] 48 (0, 0))) :
    RuS w ((((w'.setCell ⟨Hx, 0, none⟩ (.string (bs nm))).setCell ⟨Hx, 1, none⟩ (.slice none 0 0)).setCell ⟨Hx, 2, none⟩ (.slice none 0 0)).setCell ⟨Hx, 3, none⟩ (.int .i64 (at_ : Int))) Hx b g c T nm at_ k [] [] := by
  have l1 := (Array.getElem?_eq_some_iff.1 hr).1; have l2 := (Array.getElem?_eq_some_iff.1 hz).1; have l3 := (Array.getElem?_eq_some_iff.1 hc).1
  have hs := grown_set4 w' Hx (.string (bs nm)) (.slice none 0 0) (.slice none 0 0) (.int .i64 (at_ : Int))
  have hsz := hs.size
  refine ⟨⟨hR.grown hs (by simp; omega) (by simp; omega), (hs.block _ (by have := hg.size; omega) (by simp; omega)).trans ((hg.block _ l1 (by simp; omega)).trans hr), ⟨_, _, [], [], tok4h hc _ _ _ _, by simpa [nmsD] using Lies.nil _ _ _ _, by simpa [alsD] using Lies.nil _ _ _ _, List.nodup_nil⟩, by omega⟩, ?_, (hs.block _ (by have := hg.size; omega) (by simp; omega)).trans ((hg.block _ l2 (by simp; omega)).trans hz), by omega⟩
  exact (((Bx.refl _ b w).below hw0 (Nat.le_refl _)).grown hg hw0.size (fun j hj => .inl (Option.some.inj hj).symm)).grown hs (Nat.le_trans hw0.size hg.size) (fun j hj => .inr (by have : Hx = j := Option.some.inj hj; omega))
/-- its end -/
theorem RuS.done (h : RuS w w' Hx b g c T nm at_ k ps zs) (hbw : b < w.heap.size) (hgw : g < w.heap.size) {vp va v0 v1 v2 v3 : Value} (h1' : w'.cell? ⟨Hx, 1, none⟩ = some vp) (h2' : w'.cell? ⟨Hx, 2, none⟩ = some va) (h0 : v0 = .string (bs nm)) (h1 : v1 = vp) (h2 : v2 = va) (h3 : v3 = .int .i64 (at_ : Int)) :
    RuleQ b g c T w (.ok ⟨nm, ps, zs, at_⟩ k) (.returned (.agg #[v0, v1, v2, v3])) ((((w'.setCell ⟨w.heap.size + 1, 0, none⟩ v0).setCell ⟨w.heap.size + 1, 1, none⟩ v1).setCell ⟨w.heap.size + 1, 2, none⟩ v2).setCell ⟨w.heap.size + 1, 3, none⟩ v3) := by
  subst h0 h1 h2 h3
  obtain ⟨hi, hbx, hz, hx⟩ := h
  obtain ⟨hR, hHr, ⟨wp, wa, bp, ba, hH, hp, ha, hnd⟩, b6⟩ := hi
  obtain ⟨⟨_, c1, c2, _⟩, _⟩ := cells4 hH
  obtain rfl : v1 = wp := Option.some.inj (h1'.symm.trans c1)
  obtain rfl : v2 = wa := Option.some.inj (h2'.symm.trans c2)
  obtain ⟨pa, pc, rfl⟩ := row_slice hp
  obtain ⟨aa, ac, rfl⟩ := row_slice ha
  have hg := grown_set4 w' (w.heap.size + 1) (.string (bs nm)) (.slice pa ps.length pc) (.slice aa zs.length ac) (.int .i64 (at_ : Int))
  have hb1 : ∀ {d v bk}, Lies w' (Hx + 1) d v bk → ∀ j ∈ bk, some j ≠ some (w.heap.size + 1) := fun hL j hj e => by have := (Lies.lt hL j hj).1; have : j = w.heap.size + 1 := Option.some.inj e; omega
  have hB : w.heap.size ≤ Hx + 1 := by omega
  refine ⟨pa, aa, pc, ac, bp ++ (ba ++ []), rfl, LiesL.lit (LiesL.more (Lies.base hB (Lies.kept hg hp (hb1 hp))) (LiesL.more (Lies.base hB (Lies.kept hg ha (hb1 ha))) (LiesL.lit (LiesL.nil.2 ⟨rfl, rfl⟩)))), by simpa using hnd, (hbx.grown hg hbx.size (fun j hj => .inr (by have : w.heap.size + 1 = j := Option.some.inj hj; omega))).to, hR.grown hg (by simp; omega) (by simp; omega)⟩
theorem res_rule {w : World} {H : Nat} {v0 v1 v2 v3 : Value} {tmps : Array Value} (hH : w.heap[H]? = some (.cells #[v0, v1, v2, v3] 48 (0, 0)))
    (h2 : tmps[2]?.getD undef = .pointer (some ⟨H, 0, none⟩)) : (results Try.f38 tmps).run Try.prog w = .ok (.agg #[v0, v1, v2, v3]) w := by
  obtain ⟨⟨a0, a1, a2, a3⟩, _⟩ := cells4 hH
  simp [results, Try.results38, go_sem, h2, a0, a1, a2, a3]
end Go.Proofs.Ytelpkldlkpoioaa.ReadJ
