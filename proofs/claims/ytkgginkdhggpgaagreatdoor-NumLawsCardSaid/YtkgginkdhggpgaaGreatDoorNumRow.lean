/- What the rows of the laws of numbers share: what the listed variables give the walk. -/
import Derived.Test.YtkgginkdhggpgaaGreatDoorRows
import Derived.Test.YtkgginkdhggpgaaGreatDoorCards
import Derived.Test.YtkgginkdhggpgaaGreatDoorTie
import Derived.Test.YtkgginkdhggpgaaGreatDoorNumJ
import Derived.ProofKit
import Derived.OpenShut
import Derived.ShutString
import Derived.HandedShaped
import Derived.LaidMore
import Derived.Lay
import Derived.SevenTiedAt
import Derived.Stop.Joined
import Derived.Stop.LaidErr
import Derived.Lib.LaidTab
namespace Go.Proofs.YtkgginkdhggpgaaGreatDoor.NumRow
open Go.ChangeShapes Go.WideShapes Go.ChangeAt Go.RowKit Go.Proofs.YtkgginkdhggpgaaGreatDoor.NumH

theorem own : ownKnob Tryz.prog.godebug = none := by kernel_rfl
/-- a condition, and the world's shape -/
theorem handed_and_shaped {H : Type} {enc : TypeId × Value → H} {a : Assume} {C : Checked} {os : Os} {f : FuncId} {fn : Func} {s : ChangeSpec} {conds : List PathCond} {apart fresh handsOn again : Bool} {X : World → Array Value → Prop}
    (hX : ∀ (w w' : World) (args : Array Value), w.heap = w'.heap → X w args → X w' args)
    (own : ownKnob C.prog.godebug = none) (started : os.Started) (noInit : C.prog.inits.idxOf? f = none) (hfn : C.prog.funcs[f]? = some fn)
    (witness : ∃ (w : World) (tape : Tape) (i : Input), w.os = os ∧ (w.forCall tape i).Shaped C.prog ∧ i.vars = [] ∧ Input.okWide C.prog (w.forCall tape i) .any w.heap.size f i ∧
      ((s.pre enc C.prog fn conds apart (w.forCall tape i).memory i.args ∧ X (w.forCall tape i).memory i.args) ∧ sizedMet enc C.prog fn (OpenSpec.ofChange s) apart (w.forCall tape i).memory i.args) ∧ a.holds C.prog (lone (Frame.enter C.prog f i.args .normal) [] (w.forCall tape i)))
    (contract : ∀ (W : World) (base : Nat) (args : Array Value) (ds gs : List (DataW H)) (before : List MemPlace),
      (∀ (j : Nat) t v, fn.params[j]? = some t → args[j]? = some v → Value.okWide C.prog W .any base t v) →
      DataW.Whole enc C.prog fn.params.toList s.vars apart W args.toList ds gs before →
      conds.all (PathCond.test C.prog ⟨fn.params.toList, ds, s.plain.varTypes C.prog, gs⟩) = true →
      X W args → W.ShapedOpen C.prog →
      Calls C.prog f args W fun e W' => ∃ v, e = .returned v ∧ s.post enc C.prog fn apart fresh handsOn again W args v W') :
    ReturnsInHanded a C os f .any (fun w args => (s.pre enc C.prog fn conds apart w args ∧ X w args) ∧ sizedMet enc C.prog fn (OpenSpec.ofChange s) apart w args) (s.post enc C.prog fn apart fresh handsOn again) := by
  refine returnsInHanded_of_calls own started noInit witness ?_
  intro w tape i _ hsh _ hok hpre hholds
  obtain ⟨_, _, _, fn', hfn', _, _, _, _, hval⟩ := hok
  have e : fn' = fn := Option.some.inj (hfn'.symm.trans hfn)
  subst e
  obtain ⟨⟨⟨ds, gs, before, hw, hc⟩, hx⟩, hz⟩ := hpre
  have hw' := DataW.Whole.of_heap (w' := w.forCall tape i) (by rfl) hw
  refine (contract (w.forCall tape i) w.heap.size i.args ds gs before hval hw' hc (hX _ _ _ (by rfl) hx) hsh).mono fun e W' ⟨v, he, hp⟩ => ?_
  subst he
  exact ChangeSpec.post_blind hp

theorem laid_head {P : Program} {W : World} {name : String} {d : DataW Unit} {rest : List (String × DataW Unit)} (h : laidMet P ((name, d) :: rest) W) :
    ∃ (g : Nat) (t : TypeId) (cs : Array Value) (fuel : Nat) (p : List MemPlace), P.globalNamed name = some g ∧ (P.globals[g]?).map (·.type) = some t ∧ (∀ i, W.cell? ⟨g, i, none⟩ = cs[i]?) ∧ DataW.trod (fun _ => ()) P W 0 (fun _ => true) false fuel t cs.toList = some (d, p) := by
  obtain ⟨ps, ⟨g, t, cs, fuel, p, q, hg, ht, hvar, hd, _, _⟩, _⟩ := h
  exact ⟨g, t, cs, fuel, p, hg, ht, fun i => World.var?_cell hg hvar i, hd⟩
section
variable {enc : TypeId × Value → Unit} {P : Program} {w : World} {base : Nat} {sp : Nat → Bool} {held : Bool} {fuel : Nat} {t : TypeId} {p : List MemPlace}
theorem lit_bool {cs : List Value} {b : Bool} (ht : P.underlying t = some .bool) (h : DataW.trod enc P w base sp held fuel t cs = some (.lit (.bool b), p)) : cs = [.bool b] := by
  cases fuel with
  | zero => simp [DataW.trod] at h
  | succ fuel =>
    simp only [DataW.trod, ht] at h
    split at h <;> simp_all
theorem lit_int {cs : List Value} {k : IntKind} {n : Int} (ht : P.underlying t = some (.int k)) (h : DataW.trod enc P w base sp held fuel t cs = some (.lit (.int k n), p)) : cs = [.int k n] := by
  cases fuel with
  | zero => simp [DataW.trod] at h
  | succ fuel =>
    simp only [DataW.trod, ht] at h
    split at h <;> simp_all
theorem lit_float {cs : List Value} {k : FloatKind} {n : Nat} (ht : P.underlying t = some (.float k)) (h : DataW.trod enc P w base sp held fuel t cs = some (.lit (.float k n), p)) : cs = [.float k n] := by
  cases fuel with
  | zero => simp [DataW.trod] at h
  | succ fuel =>
    simp only [DataW.trod, ht] at h
    split at h <;> simp_all
end
theorem opt_of {W : World} {rest : List (String × DataW Unit)} (h : laidMet Tryz.prog (("internal/strconv.optimize", Rows.laid_internal_strconv_optimize) :: rest) W) : W.cell? ⟨5, 0, none⟩ = some (.bool true) := by
  obtain ⟨g, t, cs, fuel, p, hg, ht, hc, hd⟩ := laid_head h
  obtain rfl := Option.some.inj ((show Tryz.prog.globalNamed "internal/strconv.optimize" = some 5 by kernel_rfl).symm.trans hg)
  obtain rfl := Option.some.inj ((show (Tryz.prog.globals[5]?).map (·.type) = some 4 by kernel_rfl).symm.trans ht)
  have hl := lit_bool Tryz.underlying4 hd
  rw [hc 0, ← Array.getElem?_toList, hl]
  rfl
theorem mant_of {W : World} {rest : List (String × DataW Unit)} (h : laidMet Tryz.prog (("internal/strconv.float64info", Rows.laid_internal_strconv_float64info) :: rest) W) : W.cell? ⟨6, 0, none⟩ = some (.int .u64 52) := by
  obtain ⟨g, t, cs, fuel, p, hg, ht, hc, hd⟩ := laid_head h
  obtain rfl := Option.some.inj ((show Tryz.prog.globalNamed "internal/strconv.float64info" = some 6 by kernel_rfl).symm.trans hg)
  obtain rfl := Option.some.inj ((show (Tryz.prog.globals[6]?).map (·.type) = some 107 by kernel_rfl).symm.trans ht)
  rw [hc 0, ← Array.getElem?_toList]
  generalize cs.toList = l at *
  obtain ⟨xs, n, _, hx, hlen, hxl, hf⟩ := DataW.trod_struct Tryz.underlying107 hd
  have h0 := hf 0 _ rfl
  have hx1 : xs.map (·.1) = [.lit (.int .u64 52), .lit (.int .u64 11), .lit (.int .i64 (-1023))] := by
    have := congrArg Prod.fst hx
    simpa [Rows.laid_internal_strconv_float64info] using this.symm
  cases xs with
  | nil => simp at hx1
  | cons y ys =>
    obtain ⟨y1, y2⟩ := y
    simp only [List.map_cons, List.cons.injEq] at hx1
    obtain ⟨rfl, _⟩ := hx1
    have hv := lit_int Tryz.underlying64 (show DataW.trod (fun _ => ()) Tryz.prog W 0 (fun _ => true) false n 64 ((l.drop 0).take (Tryz.prog.cellsOf 64)) = some (.lit (.int .u64 52), y2) from h0)
    rw [show Tryz.prog.cellsOf 64 = 1 by kernel_rfl] at hv
    cases l with
    | nil => simp at hv
    | cons z zs => simpa using hv
theorem tab_of {W : World} {rest : List (String × DataW Unit)} (h : laidMet Tryz.prog (("internal/strconv.float64pow10", Rows.laid_internal_strconv_float64pow10) :: rest) W) : ∃ b o c, W.cell? ⟨11, 0, none⟩ = some (.slice (some ⟨b, o, none⟩) 23 c) ∧ W.cell? ⟨b, o + 1, none⟩ = some (.float .f64 4621819117588971520) := by
  obtain ⟨g, t, cs, fuel, p, hg, ht, hc, hd⟩ := laid_head h
  obtain rfl := Option.some.inj ((show Tryz.prog.globalNamed "internal/strconv.float64pow10" = some 11 by kernel_rfl).symm.trans hg)
  obtain rfl := Option.some.inj ((show (Tryz.prog.globals[11]?).map (·.type) = some 150 by kernel_rfl).symm.trans ht)
  obtain ⟨a, c, hl, _, hel⟩ := open_row Tryz.underlying150 (show Tryz.prog.cellsOf 42 = 1 by kernel_rfl) hd
  obtain ⟨v0, n0, q0, h0, _⟩ := hel 0 _ rfl
  obtain ⟨v1, n1, q1, h1, hd1⟩ := hel 1 _ rfl
  have hv := lit_float Tryz.underlying42 hd1
  obtain rfl : v1 = .float .f64 4621819117588971520 := by simpa using hv
  obtain ⟨b, o, spot⟩ := a
  have hs : spot = none := by
    have h0' : W.cell? ⟨b, o, spot⟩ = some v0 := h0
    unfold World.cell? at h0'
    cases spot with
    | none => rfl
    | some k => simp at h0'; split at h0' <;> simp at h0'
  subst hs
  refine ⟨b, o, c, ?_, h1⟩
  rw [hc 0, ← Array.getElem?_toList, hl]
  rfl
theorem gn_of {W : World} (h : laidMet Tryz.prog Rows.numIntsRow.laid W) (hsh : W.ShapedOpen Tryz.prog) : Gn W :=
  ⟨Tryz.laysM145.s1_3 W hsh, opt_of h.tail.tail.tail.tail, mant_of h.tail.tail.tail, tab_of h.tail.tail.tail.tail.tail.tail⟩
theorem u64_of {n : Int} (h : (Lit.int .u64 n).wf = true) : ∃ b : Nat, n = (b : Int) ∧ b < 18446744073709551616 := by
  simp [Lit.wf] at h
  have h1 : IntKind.u64.min = 0 := rfl
  have h2 : IntKind.u64.max = 18446744073709551615 := by decide
  rw [h1, h2] at h
  exact ⟨n.toNat, by omega, by omega⟩
theorem i64_of {n : Int} (h : (Lit.int .i64 n).wf = true) : -9223372036854775808 ≤ n ∧ n ≤ 9223372036854775807 := by
  simp [Lit.wf] at h
  have h1 : IntKind.i64.min = -9223372036854775808 := by decide
  rw [h1] at h
  exact h
end Go.Proofs.YtkgginkdhggpgaaGreatDoor.NumRow
