/- An argument that is a grammar's text: it reads as one. -/
import Derived.Test.YtghebacphjglbaaGreatWrE
import Derived.Test.YtghebacphjglbaaGreatM2
import Derived.Test.YtghebacphjglbaaGreatTxD
import Derived.ProofKit
import Derived.SizedLaws
namespace Go.Proofs.YtghebacphjglbaaGreat.WrO
open Go.Proofs.YtghebacphjglbaaGreat.ReadO (desD rusD txD)
open Go Go.RowKit Go.Proofs.YtghebacphjglbaaGreat.Lexy Go.Proofs.YtghebacphjglbaaGreat.LexD Go.Proofs.YtghebacphjglbaaGreat.Dat Go.Proofs.YtghebacphjglbaaGreat.Ready Go.Proofs.YtghebacphjglbaaGreat.ReadC Go.Proofs.YtghebacphjglbaaGreat.ReadH Go.Proofs.YtghebacphjglbaaGreat.ReadI Go.Proofs.YtghebacphjglbaaGreat.ReadM Go.Proofs.YtghebacphjglbaaGreat.Cut Go.Proofs.YtghebacphjglbaaGreat.WrT

/-- a text's size, a row's -/
abbrev Lim : Nat := 140737488351232
theorem bs_data (t : ByteArray) : bs t.data.toList = t := by unfold bs; cases t; simp
section
variable {H : Type} {enc : TypeId × Value → H} {W : World}
/-- cells of a type are such data -/
def Opens (enc : TypeId × Value → H) (W : World) (T : TypeId) {α : Type} (dat : α → List Dat) (big : α → Prop) (fuel : Nat) : Prop := ∀ (cs : List Value) (d : DataW H) (ps : List MemPlace), DataW.trod enc Tryz.prog W 0 (fun _ => true) true fuel T cs = some (d, ps) → (∀ n ∈ d.weights Tryz.prog T, n ≤ reachBytes) → ∃ x : α, big x ∧ ReadsV W (dat x) cs
theorem open_string {n : Nat} {cs : List Value} {d : DataW H} {ps : List MemPlace} (h : DataW.trod enc Tryz.prog W 0 (fun _ => true) true n 9 cs = some (d, ps)) (hw : ∀ q ∈ d.weights Tryz.prog 9, q ≤ reachBytes) : ∃ t : List UInt8, cs = [.string (bs t)] ∧ t.length ≤ Lim := by
  obtain ⟨t, e1, g1, _⟩ := DataW.trod_string Tryz.underlying9 h
  refine ⟨t.data.toList, by rw [bs_data]; exact e1, ?_⟩
  have := hw t.data.toList.length (by rw [show d = .lit (.string t.data.toList) from congrArg Prod.fst g1]; simp [DataW.weights])
  exact this
def bigS (t : List UInt8) : Prop := t.length ≤ Lim
end
-- THE STRUCTS
mutual
def bigW : Wd → Prop
  | .mk n xs _ => n.length ≤ Lim ∧ xs.length ≤ Lim ∧ bigWs xs
def bigWs : List Wd → Prop
  | [] => True
  | x :: xs => bigW x ∧ bigWs xs
end
theorem bigWs_of : ∀ {l : List Wd}, (∀ x ∈ l, bigW x) → bigWs l
  | [], _ => by rw [bigWs]; trivial
  | x :: l, h => by rw [bigWs]; exact ⟨h x (List.mem_cons_self ..), bigWs_of fun y hy => h y (List.mem_cons_of_mem _ hy)⟩
theorem bigWs_mem : ∀ {l : List Wd}, bigWs l → ∀ x ∈ l, bigW x
  | y :: l, h, x, hx => by
    rw [bigWs] at h
    rcases List.mem_cons.1 hx with rfl | hx
    · exact h.1
    · exact bigWs_mem h.2 x hx
structure bigD (d : De) : Prop where
  kind : d.kind.length ≤ Lim
  type : d.type.length ≤ Lim
  names : d.names.length ≤ Lim
  each : ∀ n ∈ d.names, bigS n
structure bigA (a : Al) : Prop where
  words : a.words.length ≤ Lim
  prec : a.prec.length ≤ Lim
  action : a.action.length ≤ Lim
  each : ∀ x ∈ a.words, bigW x
structure bigR (r : Ru) : Prop where
  name : r.name.length ≤ Lim
  params : r.params.length ≤ Lim
  alts : r.alts.length ≤ Lim
  eachP : ∀ n ∈ r.params, bigS n
  eachA : ∀ a ∈ r.alts, bigA a
structure bigT (x : Tx) : Prop where
  decls : x.decls.length ≤ Lim
  rules : x.rules.length ≤ Lim
  eachD : ∀ d ∈ x.decls, bigD d
  eachR : ∀ r ∈ x.rules, bigR r
theorem wdD_len (x : Wd) : (wdD x).length = 3 := by cases x; rw [wdD]; rfl
section
variable {H : Type} {enc : TypeId × Value → H} {W : World}
end
end Go.Proofs.YtghebacphjglbaaGreat.WrO
