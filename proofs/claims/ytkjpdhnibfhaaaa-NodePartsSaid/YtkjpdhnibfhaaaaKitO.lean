/- An argument that is a tree: it reads as one. -/
import Derived.Test.YtkjpdhnibfhaaaaKitA
import Derived.ProofKit
import Derived.SizedLaws
namespace Go.Proofs.Ytkjpdhnibfhaaaa.KitO
open Go Go.RowKit Go.Proofs.Ytkjpdhnibfhaaaa.Nodey Go.Proofs.Ytkjpdhnibfhaaaa.NodeA Go.Proofs.Ytkjpdhnibfhaaaa.NodeB Go.Proofs.Ytkjpdhnibfhaaaa.NodeI Go.Proofs.Ytkjpdhnibfhaaaa.NodeS Go.Proofs.Ytkjpdhnibfhaaaa.NodeT Go.Proofs.Ytkjpdhnibfhaaaa.NodeU Go.Proofs.Ytkjpdhnibfhaaaa.KitA

theorem u8_of {n : Int} (h : (Lit.int .u8 n).wf = true) : ∃ b : Nat, n = (b : Int) := by
  simp [Lit.wf] at h
  have h1 : IntKind.u8.min = 0 := rfl
  rw [h1] at h
  exact ⟨n.toNat, by omega⟩
theorem spot_none {W : World} {b o : Nat} {spot : Option Nat} {v : Value} (h : W.cell? ⟨b, o, spot⟩ = some v) : spot = none := by
  unfold World.cell? at h
  cases spot with
  | none => rfl
  | some k => simp at h; split at h <;> simp at h
section
variable {H : Type} {enc : TypeId × Value → H} {W : World}
theorem weights_all {e : TypeId} : ∀ {l : List (DataW H)} {d : DataW H}, d ∈ l → ∀ n ∈ d.weights Try.prog e, n ∈ DataW.weightsAll Try.prog e l
  | x :: l, d, hd, n, hn => by
    simp only [DataW.weightsAll, List.mem_append]
    rcases List.mem_cons.1 hd with rfl | hd
    · exact Or.inl hn
    · exact Or.inr (weights_all hd n hn)
def OpensAt (enc : TypeId × Value → H) (W : World) (fuel : Nat) : Prop := ∀ (cs : List Value) (d : DataW H) (ps : List MemPlace), DataW.trod enc Try.prog W 0 (fun _ => true) true fuel 25 cs = some (d, ps) → (∀ n ∈ d.weights Try.prog 25, n ≤ reachBytes) → ∃ x p c, cs = (nodeC x p c).toList ∧ Big W p c x
theorem five {α : Type} {l : List α} (h : l.length = 5) : ∃ a0 a1 a2 a3 a4, l = [a0, a1, a2, a3, a4] := by
  match l, h with
  | [a0, a1, a2, a3, a4], _ => exact ⟨a0, a1, a2, a3, a4, rfl⟩
/-- a row's elements, one behind the other -/
theorem open_row {n : Nat} (ih : OpensAt enc W n) {b o : Nat} {len : Nat} {elems : List (DataW H × List MemPlace)}
    (hel : ∀ i, i < len → (W.cells? 0 ((⟨b, o, none⟩ : Addr).add (i * 5)) 5).bind (DataW.trod enc Try.prog W 0 (fun _ => true) true n 25) = elems[i]?) (hl : elems.length = len)
    (hw : ∀ e ∈ elems, ∀ n ∈ e.1.weights Try.prog 25, n ≤ reachBytes) : ∀ (m k : Nat), k + m = len → ∃ l : List Nd, l.length = m ∧ BigsAt W b (o + k * 5) l
  | 0, k, _ => ⟨[], rfl, by rw [BigsAt]; trivial⟩
  | m + 1, k, hk => by
    obtain ⟨l, h1, h2⟩ := open_row ih hel hl hw m (k + 1) (by omega)
    have he := hel k (by omega)
    have hlt : k < elems.length := by omega
    rw [List.getElem?_eq_getElem hlt] at he
    obtain ⟨cs, hcs, hd⟩ := Option.bind_eq_some_iff.1 he
    have hd' : DataW.trod enc Try.prog W 0 (fun _ => true) true n 25 cs = some ((elems[k]).1, (elems[k]).2) := hd
    obtain ⟨x, p, c, rfl, hb⟩ := ih cs _ _ hd' (hw _ (List.getElem_mem hlt))
    obtain ⟨_, _, hc⟩ := World.cells?_some hcs
    have hadd : ∀ i, ((⟨b, o, none⟩ : Addr).add (k * 5)).add i = ⟨b, o + k * 5 + i, none⟩ := by
      intro i
      unfold Addr.add
      split <;> split <;> simp_all
    have hcell : ∀ i, i < 5 → W.cell? ⟨b, o + k * 5 + i, none⟩ = (nodeC x p c).toList[i]? := fun i hi => by rw [← hadd]; exact hc i hi
    refine ⟨x :: l, by simp [h1], ?_⟩
    rw [BigsAt]
    refine ⟨?_, by rw [show o + k * 5 + 5 = o + (k + 1) * 5 by omega]; exact h2⟩
    obtain ⟨xk, xt, xn, xa, xl⟩ := x
    rw [BigAt]
    exact ⟨hb.text, hb.len, hcell 0 (by omega), hcell 1 (by omega), hcell 2 (by omega), hcell 3 (by omega), p, c, hcell 4 (by omega), hb.cap, hb.kids⟩
theorem node_bytes : Try.prog.bytesOf 25 = 64 := by kernel_rfl
theorem node_cells : Try.prog.cellsOf 25 = 5 := by kernel_rfl
theorem open_nd : ∀ fuel : Nat, OpensAt enc W fuel := by
  intro fuel
  induction fuel using Nat.strongRecOn with
  | _ fuel ih =>
    intro cs d ps h hw
    obtain ⟨xs, n, rfl, hx, hlen, hxl, hf⟩ := DataW.trod_struct Try.underlying25 h
    rw [node_cells] at hlen
    obtain ⟨c0, c1, c2, c3, c4, rfl⟩ := five hlen
    obtain ⟨x0, x1, x2, x3, x4, rfl⟩ := five (show xs.length = 5 from hxl)
    have f0 : DataW.trod enc Try.prog W 0 (fun _ => true) true n 22 (([c0, c1, c2, c3, c4].drop 0).take (Try.prog.cellsOf 22)) = some (x0.1, x0.2) := hf 0 _ rfl
    have f1 : DataW.trod enc Try.prog W 0 (fun _ => true) true n 9 (([c0, c1, c2, c3, c4].drop 1).take (Try.prog.cellsOf 9)) = some (x1.1, x1.2) := hf 1 _ rfl
    have f2 : DataW.trod enc Try.prog W 0 (fun _ => true) true n 3 (([c0, c1, c2, c3, c4].drop 2).take (Try.prog.cellsOf 3)) = some (x2.1, x2.2) := hf 2 _ rfl
    have f3 : DataW.trod enc Try.prog W 0 (fun _ => true) true n 3 (([c0, c1, c2, c3, c4].drop 3).take (Try.prog.cellsOf 3)) = some (x3.1, x3.2) := hf 3 _ rfl
    have f4 : DataW.trod enc Try.prog W 0 (fun _ => true) true n 23 (([c0, c1, c2, c3, c4].drop 4).take (Try.prog.cellsOf 23)) = some (x4.1, x4.2) := hf 4 _ rfl
    rw [show Try.prog.cellsOf 22 = 1 by kernel_rfl] at f0
    rw [show Try.prog.cellsOf 9 = 1 by kernel_rfl] at f1
    rw [show Try.prog.cellsOf 3 = 1 by kernel_rfl] at f2 f3
    rw [show Try.prog.cellsOf 23 = 1 by kernel_rfl] at f4
    obtain ⟨k, e0, _, hk⟩ := DataW.trod_int Try.underlying22 f0
    obtain ⟨t, e1, g1, _⟩ := DataW.trod_string Try.underlying9 f1
    obtain ⟨nn, e2, _, _⟩ := DataW.trod_int Try.underlying3 f2
    obtain ⟨aa, e3, _, _⟩ := DataW.trod_int Try.underlying3 f3
    obtain ⟨kb, rfl⟩ := u8_of hk
    obtain rfl : c0 = .int .u8 (kb : Int) := by simpa using e0
    obtain rfl : c1 = .string t := by simpa using e1
    obtain rfl : c2 = .int .i64 nn := by simpa using e2
    obtain rfl : c3 = .int .i64 aa := by simpa using e3
    have hd : d = .agg [x0.1, x1.1, x2.1, x3.1, x4.1] := congrArg Prod.fst hx
    subst hd
    have hwe : ∀ (j : Nat) (ty : TypeId) (e : DataW H), [22, 9, 3, 3, 23][j]? = some ty → [x0.1, x1.1, x2.1, x3.1, x4.1][j]? = some e → ∀ m ∈ e.weights Try.prog ty, m ≤ reachBytes := by
      intro j ty e h1 h2 m hm
      refine hw m ?_
      simp only [DataW.weights, Try.underlying25]
      exact DataW.weights_mem_each (j := j) h1 h2 m hm
    have ht : t.size ≤ 140737488351232 := by
      have := hwe 1 _ _ rfl rfl t.data.toList.length (by rw [show x1.1 = .lit (.string t.data.toList) from congrArg Prod.fst g1]; simp [DataW.weights])
      unfold reachBytes at this
      simpa using this
    rcases DataW.trod_slice Try.underlying23 f4 with ⟨e4, _⟩ | ⟨a, len, cap, elems, rest, m, rfl, e4, g4, _, hlc, _, hel, hat, hsp, _⟩
    · obtain rfl : c4 = .slice none 0 0 := by simpa using e4
      exact ⟨.mk kb t nn aa [], none, 0, rfl, Or.inl rfl, Nat.le_refl _, by simp [Nd.kids], ht⟩
    · obtain rfl : c4 = .slice (some a) len cap := by simpa using e4
      have hg4 : x4.1 = .slice (elems.map (·.1)) (rest.map (·.1)) := congrArg Prod.fst g4
      have hw4 := hwe 4 _ _ rfl rfl
      rw [hg4] at hw4
      simp only [DataW.weights, Try.underlying23, List.mem_cons, List.mem_append] at hw4
      have hsz := hw4 _ (Or.inl rfl)
      obtain ⟨hr1, _⟩ := hsp rfl
      rw [List.length_map, List.length_map, node_bytes, hel, hr1] at hsz
      unfold reachBytes at hsz
      have hcap : len ≤ 2199023255552 := by omega
      have hwk : ∀ e ∈ elems, ∀ n ∈ e.1.weights Try.prog 25, n ≤ reachBytes := fun e he q hq => hw4 q (Or.inr (Or.inl (weights_all (List.mem_map_of_mem he) q hq)))
      rw [node_cells] at hat
      obtain ⟨b, o, spot⟩ := a
      by_cases h0 : len = 0
      · subst h0
        exact ⟨.mk kb t nn aa [], _, cap, rfl, Or.inl rfl, Nat.zero_le _, by simp [Nd.kids], ht⟩
      · have hs : spot = none := by
          have h1 := hat 0 (by omega)
          rw [List.getElem?_eq_getElem (by omega)] at h1
          obtain ⟨cs', hcs, _⟩ := Option.bind_eq_some_iff.1 h1
          obtain ⟨_, hl5, hc⟩ := World.cells?_some hcs
          have h2 := hc 0 (by omega)
          rw [List.getElem?_eq_getElem (by omega)] at h2
          exact spot_none (b := b) (o := o) h2
        subst hs
        obtain ⟨l, hl, hbs⟩ := open_row (ih m (by omega)) hat hel hwk len 0 (by omega)
        refine ⟨.mk kb t nn aa l, some ⟨b, o, none⟩, cap, ?_, Or.inr ⟨b, o, rfl, ?_⟩, by show l.length ≤ cap; omega, by show l.length ≤ _; omega, ht⟩
        · unfold nodeC
          simp only [Nd.kind, Nd.text, Nd.num, Nd.at_, Nd.kids, hl]
        · show BigsAt W b o l
          simpa using hbs
/-- an argument of the type -/
theorem open_arg {v : Value} {d : DataW H} {ps : List MemPlace} (hv : ∃ cs, v = .agg cs) (h : DataW.Trod enc Try.prog W 0 (fun _ => true) true 25 v d ps) (hw : ∀ n ∈ d.weights Try.prog 25, n ≤ reachBytes) : ∃ x p c, v = .agg (nodeC x p c) ∧ Big W p c x := by
  obtain ⟨fuel, h⟩ := h
  obtain ⟨cs, rfl⟩ := hv
  obtain ⟨x, p, c, e, hb⟩ := open_nd fuel _ _ _ h hw
  refine ⟨x, p, c, ?_, hb⟩
  have e' : cs.toList = (nodeC x p c).toList := e
  exact congrArg Value.agg (Array.toList_inj.1 e')
end
end Go.Proofs.Ytkjpdhnibfhaaaa.KitO
