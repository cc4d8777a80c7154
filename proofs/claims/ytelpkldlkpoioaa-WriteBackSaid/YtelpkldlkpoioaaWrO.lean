/- An argument that is a grammar's text: it reads as one. -/
import Derived.Test.YtelpkldlkpoioaaWrE
import Derived.Test.YtelpkldlkpoioaaCutU
import Derived.Test.YtelpkldlkpoioaaSame
import Derived.ProofKit
import Derived.SizedLaws
namespace Go.Proofs.Ytelpkldlkpoioaa.WrO
open Go.Proofs.Ytelpkldlkpoioaa.ReadO (desD rusD txD)
open Go Go.RowKit Go.Proofs.Ytelpkldlkpoioaa.Lexy Go.Proofs.Ytelpkldlkpoioaa.LexD Go.Proofs.Ytelpkldlkpoioaa.Dat Go.Proofs.Ytelpkldlkpoioaa.Ready Go.Proofs.Ytelpkldlkpoioaa.ReadC Go.Proofs.Ytelpkldlkpoioaa.ReadH Go.Proofs.Ytelpkldlkpoioaa.ReadI Go.Proofs.Ytelpkldlkpoioaa.ReadM Go.Proofs.Ytelpkldlkpoioaa.Cut Go.Proofs.Ytelpkldlkpoioaa.WrT

/-- a text's size, a row's -/
abbrev Lim : Nat := 140737488351232
theorem bs_data (t : ByteArray) : bs t.data.toList = t := by unfold bs; cases t; simp
theorem spot_none {W : World} {b o : Nat} {spot : Option Nat} {v : Value} (h : W.cell? ⟨b, o, spot⟩ = some v) : spot = none := by
  unfold World.cell? at h
  cases spot with
  | none => rfl
  | some k => simp at h; split at h <;> simp at h
theorem readsL_app {W : World} {b : Nat} : ∀ {ds es : List Dat} {o : Nat}, ReadsL W b o ds → ReadsL W b (o + ds.length) es → ReadsL W b o (ds ++ es)
  | [], es, o, _, h => by simpa using h
  | d :: ds, es, o, h1, h2 => by
    rw [ReadsL.cons] at h1
    rw [List.cons_append, ReadsL.cons]
    refine ⟨h1.1, readsL_app h1.2 ?_⟩
    rw [show o + 1 + ds.length = o + (d :: ds).length by simp; omega]
    exact h2
section
variable {H : Type} {enc : TypeId × Value → H} {W : World}
theorem weights_all {e : TypeId} : ∀ {l : List (DataW H)} {d : DataW H}, d ∈ l → ∀ n ∈ d.weights Try.prog e, n ∈ DataW.weightsAll Try.prog e l
  | x :: l, d, hd, n, hn => by
    simp only [DataW.weightsAll, List.mem_append]
    rcases List.mem_cons.1 hd with rfl | hd
    · exact Or.inl hn
    · exact Or.inr (weights_all hd n hn)
/-- cells of a type are such data -/
def Opens (enc : TypeId × Value → H) (W : World) (T : TypeId) {α : Type} (dat : α → List Dat) (big : α → Prop) (fuel : Nat) : Prop := ∀ (cs : List Value) (d : DataW H) (ps : List MemPlace), DataW.trod enc Try.prog W 0 (fun _ => true) true fuel T cs = some (d, ps) → (∀ n ∈ d.weights Try.prog T, n ≤ reachBytes) → ∃ x : α, big x ∧ ReadsV W (dat x) cs
theorem open_row {α : Type} {T : TypeId} {S : Nat} {dat : α → List Dat} {big : α → Prop} {n : Nat} (ih : Opens enc W T dat big n) (hlen : ∀ x, (dat x).length = S) {b o : Nat} {len : Nat} {elems : List (DataW H × List MemPlace)}
    (hel : ∀ i, i < len → (W.cells? 0 ((⟨b, o, none⟩ : Addr).add (i * S)) S).bind (DataW.trod enc Try.prog W 0 (fun _ => true) true n T) = elems[i]?) (hl : elems.length = len)
    (hw : ∀ e ∈ elems, ∀ n ∈ e.1.weights Try.prog T, n ≤ reachBytes) : ∀ (m k : Nat), k + m = len → ∃ l : List α, l.length = m ∧ (∀ x ∈ l, big x) ∧ ReadsL W b (o + k * S) (l.flatMap dat)
  | 0, k, _ => ⟨[], rfl, by simp, by rw [List.flatMap_nil, ReadsL.nil]; trivial⟩
  | m + 1, k, hk => by
    obtain ⟨l, h1, h2, h3⟩ := open_row ih hlen hel hl hw m (k + 1) (by omega)
    have he := hel k (by omega)
    have hlt : k < elems.length := by omega
    rw [List.getElem?_eq_getElem hlt] at he
    obtain ⟨cs, hcs, hd⟩ := Option.bind_eq_some_iff.1 he
    have hd' : DataW.trod enc Try.prog W 0 (fun _ => true) true n T cs = some ((elems[k]).1, (elems[k]).2) := hd
    obtain ⟨x, hb, hv⟩ := ih cs _ _ hd' (hw _ (List.getElem_mem hlt))
    obtain ⟨_, hcl, hc⟩ := World.cells?_some hcs
    have hadd : ∀ i, ((⟨b, o, none⟩ : Addr).add (k * S)).add i = ⟨b, o + k * S + i, none⟩ := by
      intro i
      unfold Addr.add
      split <;> split <;> simp_all
    have hlv := hv.len
    rw [hlen] at hlv
    refine ⟨x :: l, by simp [h1], fun y hy => ?_, ?_⟩
    · rcases List.mem_cons.1 hy with rfl | hy
      · exact hb
      · exact h2 y hy
    · rw [List.flatMap_cons]
      refine readsL_app (hv.cells (Below.refl _ _) fun i u hu => ?_) ?_
      · rw [← hadd, hc i (by have := (List.getElem?_eq_some_iff.1 hu).1; omega)]; exact hu
      · rw [hlen, show o + k * S + S = o + (k + 1) * S by rw [Nat.add_mul]; omega]; exact h3
/-- a row -/
theorem open_slice {α : Type} {T E : TypeId} {S B n : Nat} {dat : α → List Dat} {big : α → Prop} (hu : Try.prog.underlying T = some (.slice E)) (hS : Try.prog.cellsOf E = S) (hB : Try.prog.bytesOf E = B) (hB1 : 1 ≤ B) (hS1 : 1 ≤ S) (ih : ∀ m, m < n → Opens enc W E dat big m) (hlen : ∀ x, (dat x).length = S) :
    ∀ (cs : List Value) (d : DataW H) (ps : List MemPlace), DataW.trod enc Try.prog W 0 (fun _ => true) true n T cs = some (d, ps) → (∀ q ∈ d.weights Try.prog T, q ≤ reachBytes) → ∃ (l : List α) (s : Value), cs = [s] ∧ (∀ x ∈ l, big x) ∧ l.length ≤ Lim ∧ Reads W (.row E S l.length (l.flatMap dat)) s := by
  intro cs d ps h hw
  have hfl : ∀ l : List α, (l.flatMap dat).length = l.length * S := by
    intro l
    induction l with
    | nil => simp
    | cons x l ih => rw [List.flatMap_cons, List.length_append, ih, hlen, List.length_cons, Nat.add_mul]; omega
  rcases DataW.trod_slice hu h with ⟨e4, _⟩ | ⟨a, len, cap, elems, rest, m, rfl, e4, g4, _, hlc, hcm, hel, hat, hsp, _⟩
  · exact ⟨[], _, e4, by simp, Nat.zero_le _, Reads.row_iff.2 ⟨by simp, Nat.zero_le _, none, 0, rfl, .inl ⟨rfl, rfl, rfl⟩⟩⟩
  · have hg4 : d = .slice (elems.map (·.1)) (rest.map (·.1)) := congrArg Prod.fst g4
    rw [hg4] at hw
    simp only [DataW.weights, hu, List.mem_cons, List.mem_append] at hw
    have hsz := hw _ (Or.inl rfl)
    obtain ⟨hr1, _⟩ := hsp rfl
    rw [List.length_map, List.length_map, hB, hel, hr1] at hsz
    unfold reachBytes at hsz
    have hcap : len ≤ Lim := by
      have h1 : len + (cap - len) ≤ (len + (cap - len)) * B := Nat.le_mul_of_pos_right _ hB1
      show len ≤ 140737488351232
      omega
    have hwk : ∀ e ∈ elems, ∀ n ∈ e.1.weights Try.prog E, n ≤ reachBytes := fun e he q hq => hw q (Or.inr (Or.inl (weights_all (List.mem_map_of_mem he) q hq)))
    rw [hS] at hat
    obtain ⟨b, o, spot⟩ := a
    by_cases h0 : len = 0
    · subst h0
      exact ⟨[], _, e4, by simp, Nat.zero_le _, Reads.row_iff.2 ⟨by simp, Nat.zero_le _, _, cap, rfl, .inr (.inr ⟨_, rfl, rfl⟩)⟩⟩
    · have hs : spot = none := by
        have h1 := hat 0 (by omega)
        rw [List.getElem?_eq_getElem (by omega)] at h1
        obtain ⟨cs', hcs, _⟩ := Option.bind_eq_some_iff.1 h1
        obtain ⟨_, hl5, hc⟩ := World.cells?_some hcs
        have h2 := hc 0 (by omega)
        rw [List.getElem?_eq_getElem (by omega)] at h2
        have h3 : (((⟨b, o, spot⟩ : Addr).add (0 * S)).add 0) = ⟨b, o, spot⟩ := by unfold Addr.add; cases spot <;> simp
        rw [h3] at h2
        exact spot_none h2
      subst hs
      obtain ⟨l, hl, hbg, hrd⟩ := open_row (ih m (by omega)) hlen hat hel hwk len 0 (by omega)
      refine ⟨l, _, by rw [e4, ← hl], hbg, by omega, Reads.row_iff.2 ⟨hfl l, by omega, _, cap, rfl, .inr (.inl ⟨b, o, rfl, by simpa using hrd⟩)⟩⟩
theorem open_string {n : Nat} {cs : List Value} {d : DataW H} {ps : List MemPlace} (h : DataW.trod enc Try.prog W 0 (fun _ => true) true n 9 cs = some (d, ps)) (hw : ∀ q ∈ d.weights Try.prog 9, q ≤ reachBytes) : ∃ t : List UInt8, cs = [.string (bs t)] ∧ t.length ≤ Lim := by
  obtain ⟨t, e1, g1, _⟩ := DataW.trod_string Try.underlying9 h
  refine ⟨t.data.toList, by rw [bs_data]; exact e1, ?_⟩
  have := hw t.data.toList.length (by rw [show d = .lit (.string t.data.toList) from congrArg Prod.fst g1]; simp [DataW.weights])
  exact this
def bigS (t : List UInt8) : Prop := t.length ≤ Lim
theorem opens_string (n : Nat) : Opens enc W 9 (fun t => [.lit (.string (bs t))]) bigS n := fun cs d ps h hw => by
  obtain ⟨t, rfl, ht⟩ := open_string h hw
  exact ⟨t, ht, _, [], rfl, Reads.lit_iff.2 rfl, rfl⟩
end
-- THE STRUCTS
mutual
def bigW : Wd → Prop
  | .mk n xs _ => n.length ≤ Lim ∧ xs.length ≤ Lim ∧ bigWs xs
def bigWs : List Wd → Prop
  | [] => True
  | x :: xs => bigW x ∧ bigWs xs
end
theorem bigWs_of : ∀ {l : List Wd}, (∀ x ∈ l, bigW x) → bigWs l
  | [], _ => by rw [bigWs]; trivial
  | x :: l, h => by rw [bigWs]; exact ⟨h x (List.mem_cons_self ..), bigWs_of fun y hy => h y (List.mem_cons_of_mem _ hy)⟩
theorem bigWs_mem : ∀ {l : List Wd}, bigWs l → ∀ x ∈ l, bigW x
  | y :: l, h, x, hx => by
    rw [bigWs] at h
    rcases List.mem_cons.1 hx with rfl | hx
    · exact h.1
    · exact bigWs_mem h.2 x hx
structure bigD (d : De) : Prop where
  kind : d.kind.length ≤ Lim
  type : d.type.length ≤ Lim
  names : d.names.length ≤ Lim
  each : ∀ n ∈ d.names, bigS n
structure bigA (a : Al) : Prop where
  words : a.words.length ≤ Lim
  prec : a.prec.length ≤ Lim
  action : a.action.length ≤ Lim
  each : ∀ x ∈ a.words, bigW x
structure bigR (r : Ru) : Prop where
  name : r.name.length ≤ Lim
  params : r.params.length ≤ Lim
  alts : r.alts.length ≤ Lim
  eachP : ∀ n ∈ r.params, bigS n
  eachA : ∀ a ∈ r.alts, bigA a
structure bigT (x : Tx) : Prop where
  decls : x.decls.length ≤ Lim
  rules : x.rules.length ≤ Lim
  eachD : ∀ d ∈ x.decls, bigD d
  eachR : ∀ r ∈ x.rules, bigR r
theorem nms_flat : ∀ l : List (List UInt8), l.flatMap (fun t => [Dat.lit (.string (bs t))]) = nmsD l
  | [] => rfl
  | x :: l => by rw [List.flatMap_cons, nms_flat l]; rfl
theorem wdD_len (x : Wd) : (wdD x).length = 3 := by cases x; rw [wdD]; rfl
section
variable {H : Type} {enc : TypeId × Value → H} {W : World}
theorem split_word {α : Type} {l : List α} (h : l.length = 3) : ∃ a0 a1 a2, l = [a0, a1, a2] := by
  match l, h with
  | [a0, a1, a2], _ => exact ⟨_, _, _, rfl⟩
theorem open_word : ∀ fuel : Nat, Opens enc W 54 wdD bigW fuel := by
  intro fuel
  induction fuel using Nat.strongRecOn with
  | _ fuel ih =>
    intro cs d ps h hw
    obtain ⟨xs, n, rfl, hx, hlen, hxl, hf⟩ := DataW.trod_struct Try.underlying54 h
    rw [show Try.prog.cellsOf 54 = 3 by kernel_rfl] at hlen
    obtain ⟨c0, c1, c2, rfl⟩ := split_word hlen
    obtain ⟨x0, x1, x2, rfl⟩ := split_word (show xs.length = 3 from hxl)
    have f0 : DataW.trod enc Try.prog W 0 (fun _ => true) true n 9 (([c0, c1, c2].drop 0).take (Try.prog.cellsOf 9)) = some (x0.1, x0.2) := hf 0 _ rfl
    rw [show Try.prog.cellsOf 9 = 1 by kernel_rfl] at f0
    have f1 : DataW.trod enc Try.prog W 0 (fun _ => true) true n 49 (([c0, c1, c2].drop 1).take (Try.prog.cellsOf 49)) = some (x1.1, x1.2) := hf 1 _ rfl
    rw [show Try.prog.cellsOf 49 = 1 by kernel_rfl] at f1
    have f2 : DataW.trod enc Try.prog W 0 (fun _ => true) true n 3 (([c0, c1, c2].drop 2).take (Try.prog.cellsOf 3)) = some (x2.1, x2.2) := hf 2 _ rfl
    rw [show Try.prog.cellsOf 3 = 1 by kernel_rfl] at f2
    have hd : d = .agg [x0.1, x1.1, x2.1] := congrArg Prod.fst hx
    subst hd
    have hwe : ∀ (j : Nat) (ty : TypeId) (e : DataW H), [9, 49, 3][j]? = some ty → [x0.1, x1.1, x2.1][j]? = some e → ∀ m ∈ e.weights Try.prog ty, m ≤ reachBytes := by
      intro j ty e h1 h2 m hm
      refine hw m ?_
      simp only [DataW.weights, Try.underlying54]
      exact DataW.weights_mem_each (j := j) h1 h2 m hm
    obtain ⟨t0, e0, b0⟩ := open_string f0 (hwe 0 _ _ rfl rfl)
    obtain rfl : c0 = .string (bs t0) := by simpa using e0
    obtain ⟨t1, u1, e1, b1, l1, r1⟩ := open_slice (T := 49) (E := 54) (S := 3) (B := 48) (n := n) (dat := wdD) (big := bigW) Try.underlying49 (by kernel_rfl) (by kernel_rfl) (by decide) (by decide) (fun m hm => ih m (by omega)) (fun _ => by first | rfl | exact wdD_len _) _ _ _ f1 (hwe 1 _ _ rfl rfl)
    obtain rfl : c1 = u1 := by simpa using e1
    obtain ⟨t2, e2, _, _⟩ := DataW.trod_int Try.underlying3 f2
    obtain rfl : c2 = .int .i64 t2 := by simpa using e2
    refine ⟨.mk t0 t1 t2, by rw [bigW]; exact ⟨b0, l1, bigWs_of b1⟩, ?_⟩
    rw [wdD]
    rw [← Same.wdsD_flat] at r1
    exact ⟨_, _, rfl, Reads.lit_iff.2 rfl, _, _, rfl, r1, _, _, rfl, Reads.lit_iff.2 rfl, rfl⟩
theorem split_decl {α : Type} {l : List α} (h : l.length = 4) : ∃ a0 a1 a2 a3, l = [a0, a1, a2, a3] := by
  match l, h with
  | [a0, a1, a2, a3], _ => exact ⟨_, _, _, _, rfl⟩
theorem open_decl : ∀ fuel : Nat, Opens enc W 45 deD bigD fuel := by
  intro fuel
  intro cs d ps h hw
  obtain ⟨xs, n, rfl, hx, hlen, hxl, hf⟩ := DataW.trod_struct Try.underlying45 h
  rw [show Try.prog.cellsOf 45 = 4 by kernel_rfl] at hlen
  obtain ⟨c0, c1, c2, c3, rfl⟩ := split_decl hlen
  obtain ⟨x0, x1, x2, x3, rfl⟩ := split_decl (show xs.length = 4 from hxl)
  have f0 : DataW.trod enc Try.prog W 0 (fun _ => true) true n 9 (([c0, c1, c2, c3].drop 0).take (Try.prog.cellsOf 9)) = some (x0.1, x0.2) := hf 0 _ rfl
  rw [show Try.prog.cellsOf 9 = 1 by kernel_rfl] at f0
  have f1 : DataW.trod enc Try.prog W 0 (fun _ => true) true n 9 (([c0, c1, c2, c3].drop 1).take (Try.prog.cellsOf 9)) = some (x1.1, x1.2) := hf 1 _ rfl
  rw [show Try.prog.cellsOf 9 = 1 by kernel_rfl] at f1
  have f2 : DataW.trod enc Try.prog W 0 (fun _ => true) true n 43 (([c0, c1, c2, c3].drop 2).take (Try.prog.cellsOf 43)) = some (x2.1, x2.2) := hf 2 _ rfl
  rw [show Try.prog.cellsOf 43 = 1 by kernel_rfl] at f2
  have f3 : DataW.trod enc Try.prog W 0 (fun _ => true) true n 3 (([c0, c1, c2, c3].drop 3).take (Try.prog.cellsOf 3)) = some (x3.1, x3.2) := hf 3 _ rfl
  rw [show Try.prog.cellsOf 3 = 1 by kernel_rfl] at f3
  have hd : d = .agg [x0.1, x1.1, x2.1, x3.1] := congrArg Prod.fst hx
  subst hd
  have hwe : ∀ (j : Nat) (ty : TypeId) (e : DataW H), [9, 9, 43, 3][j]? = some ty → [x0.1, x1.1, x2.1, x3.1][j]? = some e → ∀ m ∈ e.weights Try.prog ty, m ≤ reachBytes := by
    intro j ty e h1 h2 m hm
    refine hw m ?_
    simp only [DataW.weights, Try.underlying45]
    exact DataW.weights_mem_each (j := j) h1 h2 m hm
  obtain ⟨t0, e0, b0⟩ := open_string f0 (hwe 0 _ _ rfl rfl)
  obtain rfl : c0 = .string (bs t0) := by simpa using e0
  obtain ⟨t1, e1, b1⟩ := open_string f1 (hwe 1 _ _ rfl rfl)
  obtain rfl : c1 = .string (bs t1) := by simpa using e1
  obtain ⟨t2, u2, e2, b2, l2, r2⟩ := open_slice (T := 43) (E := 9) (S := 1) (B := 16) (n := n) (dat := (fun t => [.lit (.string (bs t))])) (big := bigS) Try.underlying43 (by kernel_rfl) (by kernel_rfl) (by decide) (by decide) (fun m _ => opens_string m) (fun _ => by first | rfl | exact wdD_len _) _ _ _ f2 (hwe 2 _ _ rfl rfl)
  obtain rfl : c2 = u2 := by simpa using e2
  obtain ⟨t3, e3, _, _⟩ := DataW.trod_int Try.underlying3 f3
  obtain rfl : c3 = .int .i64 t3 := by simpa using e3
  refine ⟨⟨t0, t1, t2, t3⟩, ⟨b0, b1, l2, b2⟩, ?_⟩
  rw [nms_flat] at r2
  exact ⟨_, _, rfl, Reads.lit_iff.2 rfl, _, _, rfl, Reads.lit_iff.2 rfl, _, _, rfl, r2, _, _, rfl, Reads.lit_iff.2 rfl, rfl⟩
theorem split_alt {α : Type} {l : List α} (h : l.length = 6) : ∃ a0 a1 a2 a3 a4 a5, l = [a0, a1, a2, a3, a4, a5] := by
  match l, h with
  | [a0, a1, a2, a3, a4, a5], _ => exact ⟨_, _, _, _, _, _, rfl⟩
theorem open_alt : ∀ fuel : Nat, Opens enc W 51 alD bigA fuel := by
  intro fuel
  intro cs d ps h hw
  obtain ⟨xs, n, rfl, hx, hlen, hxl, hf⟩ := DataW.trod_struct Try.underlying51 h
  rw [show Try.prog.cellsOf 51 = 6 by kernel_rfl] at hlen
  obtain ⟨c0, c1, c2, c3, c4, c5, rfl⟩ := split_alt hlen
  obtain ⟨x0, x1, x2, x3, x4, x5, rfl⟩ := split_alt (show xs.length = 6 from hxl)
  have f0 : DataW.trod enc Try.prog W 0 (fun _ => true) true n 49 (([c0, c1, c2, c3, c4, c5].drop 0).take (Try.prog.cellsOf 49)) = some (x0.1, x0.2) := hf 0 _ rfl
  rw [show Try.prog.cellsOf 49 = 1 by kernel_rfl] at f0
  have f1 : DataW.trod enc Try.prog W 0 (fun _ => true) true n 9 (([c0, c1, c2, c3, c4, c5].drop 1).take (Try.prog.cellsOf 9)) = some (x1.1, x1.2) := hf 1 _ rfl
  rw [show Try.prog.cellsOf 9 = 1 by kernel_rfl] at f1
  have f2 : DataW.trod enc Try.prog W 0 (fun _ => true) true n 4 (([c0, c1, c2, c3, c4, c5].drop 2).take (Try.prog.cellsOf 4)) = some (x2.1, x2.2) := hf 2 _ rfl
  rw [show Try.prog.cellsOf 4 = 1 by kernel_rfl] at f2
  have f3 : DataW.trod enc Try.prog W 0 (fun _ => true) true n 9 (([c0, c1, c2, c3, c4, c5].drop 3).take (Try.prog.cellsOf 9)) = some (x3.1, x3.2) := hf 3 _ rfl
  rw [show Try.prog.cellsOf 9 = 1 by kernel_rfl] at f3
  have f4 : DataW.trod enc Try.prog W 0 (fun _ => true) true n 3 (([c0, c1, c2, c3, c4, c5].drop 4).take (Try.prog.cellsOf 3)) = some (x4.1, x4.2) := hf 4 _ rfl
  rw [show Try.prog.cellsOf 3 = 1 by kernel_rfl] at f4
  have f5 : DataW.trod enc Try.prog W 0 (fun _ => true) true n 3 (([c0, c1, c2, c3, c4, c5].drop 5).take (Try.prog.cellsOf 3)) = some (x5.1, x5.2) := hf 5 _ rfl
  rw [show Try.prog.cellsOf 3 = 1 by kernel_rfl] at f5
  have hd : d = .agg [x0.1, x1.1, x2.1, x3.1, x4.1, x5.1] := congrArg Prod.fst hx
  subst hd
  have hwe : ∀ (j : Nat) (ty : TypeId) (e : DataW H), [49, 9, 4, 9, 3, 3][j]? = some ty → [x0.1, x1.1, x2.1, x3.1, x4.1, x5.1][j]? = some e → ∀ m ∈ e.weights Try.prog ty, m ≤ reachBytes := by
    intro j ty e h1 h2 m hm
    refine hw m ?_
    simp only [DataW.weights, Try.underlying51]
    exact DataW.weights_mem_each (j := j) h1 h2 m hm
  obtain ⟨t0, u0, e0, b0, l0, r0⟩ := open_slice (T := 49) (E := 54) (S := 3) (B := 48) (n := n) (dat := wdD) (big := bigW) Try.underlying49 (by kernel_rfl) (by kernel_rfl) (by decide) (by decide) (fun m _ => open_word m) (fun _ => by first | rfl | exact wdD_len _) _ _ _ f0 (hwe 0 _ _ rfl rfl)
  obtain rfl : c0 = u0 := by simpa using e0
  obtain ⟨t1, e1, b1⟩ := open_string f1 (hwe 1 _ _ rfl rfl)
  obtain rfl : c1 = .string (bs t1) := by simpa using e1
  obtain ⟨t2, e2, _⟩ := DataW.trod_bool Try.underlying4 f2
  obtain rfl : c2 = .bool t2 := by simpa using e2
  obtain ⟨t3, e3, b3⟩ := open_string f3 (hwe 3 _ _ rfl rfl)
  obtain rfl : c3 = .string (bs t3) := by simpa using e3
  obtain ⟨t4, e4, _, _⟩ := DataW.trod_int Try.underlying3 f4
  obtain rfl : c4 = .int .i64 t4 := by simpa using e4
  obtain ⟨t5, e5, _, _⟩ := DataW.trod_int Try.underlying3 f5
  obtain rfl : c5 = .int .i64 t5 := by simpa using e5
  refine ⟨⟨t0, t1, t2, t3, t4, t5⟩, ⟨l0, b1, b3, b0⟩, ?_⟩
  rw [← Same.wdsD_flat] at r0
  exact ⟨_, _, rfl, r0, _, _, rfl, Reads.lit_iff.2 rfl, _, _, rfl, Reads.lit_iff.2 rfl, _, _, rfl, Reads.lit_iff.2 rfl, _, _, rfl, Reads.lit_iff.2 rfl, _, _, rfl, Reads.lit_iff.2 rfl, rfl⟩
theorem split_rule {α : Type} {l : List α} (h : l.length = 4) : ∃ a0 a1 a2 a3, l = [a0, a1, a2, a3] := by
  match l, h with
  | [a0, a1, a2, a3], _ => exact ⟨_, _, _, _, rfl⟩
theorem open_rule : ∀ fuel : Nat, Opens enc W 48 ruD bigR fuel := by
  intro fuel
  intro cs d ps h hw
  obtain ⟨xs, n, rfl, hx, hlen, hxl, hf⟩ := DataW.trod_struct Try.underlying48 h
  rw [show Try.prog.cellsOf 48 = 4 by kernel_rfl] at hlen
  obtain ⟨c0, c1, c2, c3, rfl⟩ := split_rule hlen
  obtain ⟨x0, x1, x2, x3, rfl⟩ := split_rule (show xs.length = 4 from hxl)
  have f0 : DataW.trod enc Try.prog W 0 (fun _ => true) true n 9 (([c0, c1, c2, c3].drop 0).take (Try.prog.cellsOf 9)) = some (x0.1, x0.2) := hf 0 _ rfl
  rw [show Try.prog.cellsOf 9 = 1 by kernel_rfl] at f0
  have f1 : DataW.trod enc Try.prog W 0 (fun _ => true) true n 43 (([c0, c1, c2, c3].drop 1).take (Try.prog.cellsOf 43)) = some (x1.1, x1.2) := hf 1 _ rfl
  rw [show Try.prog.cellsOf 43 = 1 by kernel_rfl] at f1
  have f2 : DataW.trod enc Try.prog W 0 (fun _ => true) true n 46 (([c0, c1, c2, c3].drop 2).take (Try.prog.cellsOf 46)) = some (x2.1, x2.2) := hf 2 _ rfl
  rw [show Try.prog.cellsOf 46 = 1 by kernel_rfl] at f2
  have f3 : DataW.trod enc Try.prog W 0 (fun _ => true) true n 3 (([c0, c1, c2, c3].drop 3).take (Try.prog.cellsOf 3)) = some (x3.1, x3.2) := hf 3 _ rfl
  rw [show Try.prog.cellsOf 3 = 1 by kernel_rfl] at f3
  have hd : d = .agg [x0.1, x1.1, x2.1, x3.1] := congrArg Prod.fst hx
  subst hd
  have hwe : ∀ (j : Nat) (ty : TypeId) (e : DataW H), [9, 43, 46, 3][j]? = some ty → [x0.1, x1.1, x2.1, x3.1][j]? = some e → ∀ m ∈ e.weights Try.prog ty, m ≤ reachBytes := by
    intro j ty e h1 h2 m hm
    refine hw m ?_
    simp only [DataW.weights, Try.underlying48]
    exact DataW.weights_mem_each (j := j) h1 h2 m hm
  obtain ⟨t0, e0, b0⟩ := open_string f0 (hwe 0 _ _ rfl rfl)
  obtain rfl : c0 = .string (bs t0) := by simpa using e0
  obtain ⟨t1, u1, e1, b1, l1, r1⟩ := open_slice (T := 43) (E := 9) (S := 1) (B := 16) (n := n) (dat := (fun t => [.lit (.string (bs t))])) (big := bigS) Try.underlying43 (by kernel_rfl) (by kernel_rfl) (by decide) (by decide) (fun m _ => opens_string m) (fun _ => by first | rfl | exact wdD_len _) _ _ _ f1 (hwe 1 _ _ rfl rfl)
  obtain rfl : c1 = u1 := by simpa using e1
  obtain ⟨t2, u2, e2, b2, l2, r2⟩ := open_slice (T := 46) (E := 51) (S := 6) (B := 80) (n := n) (dat := alD) (big := bigA) Try.underlying46 (by kernel_rfl) (by kernel_rfl) (by decide) (by decide) (fun m _ => open_alt m) (fun _ => by first | rfl | exact wdD_len _) _ _ _ f2 (hwe 2 _ _ rfl rfl)
  obtain rfl : c2 = u2 := by simpa using e2
  obtain ⟨t3, e3, _, _⟩ := DataW.trod_int Try.underlying3 f3
  obtain rfl : c3 = .int .i64 t3 := by simpa using e3
  refine ⟨⟨t0, t1, t2, t3⟩, ⟨b0, l1, l2, b1, b2⟩, ?_⟩
  rw [nms_flat] at r1
  rw [← Same.alsD_flat] at r2
  exact ⟨_, _, rfl, Reads.lit_iff.2 rfl, _, _, rfl, r1, _, _, rfl, r2, _, _, rfl, Reads.lit_iff.2 rfl, rfl⟩
theorem split_text {α : Type} {l : List α} (h : l.length = 2) : ∃ a0 a1, l = [a0, a1] := by
  match l, h with
  | [a0, a1], _ => exact ⟨_, _, rfl⟩
theorem open_text : ∀ fuel : Nat, Opens enc W 39 txD bigT fuel := by
  intro fuel
  intro cs d ps h hw
  obtain ⟨xs, n, rfl, hx, hlen, hxl, hf⟩ := DataW.trod_struct Try.underlying39 h
  rw [show Try.prog.cellsOf 39 = 2 by kernel_rfl] at hlen
  obtain ⟨c0, c1, rfl⟩ := split_text hlen
  obtain ⟨x0, x1, rfl⟩ := split_text (show xs.length = 2 from hxl)
  have f0 : DataW.trod enc Try.prog W 0 (fun _ => true) true n 36 (([c0, c1].drop 0).take (Try.prog.cellsOf 36)) = some (x0.1, x0.2) := hf 0 _ rfl
  rw [show Try.prog.cellsOf 36 = 1 by kernel_rfl] at f0
  have f1 : DataW.trod enc Try.prog W 0 (fun _ => true) true n 37 (([c0, c1].drop 1).take (Try.prog.cellsOf 37)) = some (x1.1, x1.2) := hf 1 _ rfl
  rw [show Try.prog.cellsOf 37 = 1 by kernel_rfl] at f1
  have hd : d = .agg [x0.1, x1.1] := congrArg Prod.fst hx
  subst hd
  have hwe : ∀ (j : Nat) (ty : TypeId) (e : DataW H), [36, 37][j]? = some ty → [x0.1, x1.1][j]? = some e → ∀ m ∈ e.weights Try.prog ty, m ≤ reachBytes := by
    intro j ty e h1 h2 m hm
    refine hw m ?_
    simp only [DataW.weights, Try.underlying39]
    exact DataW.weights_mem_each (j := j) h1 h2 m hm
  obtain ⟨t0, u0, e0, b0, l0, r0⟩ := open_slice (T := 36) (E := 45) (S := 4) (B := 64) (n := n) (dat := deD) (big := bigD) Try.underlying36 (by kernel_rfl) (by kernel_rfl) (by decide) (by decide) (fun m _ => open_decl m) (fun _ => by first | rfl | exact wdD_len _) _ _ _ f0 (hwe 0 _ _ rfl rfl)
  obtain rfl : c0 = u0 := by simpa using e0
  obtain ⟨t1, u1, e1, b1, l1, r1⟩ := open_slice (T := 37) (E := 48) (S := 4) (B := 72) (n := n) (dat := ruD) (big := bigR) Try.underlying37 (by kernel_rfl) (by kernel_rfl) (by decide) (by decide) (fun m _ => open_rule m) (fun _ => by first | rfl | exact wdD_len _) _ _ _ f1 (hwe 1 _ _ rfl rfl)
  obtain rfl : c1 = u1 := by simpa using e1
  refine ⟨⟨t0, t1⟩, ⟨l0, l1, b0, b1⟩, ?_⟩
  rw [← Same.desD_flat] at r0
  rw [← Same.rusD_flat] at r1
  exact ⟨_, _, rfl, r0, _, _, rfl, r1, rfl⟩
/-- an argument of the type -/
theorem open_arg {v : Value} {d : DataW H} {ps : List MemPlace} (hv : ∃ cs, v = .agg cs) (h : DataW.Trod enc Try.prog W 0 (fun _ => true) true 39 v d ps) (hw : ∀ n ∈ d.weights Try.prog 39, n ≤ reachBytes) :
    ∃ (x : Tx) (sd sr : Value), v = .agg #[sd, sr] ∧ bigT x ∧ Reads W (.row 45 4 x.decls.length (desD x.decls)) sd ∧ Reads W (.row 48 4 x.rules.length (rusD x.rules)) sr := by
  obtain ⟨fuel, h⟩ := h
  obtain ⟨cs, rfl⟩ := hv
  obtain ⟨x, hb, hv⟩ := open_text fuel _ _ _ h hw
  obtain ⟨sd, us, e1, h1, sr, us2, e2, h2, e3⟩ := hv
  have e3 : us2 = [] := e3
  refine ⟨x, sd, sr, ?_, hb, h1, h2⟩
  have e' : cs.toList = [sd, sr] := by
    have : cs.toList = sd :: us := e1
    rw [this, e2, e3]
  exact congrArg Value.agg (Array.toList_inj.1 e')
end
end Go.Proofs.Ytelpkldlkpoioaa.WrO
