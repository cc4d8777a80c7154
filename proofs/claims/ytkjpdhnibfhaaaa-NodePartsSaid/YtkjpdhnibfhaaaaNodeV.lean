/- the law's nodes, made: of, num, action. -/
import Derived.Test.YtkjpdhnibfhaaaaBuild
import Derived.Deep.Cut
namespace Go.Proofs.Ytkjpdhnibfhaaaa.NodeV
open Go.RowKit Go.Proofs.Ytkjpdhnibfhaaaa.Nodey Go.Proofs.Ytkjpdhnibfhaaaa.NodeA Go.Proofs.Ytkjpdhnibfhaaaa.NodeB Go.Proofs.Ytkjpdhnibfhaaaa.NodeF Go.Proofs.Ytkjpdhnibfhaaaa.NodeI Go.Proofs.Ytkjpdhnibfhaaaa.NodeK Go.Proofs.Ytkjpdhnibfhaaaa.NodeM Go.Proofs.Ytkjpdhnibfhaaaa.NodeS Go.Proofs.Ytkjpdhnibfhaaaa.NodeT Go.Proofs.Ytkjpdhnibfhaaaa.NodeU Go.Proofs.Ytkjpdhnibfhaaaa.Cut Go.Proofs.Ytkjpdhnibfhaaaa.Build

theorem res_node {fn : Func} {w : World} {b : Nat} {v0 v1 v2 v3 v4 : Value} {tmps : Array Value} {s : Tmp} (hfn : fn.results = #[.cell s 25]) (hb : Box5 w b v0 v1 v2 v3 v4) (h2 : tmps[s]?.getD undef = .pointer (some ⟨b, 0, none⟩)) :
    (results fn tmps).run Try.prog w = .ok (.agg #[v0, v1, v2, v3, v4]) w := by
  obtain ⟨a0, a1, a2, a3, a4⟩ := hb
  simp [results, hfn, go_sem, h2, a0, a1, a2, a3, a4]
theorem of_any {k : Nat} {t : ByteArray} {v : Value} {l : List Nd} {w : World} (ht : t.size ≤ 1000000000) (hv : IsKids w v l) :
    Calls Try.prog 6 #[.int .u8 (k : Int), .string t, v] w fun e w' => ∃ u, e = .returned u ∧ IsNode w' u (.mk k t 0 0 l) ∧ Below w.heap.size w w' := by
  obtain ⟨p, c, rfl, hk, hc, hl⟩ := hv
  have HK := Lib.hid hk; clear hk
  generalize hnk : l.length = nk at *
  have HNK := Lib.hid hnk
  go_enter Try.func6, Try.ntmps6
  go_wp2
  have hb := (Below.refl w.heap.size w).alloc (Nat.le_refl _) (.cells #[.int .u8 (k : Int), .string t, .int .i64 0, .int .i64 0, .slice p nk c] 25)
  refine bodyPost_ret (res_node rfl Box5.new rfl) rfl ⟨_, rfl, ⟨p, c, ?_, KidsV.below hb HK.out, ?_, ?_, ht⟩, hb⟩
  · unfold nodeC; simp only [Nd.kind, Nd.text, Nd.num, Nd.at_, Nd.kids]; rw [hnk]
  · show l.length ≤ c; omega
  · show l.length ≤ 1000000; omega
theorem num_any {k : Nat} {n : Int} {v : Value} {l : List Nd} {w : World} (hv : IsKids w v l) :
    Calls Try.prog 24 #[.int .u8 (k : Int), .int .i64 n, v] w fun e w' => ∃ u, e = .returned u ∧ IsNode w' u (.mk k { data := #[] } n 0 l) ∧ Below w.heap.size w w' := by
  obtain ⟨p, c, rfl, hk, hc, hl⟩ := hv
  have HK := Lib.hid hk; clear hk
  generalize hnk : l.length = nk at *
  have HNK := Lib.hid hnk
  go_enter Try.func24, Try.ntmps24
  go_wp2
  have hb := (Below.refl w.heap.size w).alloc (Nat.le_refl _) (.cells #[.int .u8 (k : Int), .string { data := #[] }, .int .i64 n, .int .i64 0, .slice p nk c] 25)
  refine bodyPost_ret (res_node rfl Box5.new rfl) rfl ⟨_, rfl, ⟨p, c, ?_, KidsV.below hb HK.out, ?_, ?_, (by show (0 : Nat) ≤ 1000000000; omega)⟩, hb⟩
  · unfold nodeC; simp only [Nd.kind, Nd.text, Nd.num, Nd.at_, Nd.kids]; rw [hnk]
  · show l.length ≤ c; omega
  · show l.length ≤ 1000000; omega
section
variable {Q : Exit → Act → World → Prop} {specs : List BSpec} {ds : List Tmp} {a0 : Act} {w0 : World} {i : Nat} {o : Oper}
theorem st_of {k : Nat} {t : ByteArray} {X : Operand} {l : List Nd} {tys : Array TypeId} (hs : specs[i]? = some (.node (.mk k t 0 0 l))) (hX : KArg specs ds o X l) (ho : o.op = .call { callee := .value (.func 6), args := #[.const (.int .u8 (k : Int)), .const (.string t), X], argTypes := tys }) (ht : t.size ≤ 1000000000) :
    StepT Try.prog Q (fun u => Below w0.heap.size w0 u) (FS specs w0) ds a0 i o := by
  refine st_call (f := 6) hs (args := fun a => #[.int .u8 (k : Int), .string t, a.eval X]) (fun a w => ?_) fun a w _ _ hd => ?_
  · simp only [execOp, ho]; go_simp
  · obtain ⟨v, hv, hk⟩ := hX.get hd
    simp only [hv]
    exact of_any ht hk
theorem st_num {k : Nat} {n : Int} {X : Operand} {l : List Nd} {tys : Array TypeId} (hs : specs[i]? = some (.node (.mk k { data := #[] } n 0 l))) (hX : KArg specs ds o X l) (ho : o.op = .call { callee := .value (.func 24), args := #[.const (.int .u8 (k : Int)), .const (.int .i64 n), X], argTypes := tys }) :
    StepT Try.prog Q (fun u => Below w0.heap.size w0 u) (FS specs w0) ds a0 i o := by
  refine st_call (f := 24) hs (args := fun a => #[.int .u8 (k : Int), .int .i64 n, a.eval X]) (fun a w => ?_) fun a w _ _ hd => ?_
  · simp only [execOp, ho]; go_simp
  · obtain ⟨v, hv, hk⟩ := hX.get hd
    simp only [hv]
    exact num_any hk
end
set_option maxRecDepth 100000 in
theorem action_any {v : Value} {l : List Nd} {w : World} (hv : IsKids w v l) (hp : properL l = true) :
    Calls Try.prog 7 #[v] w fun e w' => ∃ u, e = .returned u ∧ IsNode w' u (.mk 9 { data := #[] } 0 0 l) ∧ Below w.heap.size w w' := by
  have HE := Lib.hid (Env.start w)
  have HV := Lib.hid (hv.below ((Below.refl w.heap.size w).alloc (Nat.le_refl _) (.cells zeros 25)))
  unfold zeros at HE HV
  clear hv
  go_enter Try.func7, Try.ntmps7
  go_upto_region 1 with fail
  generalize w.alloc (.cells #[.int .u8 0, .string { data := #[] }, .int .i64 0, .int .i64 0, .slice none 0 0] 25) = w1 at *
  refine wp_region_inrow (l1 := [_, _]) (l2 := [_]) [3, 4] (fun u => Below w1.heap.size w1 u) (FS [.kids l, .node (.mk 9 { data := #[] } 0 0 l)] w1) (by kernel_rfl) (by kernel_rfl) FS.below (Below.refl _ _) ⟨?_, ?_, trivial⟩ ?_
  · exact st_move rfl rfl rfl rfl HV.out
  · exact st_of (k := 9) (t := { data := #[] }) rfl (X := .tmp 3) (.tmp (j := 0) (by decide) rfl rfl) rfl (by decide)
  rintro wx hx v0 h0 v1 h1
  show wpList _ _ _ _ (putAll _ [(3, _), (4, _)]) _
  simp only [putAll, Act.put, List.setIfInBounds_toArray, List.set_cons_succ, List.set_cons_zero]
  refine fin_store (x := .mk 9 { data := #[] } 0 0 l) rfl rfl rfl (b := w.heap.size) (v := v1) rfl rfl (HE.out.zero.below hx) (FS.of h1 rfl) (by simpa [properN] using hp) fun w' hs => wpList_nil ?_
  obtain ⟨p, c, hbx, hr⟩ := hs.box
  have hfin := (HE.out.below hx).on.trans (hs.below _ (Nat.le_refl _))
  clear hs hx h0 h1
  have HBX := Lib.hid hbx; have HR := Lib.hid hr; have HF := Lib.hid hfin
  clear hbx hr hfin
  go_wp2_with fail
  refine bodyPost_ret (res_node rfl HBX.out rfl) rfl ⟨_, rfl, ⟨p, c, rfl, HR.out⟩, HF.out⟩
section
variable {Q : Exit → Act → World → Prop} {specs : List BSpec} {ds : List Tmp} {a0 : Act} {w0 : World} {i : Nat} {o : Oper}
theorem st_action {X : Operand} {l : List Nd} {tys : Array TypeId} (hs : specs[i]? = some (.node (.mk 9 { data := #[] } 0 0 l))) (hX : KArg specs ds o X l) (ho : o.op = .call { callee := .value (.func 7), args := #[X], argTypes := tys }) (hp : properL l = true) :
    StepT Try.prog Q (fun u => Below w0.heap.size w0 u) (FS specs w0) ds a0 i o := by
  refine st_call (f := 7) hs (args := fun a => #[a.eval X]) (fun a w => ?_) fun a w _ _ hd => ?_
  · simp only [execOp, ho]; go_simp
  · obtain ⟨v, hv, hk⟩ := hX.get hd
    simp only [hv]
    exact action_any hk hp
end
end Go.Proofs.Ytkjpdhnibfhaaaa.NodeV
