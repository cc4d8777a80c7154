/- Regions that draw their order, where one new block may be made at any time, each step walked once for both; and appends of rows that are only read. No function of a program. -/
import Derived.Test.YtelpkldlkpoioaaCut
import Derived.Maps.AppendAt
namespace Go.Proofs.Ytelpkldlkpoioaa.Cut
open Go Go.RowKit Go.Proofs.Ytelpkldlkpoioaa.Heap Go.Proofs.Ytelpkldlkpoioaa.Dat
section
variable {P : Program} {Q : Exit → Act → World → Prop} {S : World → Prop}
/-- what comes ahead, each step at whatever has been made of the block -/
def wpMixU (P : Program) (ops : Array Oper) (Q : Exit → Act → World → Prop) (S : World → Prop) (d : Tmp) (o : Obj) : List (Nat × Bool) → (Option Nat → World → Prop) → Act → Prop
  | [], I, a => ∀ H w, S w → I (some H) w → Q .normal (withB d (some H) a) w
  | (i, true) :: l, I, a => ∃ p, ops[i]? = some p ∧ p.dst ≠ some d ∧ (∀ ex, Region.wanted p (yielded ops (withB d ex a).tmps) = true) ∧ ∃ v, (∀ ex u, S u → (execOp (withB d ex a).eval p).run P u = .ok (.value v) u) ∧ wpMixU P ops Q S d o l I (a.put p.dst v)
  | (i, false) :: l, I, a => ∃ p, ops[i]? = some p ∧ (∀ ex, Region.wanted p (yielded ops (withB d ex a).tmps) = true) ∧ ∀ ex w, S w → I ex w → p.wp P (withB d ex a) w (fun a' w' => ∃ a'' I', a' = withB d ex a'' ∧ S w' ∧ I' ex w' ∧ (∀ w, S w → I' none w → I' (some w.heap.size) (w.alloc o)) ∧ wpMixU P ops Q S d o l I' a'') Q
theorem mixU_F {ops : Array Oper} {d : Tmp} {o : Obj} : ∀ (l : List (Nat × Bool)) (I : Option Nat → World → Prop) (a : Act) (H : Nat) (w : World), S w → I (some H) w → wpMixU P ops Q S d o l I a → wpMixF P ops Q S d o l (some H) a w
  | [], I, a, H, w, hS, hI, h => h H w hS hI
  | (i, true) :: l, I, a, H, w, hS, hI, h => by
    obtain ⟨p, h0, hd, hw, v, hv, h⟩ := h
    exact ⟨p, h0, hd, hw _, v, fun u hu => hv _ u hu, mixU_F l I _ H w hS hI h⟩
  | (i, false) :: l, I, a, H, w, hS, hI, h => by
    obtain ⟨p, h0, hw, h⟩ := h
    refine ⟨p, h0, hw _, Oper.wp_mono ?_ (h _ w hS hI)⟩
    rintro a' w' ⟨a'', I', e, hS', hI', _, h'⟩
    exact ⟨a'', e, hS', mixU_F l I' a'' H w' hS' hI' h'⟩
theorem mixU_A {ops : Array Oper} {d : Tmp} {o : Obj} (hSo : ∀ w, S w → S (w.alloc o)) : ∀ (l : List (Nat × Bool)) (I : Option Nat → World → Prop) (a : Act) (w : World), S w → I none w → (∀ w, S w → I none w → I (some w.heap.size) (w.alloc o)) → wpMixU P ops Q S d o l I a → wpMixA P ops Q S d o l none a w
  | [], I, a, w, hS, hI, hc, h => ⟨hSo w hS, h _ _ (hSo w hS) (hc w hS hI)⟩
  | (i, true) :: l, I, a, w, hS, hI, hc, h => by
    obtain ⟨p, h0, hd, hw, v, hv, h⟩ := h
    exact ⟨p, h0, hd, hw _, v, fun u hu => hv _ u hu, mixU_A hSo l I _ w hS hI hc h⟩
  | (i, false) :: l, I, a, w, hS, hI, hc, h => by
    refine ⟨?_, fun _ => ⟨hSo w hS, mixU_F _ I a _ _ (hSo w hS) (hc w hS hI) h⟩⟩
    obtain ⟨p, h0, hw, h⟩ := h
    refine ⟨p, h0, hw _, Oper.wp_mono ?_ (h _ w hS hI)⟩
    rintro a' w' ⟨a'', I', e, hS', hI', hc', h'⟩
    exact ⟨a'', e, hS', mixU_A hSo l I' a'' w' hS' hI' hc' h'⟩
/-- the order, the block not yet made -/
def mixBN (ops : Array Oper) (f : Nat) : List (Nat × Bool) → Array Bool → Bool
  | [], L => (Region.ready .any ops L == [f]) && (Region.ready .any ops (L.setIfInBounds f true)).isEmpty
  | (k, true) :: l, L => (Region.ready .any ops L).contains k && Region.free .any ops L k && mixBN ops f l (L.setIfInBounds k true)
  | (k, false) :: l, L => (Region.ready .any ops L == [k, f]) && mixBN ops f l (L.setIfInBounds k true) && mixBI ops ((k, false) :: l) (L.setIfInBounds f true)
theorem any_mixF2 {ops : Array Oper} {D : Option Tmp → Prop} {d : Tmp} {o : Obj} (hs : Region.noSelect ops = true) (hQ : Loose D Q) (hD : ∀ o ∈ ops.toList, D o.dst) (H : Nat) : ∀ (l : List (Nat × Bool)) (L : Array Bool) (a : Act) (w : World), mixBI ops l L = true → S w →
    wpMixF P ops Q S d o l (some H) a w → wpAnyH P .any ops Q S l.length L (withB d (some H) a) w
  | [], L, a, w, hB, _, h => ⟨by simpa [mixBI] using hB, h⟩
  | (k, true) :: l, L, a, w, hB, hS, h => by
    simp only [mixBI, Bool.and_eq_true] at hB
    obtain ⟨p, h0, hd, hw, v, hv, h⟩ := h
    refine wpAnyH_take h0 hs hB.1.2 hB.1.1 (fun c a w h => hQ _ _ _ _ _ (hD p (by have := Array.mem_of_getElem? h0; simpa using this)) h) (.inl ⟨hw, hv⟩) hS ?_
    rw [withB_put hd]
    exact any_mixF2 hs hQ hD H l _ _ _ hB.2 hS h
  | (k, false) :: l, L, a, w, hB, hS, h => by
    simp only [mixBI, Bool.and_eq_true, beq_iff_eq] at hB
    obtain ⟨p, h0, hw, h⟩ := h
    refine ⟨fun h0 => by rw [h0] at hB; simp at hB, fun i hi => ?_⟩
    rw [hB.1] at hi
    obtain rfl : i = k := by simpa using hi
    have hn : ∀ a' w', (∃ a'', a' = withB d (some H) a'' ∧ S w' ∧ wpMixF P ops Q S d o l (some H) a'' w') → (S w' ∧ wpAnyH P .any ops Q S l.length (L.setIfInBounds i true) a' w') := by
      rintro a' w' ⟨a'', rfl, hS', h'⟩
      exact ⟨hS', any_mixF2 hs hQ hD H l _ _ _ hB.2 hS' h'⟩
    unfold wpOp
    rw [h0]
    simp only
    rw [if_pos hw]
    exact .inl (Oper.wp_mono hn h)
theorem any_mixA2 {ops : Array Oper} {D : Option Tmp → Prop} {d : Tmp} {o : Obj} {f : Nat} {fo : Oper} (hs : Region.noSelect ops = true) (hQ : Loose D Q) (hD : ∀ o ∈ ops.toList, D o.dst) (hf : ops[f]? = some fo) (hfg : fo.guard.isNone = true) (hfd : fo.dst = some d)
    (hy : ∀ (a' : Act) u, (execOp a'.eval fo).run P u = .ok (.value (.pointer (some ⟨u.heap.size, 0, none⟩))) (u.alloc o)) : ∀ (l : List (Nat × Bool)) (L : Array Bool) (a : Act) (w : World), mixBN ops f l L = true → S w →
    wpMixA P ops Q S d o l none a w → wpAnyH P .any ops Q S (l.length + 1) L a w := by
  have made : ∀ (l : List (Nat × Bool)) (L : Array Bool) (a : Act) (w : World), mixBI ops l (L.setIfInBounds f true) = true → S (w.alloc o) → wpMixF P ops Q S d o l (some w.heap.size) a (w.alloc o) →
      wpOp P ops Q f (fun a' w' => S w' ∧ wpAnyH P .any ops Q S l.length (L.setIfInBounds f true) a' w') a w := by
    intro l L a w hB hS h
    unfold wpOp
    rw [hf]
    simp only
    rw [if_pos (want_none hfg)]
    refine .inl (wp_val (hy a w) ⟨hS, ?_⟩)
    rw [hfd]
    exact any_mixF2 hs hQ hD _ l _ a _ hB hS h
  intro l
  induction l with
  | nil =>
    intro L a w hB _ h
    simp only [mixBN, Bool.and_eq_true, beq_iff_eq] at hB
    refine ⟨fun h0 => by rw [h0] at hB; simp at hB, fun i hi => ?_⟩
    rw [hB.1] at hi
    obtain rfl : i = f := by simpa using hi
    exact made [] L a w (by simpa [mixBI] using hB.2) h.1 h.2
  | cons x l ih =>
    obtain ⟨k, b⟩ := x
    cases b with
    | true =>
      intro L a w hB hS h
      simp only [mixBN, Bool.and_eq_true] at hB
      obtain ⟨p, h0, hd, hw, v, hv, h⟩ := h
      exact wpAnyH_take h0 hs hB.1.2 hB.1.1 (fun c a w h => hQ _ _ _ _ _ (hD p (by have := Array.mem_of_getElem? h0; simpa using this)) h) (.inl ⟨hw, hv⟩) hS (ih _ _ _ hB.2 hS h)
    | false =>
      intro L a w hB hS h
      rw [mixBN] at hB
      simp only [Bool.and_eq_true, beq_iff_eq] at hB
      obtain ⟨⟨hB1, hB2⟩, hB3⟩ := hB
      obtain ⟨⟨p, h0, hw, hp⟩, hal⟩ := h
      refine ⟨fun h0 => by rw [h0] at hB1; simp at hB1, fun i hi => ?_⟩
      rw [hB1] at hi
      rcases List.mem_cons.1 hi with rfl | hi
      · have hn : ∀ a' w', (∃ a'', a' = withB d none a'' ∧ S w' ∧ wpMixA P ops Q S d o l none a'' w') → (S w' ∧ wpAnyH P .any ops Q S (l.length + 1) (L.setIfInBounds i true) a' w') := by
          rintro a' w' ⟨a'', rfl, hS', h'⟩
          exact ⟨hS', ih _ _ _ hB2 hS' h'⟩
        unfold wpOp
        rw [h0]
        simp only
        have hw' : Region.wanted p (yielded ops a.tmps) = true := hw
        rw [if_pos hw']
        exact .inl (Oper.wp_mono hn hp)
      · obtain rfl : i = f := by simpa using hi
        obtain ⟨hS', h'⟩ := hal rfl
        exact made ((k, false) :: l) L a w hB3 hS' h'
theorem wp_region_mixU {l1 l2 : List Oper} {id : Nat} {a : Act} {w : World} (is : List (Nat × Bool)) (f : Nat) {fo : Oper} {d : Tmp} {o : Obj} (S : World → Prop) (I : Option Nat → World → Prop) (hm : P.follows .mixedOrders = true)
    (hB : (ordB l1.length 0 l1 && phB l1 l2 && Region.noSelect l1.toArray && mixBN l1.toArray f is (Array.replicate l1.length false) && (is.length + 1 == l1.length) && chainB (l1 ++ l2).toArray l2.length l1.length (List.replicate l1.length true ++ List.replicate l2.length false).toArray) = true)
    (hQ : Loose (fun d => d ∈ l1.map (·.dst)) Q) (hf : l1.toArray[f]? = some fo) (hfg : fo.guard.isNone = true) (hfd : fo.dst = some d)
    (hy : ∀ (a' : Act) u, (execOp a'.eval fo).run P u = .ok (.value (.pointer (some ⟨u.heap.size, 0, none⟩))) (u.alloc o)) (hS : S { w with drawn := w.drawn + 1 })
    (hSo : ∀ w, S w → S (w.alloc o)) (hI : I none { w with drawn := w.drawn + 1 }) (hc : ∀ w, S w → I none w → I (some w.heap.size) (w.alloc o))
    (h : wpMixU P l1.toArray (upTo Q (wpList P (l1 ++ l2).toArray Q l2)) S d o is I a) : (Code.region id (l1 ++ l2).toArray true).wp P Q a w := by
  simp only [Bool.and_eq_true, beq_iff_eq] at hB
  obtain ⟨⟨⟨⟨⟨h1, h2⟩, h3⟩, h4⟩, h5⟩, h6⟩ := hB
  refine wp_region_cut S (wpList P (l1 ++ l2).toArray Q l2) hm (by rw [h1, h2]; rfl) ?_ fun a w hJ => ?_
  · have := any_mixA2 (P := P) (S := S) (Q := upTo Q (wpList P (l1 ++ l2).toArray Q l2)) h3 (fun c a d v w hd h => hQ c a d v w hd h) (fun o ho => List.mem_map_of_mem (by simpa using ho)) hf hfg hfd hy is _ a _ h4 hS (mixU_A hSo is I a _ hS hI hc h)
    rw [h5] at this
    exact this
  · exact any_list l2 l1.length _ a w (fun j => by simp [List.getElem?_append_right]) h6 hJ
theorem mixU_take {ops : Array Oper} {d : Tmp} {o : Obj} {i : Nat} {p : Oper} {l : List (Nat × Bool)} {I : Option Nat → World → Prop} {a : Act} (v : Value) (h0 : ops[i]? = some p) (hd : p.dst ≠ some d) (hw : p.guard.isNone = true)
    (hv : ∀ ex u, S u → (execOp (withB d ex a).eval p).run P u = .ok (.value v) u) (h : wpMixU P ops Q S d o l I (a.put p.dst v)) : wpMixU P ops Q S d o ((i, true) :: l) I a := ⟨p, h0, hd, fun _ => want_none hw, v, hv, h⟩
theorem mixU_go {ops : Array Oper} {d : Tmp} {o : Obj} {i : Nat} {p : Oper} {l : List (Nat × Bool)} {I : Option Nat → World → Prop} {a : Act} (h0 : ops[i]? = some p) (hd : p.dst ≠ some d) (hw : p.guard.isNone = true)
    (h : ∀ ex w, S w → I ex w → ∀ K : Act → World → Prop, Shut (∀ v w' I', S w' → I' ex w' → (∀ w, S w → I' none w → I' (some w.heap.size) (w.alloc o)) → wpMixU P ops Q S d o l I' (a.put p.dst v) → K ((withB d ex a).put p.dst v) w') → p.wp P (withB d ex a) w K Q) : wpMixU P ops Q S d o ((i, false) :: l) I a :=
  ⟨p, h0, fun _ => want_none hw, fun ex w hS hI => h ex w hS hI _ (fun v _ I' h1 h2 h3 h4 => ⟨a.put p.dst v, I', withB_put hd, h1, h2, h3, h4⟩)⟩
end

/-- values are read as data -/
def ReadsV (w : World) : List Dat → List Value → Prop
  | [], us => us = []
  | d :: ds, us => ∃ u us', us = u :: us' ∧ Reads w d u ∧ ReadsV w ds us'
/-- a literal is one cell -/
def oneD : Dat → Bool
  | .lit u => u.oneCell'
  | .row .. => true
theorem ReadsV.len {w : World} : ∀ {ds : List Dat} {us : List Value}, ReadsV w ds us → us.length = ds.length
  | [], us, h => by have h : us = [] := h
                    simp [h]
  | d :: ds, us, h => by obtain ⟨u, us', rfl, _, h2⟩ := h; simp [ReadsV.len h2]
theorem ReadsV.append {w : World} : ∀ {ds es : List Dat} {us vs : List Value}, ReadsV w ds us → ReadsV w es vs → ReadsV w (ds ++ es) (us ++ vs)
  | [], es, us, vs, h, k => by have h : us = [] := h
                               rw [h]; exact k
  | d :: ds, es, us, vs, h, k => by obtain ⟨u, us', rfl, h1, h2⟩ := h; exact ⟨u, us' ++ vs, rfl, h1, ReadsV.append h2 k⟩
theorem ReadsV.one {w : World} : ∀ {ds : List Dat} {us : List Value}, ReadsV w ds us → (∀ d ∈ ds, oneD d = true) → ∀ u ∈ us, u.oneCell' = true
  | [], us, h, _, u, hu => by have h : us = [] := h
                              rw [h] at hu; cases hu
  | d :: ds, us, h, ho, u, hu => by
    obtain ⟨x, us', rfl, h1, h2⟩ := h
    rcases List.mem_cons.1 hu with rfl | hu
    · have hd := ho d (List.mem_cons_self ..)
      cases d with
      | lit x => rw [Reads.lit_iff] at h1; rw [h1]; exact hd
      | row E S n items => rw [Reads.row_iff] at h1; obtain ⟨_, _, a, c, rfl, _⟩ := h1; rfl
    · exact ReadsV.one h2 (fun d hd => ho d (List.mem_cons_of_mem _ hd)) u hu
theorem ReadsL.vals {w : World} {b : Nat} : ∀ {ds : List Dat} {o : Nat}, ReadsL w b o ds → ∃ us, ReadsV w ds us ∧ ∀ k u, us[k]? = some u → w.cell? ⟨b, o + k, none⟩ = some u
  | [], o, _ => ⟨[], rfl, fun k u h => by simp at h⟩
  | d :: ds, o, h => by
    rw [ReadsL.cons] at h
    obtain ⟨⟨u, h1, h2⟩, h3⟩ := h
    obtain ⟨us, h4, h5⟩ := ReadsL.vals h3
    refine ⟨u :: us, ⟨u, us, rfl, h2, h4⟩, fun k x hk => ?_⟩
    cases k with
    | zero => have : u = x := by simpa using hk
              rw [← this]; exact h1
    | succ k => have := h5 k x (by simpa using hk)
                rwa [show o + 1 + k = o + (k + 1) by omega] at this
theorem ReadsV.cells {w w' : World} (hb : Below w.heap.size w w') {b : Nat} : ∀ {ds : List Dat} {us : List Value} {o : Nat}, ReadsV w ds us → (∀ k u, us[k]? = some u → w'.cell? ⟨b, o + k, none⟩ = some u) → ReadsL w' b o ds
  | [], us, o, _, _ => by rw [ReadsL.nil]; trivial
  | d :: ds, us, o, h, hc => by
    obtain ⟨u, us', rfl, h1, h2⟩ := h
    rw [ReadsL.cons]
    refine ⟨⟨u, by simpa using hc 0 u rfl, Reads.below hb h1⟩, ReadsV.cells hb h2 fun k x hk => ?_⟩
    have := hc (k + 1) x (by simpa using hk)
    rwa [show o + (k + 1) = o + 1 + k by omega] at this
/-- a row that is owned above a world, whose elements are read there -/
def OwnR (W w : World) (E : TypeId) (S n : Nat) (items : List Dat) (v : Value) : Prop := ∃ xs, w.ownsRow W.heap.size E S v n xs ∧ ReadsV W items xs
theorem OwnR.reads {W w : World} {E : TypeId} {S n : Nat} {items : List Dat} {v : Value} (h : OwnR W w E S n items v) (hb : Below W.heap.size W w) : Reads w (.row E S n items) v := by
  obtain ⟨xs, ho, hr⟩ := h
  rw [Reads.row_iff]
  refine ⟨by rw [← hr.len]; exact ho.1, own_len ho, ?_⟩
  rcases ho.2 with ⟨rfl, rfl⟩ | ⟨g, cap, cur, rfl, _⟩
  · exact ⟨none, 0, rfl, .inl ⟨rfl, rfl, rfl⟩⟩
  · refine ⟨some ⟨g, 0, none⟩, cap, rfl, .inr (.inl ⟨g, 0, rfl, hr.cells hb fun k u hk => ?_⟩)⟩
    rw [Nat.zero_add, ho.cellAt k (by rw [← ho.1]; exact (List.getElem?_eq_some_iff.1 hk).1)]; exact hk
theorem OwnR.ne {W w : World} {E : TypeId} {S n : Nat} {items : List Dat} {v : Value} (h : OwnR W w E S n items v) {H : Nat} (hH : w.heap.size ≤ H) : v.ownBlock ≠ some H := fun e => by
  obtain ⟨xs, ho, _⟩ := h
  have := (ho.lt H e).2
  omega
theorem OwnR.kept {W w w' : World} {E : TypeId} {S n : Nat} {items : List Dat} {v : Value} (h : OwnR W w E S n items v) {r : Option Nat} (hg : w.grownBy w' r) (hr : v.ownBlock = none ∨ v.ownBlock ≠ r) : OwnR W w' E S n items v := by
  obtain ⟨xs, ho, h2⟩ := h
  exact ⟨xs, ho.kept hg hr, h2⟩
/-- AN APPEND of a row that is read -/
theorem wp_append_reads {P : Program} {w W : World} {o : Oper} {a : Act} {K : Act → World → Prop} {Q : Exit → Act → World → Prop} (s x : Operand) (t : TypeId)
    (ho : o.op = .call { callee := .builtin .append, args := #[s, x], argTypes := #[t, t] })
    (E : TypeId) (i : TypeInfo) (z : Value) (S bytes : Nat) (ht : P.underlying t = some (.slice E)) (hi : P.info? E = some i) (hz : i.zero = some z)
    (hsize : i.size = S) (hby : i.bytes = bytes) (hzs : z.cells.size = S) (hsz : 0 < S)
    (v r : Value) (n m : Nat) (items items2 : List Dat) (hs : a.eval s = v) (hown : OwnR W w E S n items v) (hx : a.eval x = r) (hr : Reads W (.row E S m items2) r) (h1 : ∀ d ∈ items2, oneD d = true)
    (hbw : Below W.heap.size W w) (h63 : n + m ≤ maxLen) (hbytes : (n + m) * bytes ≤ 140737488355328)
    (h : ∀ v' w', OwnR W w' E S (n + m) (items ++ items2) v' → Below W.heap.size W w' → w.grownBy w' v.ownBlock → (v'.ownBlock = v.ownBlock ∨ v'.ownBlock = some w.heap.size) → K (a.put o.dst v') w') : o.wp P a w K Q := by
  obtain ⟨xs, hxs, hxr⟩ := hown
  rw [Reads.row_iff] at hr
  obtain ⟨hl, _, a2, c2, rfl, hr⟩ := hr
  have hgb : ∀ w', w.grownBy w' v.ownBlock → Below W.heap.size W w' := fun w' hg => hbw.grown hg hbw.size fun j hj => (hxs.lt j hj).1
  rcases hr with ⟨rfl, rfl, rfl⟩ | ⟨b, k, rfl, hr⟩ | ⟨ad, rfl, rfl⟩
  · obtain rfl : items2 = [] := List.eq_nil_of_length_eq_zero (by rw [hl]; simp)
    have hrun := run_append_owned_none (P := P) (w := w) W.heap.size t o.type E i S ht hi v n xs hxs
    unfold Oper.wp
    simp [execOp, ho, resolve, invoke, builtin, hs, hx, hrun, Result.andThen]
    exact h v w ⟨xs, hxs, by simpa using hxr⟩ hbw (World.grownBy.refl _ _) (.inl rfl)
  · obtain ⟨us, hu, hc⟩ := ReadsL.vals hr
    obtain ⟨v', w', hrun, h2, h3, _, h5⟩ := run_append_own_at (P := P) w W.heap.size t o.type E i z S bytes ht hi hz hsize hby hzs hsz v n xs hxs ⟨b, k, none⟩ m c2 us (by rw [hu.len, hl]) (fun j u hj => by
      have hcj := hc j u hj
      have := (hbw.cell (World.block_lt_of_cell? _ _ hcj)).trans hcj
      unfold Addr.add; split <;> simp_all) (hu.one h1) h63 hbytes hbw.size
    unfold Oper.wp execOp
    simp only [ho, resolve, invoke, builtin, Sem.run_bind, Sem.run_pure, Result.andThen_ok, List.map_toArray, List.map_cons, List.map_nil, hs, hx, hrun]
    exact h v' w' ⟨xs ++ us, h2, hxr.append hu⟩ (hgb w' h3) h3 h5
  · obtain rfl : items2 = [] := List.eq_nil_of_length_eq_zero (by rw [hl]; simp)
    obtain ⟨v', w', hrun, h2, h3, _, h5⟩ := run_append_own_at (P := P) w W.heap.size t o.type E i z S bytes ht hi hz hsize hby hzs hsz v n xs hxs ad 0 c2 [] (by simp) (fun j u hj => by simp at hj) (by simp) h63 hbytes hbw.size
    unfold Oper.wp execOp
    simp only [ho, resolve, invoke, builtin, Sem.run_bind, Sem.run_pure, Result.andThen_ok, List.map_toArray, List.map_cons, List.map_nil, hs, hx, hrun]
    exact h v' w' ⟨xs ++ [], h2, by simpa using hxr⟩ (hgb w' h3) h3 h5
/-- a row of nothing, made now -/
theorem wp_none_row {P : Program} {w W : World} {o : Oper} {a : Act} {K : Act → World → Prop} {Q : Exit → Act → World → Prop} (t : TypeId) (ho : o.op = .buildSlice t 0 #[]) (E : TypeId) (i : TypeInfo) (S : Nat) (ht : P.underlying t = some (.slice E)) (hi : P.info? E = some i)
    (hbw : Below W.heap.size W w)
    (h : ∀ v w', OwnR W w' E S 0 [] v → Below W.heap.size W w' → w.grownBy w' none → v.ownBlock = some w.heap.size → K (a.put o.dst v) w') : o.wp P a w K Q := by
  have hrun : (execOp a.eval o).run P w = .ok (.value (.slice (some ⟨w.heap.size, 0, none⟩) 0 0)) (w.alloc (.cells #[] E)) := by
    simp [execOp, ho, Instr.buildSlice, run_underlying ht, sizeOf, typeInfo, hi, newRow, go_sem]
  unfold Oper.wp
  rw [hrun]
  refine h _ _ ⟨[], World.ownsRow_lit w #[] 0 hbw.size (Nat.zero_le _) (by simp), rfl⟩ (hbw.alloc hbw.size _) (World.grownBy_alloc _ _ _) rfl
/-- the new block, if it is made -/
def Made1 (V : World) (o : Obj) (ex : Option Nat) (u : World) : Prop := ∀ H, ex = some H → V.heap.size ≤ H ∧ u.heap[H]? = some o
theorem Made1.none {V : World} {o : Obj} {u : World} : Made1 V o none u := fun H h => by cases h
theorem Made1.made {V w : World} {o : Obj} (hb : Below V.heap.size V w) : Made1 V o (some w.heap.size) (w.alloc o) := fun H h => by
  obtain rfl : w.heap.size = H := Option.some.inj h
  exact ⟨hb.size, heap_alloc_new w o⟩
/-- .. and a row that is owned, beside it -/
def Up (V : World) (o : Obj) (E : TypeId) (S n : Nat) (items : List Dat) (v : Value) (ex : Option Nat) (u : World) : Prop := OwnR V u E S n items v ∧ Made1 V o ex u ∧ ∀ H, ex = some H → v.ownBlock ≠ some H
theorem Up.made {V w : World} {o : Obj} {E : TypeId} {S n : Nat} {items : List Dat} {v : Value} (hb : Below V.heap.size V w) (h : Up V o E S n items v none w) : Up V o E S n items v (some w.heap.size) (w.alloc o) := by
  refine ⟨h.1.kept (World.grownBy_alloc w o none) ?_, Made1.made hb, fun H e => ?_⟩
  · cases hv : v.ownBlock with
    | none => exact .inl rfl
    | some g => exact .inr (by simp)
  · obtain rfl : w.heap.size = H := Option.some.inj e
    exact h.1.ne (Nat.le_refl _)
theorem at_lt {w : World} {H : Nat} {o : Obj} (h : w.heap[H]? = some o) : H < w.heap.size := (Array.getElem?_eq_some_iff.1 h).1
theorem Made1.kept {V w w' : World} {o : Obj} {ex : Option Nat} (h : Made1 V o ex w) {r : Option Nat} (hg : w.grownBy w' r) (hr : ∀ H, ex = some H → r ≠ some H) : Made1 V o ex w' := fun H e =>
  ⟨(h H e).1, (hg.block H (at_lt (h H e).2) (fun e' => hr H e e'.symm)).trans (h H e).2⟩
theorem Made1.below {V w w' : World} {o : Obj} {ex : Option Nat} (h : Made1 V o ex w) (hb : Below w.heap.size w w') : Made1 V o ex w' := fun H e =>
  ⟨(h H e).1, (hb.block H (at_lt (h H e).2)).trans (h H e).2⟩
theorem Up.first {V w w' : World} {o : Obj} {E : TypeId} {S : Nat} {v : Value} {ex : Option Nat} (h : Made1 V o ex w) (ho : OwnR V w' E S 0 [] v) (hg : w.grownBy w' none) (hv : v.ownBlock = some w.heap.size) : Up V o E S 0 [] v ex w' :=
  ⟨ho, h.kept hg (fun _ _ e => by cases e), fun H e e' => by have := at_lt (h H e).2; rw [hv] at e'; have : w.heap.size = H := Option.some.inj e'; omega⟩
theorem Up.next {V w w' : World} {o : Obj} {E : TypeId} {S n n' : Nat} {items items' : List Dat} {v v' : Value} {ex : Option Nat} (h : Up V o E S n items v ex w) (ho : OwnR V w' E S n' items' v') (hg : w.grownBy w' v.ownBlock) (hv : v'.ownBlock = v.ownBlock ∨ v'.ownBlock = some w.heap.size) : Up V o E S n' items' v' ex w' :=
  ⟨ho, h.2.1.kept hg h.2.2, fun H e e' => by
    rcases hv with hv | hv
    · exact h.2.2 H e (hv ▸ e')
    · have := at_lt (h.2.1 H e).2; rw [hv] at e'; have : w.heap.size = H := Option.some.inj e'; omega⟩
theorem OwnR.form {W w : World} {E : TypeId} {S n : Nat} {items : List Dat} {v : Value} (h : OwnR W w E S n items v) : ∃ p q, v = .slice p n q := by
  obtain ⟨xs, ho, _⟩ := h
  rcases ho.2 with ⟨rfl, rfl⟩ | ⟨g, cap, cur, rfl, _⟩
  · exact ⟨_, _, rfl⟩
  · exact ⟨_, _, rfl⟩
/-- what was made beside the new block -/
def Beside (V : World) (o : Obj) (B : Nat) (d : Dat) (v : Value) (k : List Nat) (ex : Option Nat) (u : World) : Prop := Lies u B d v k ∧ Made1 V o ex u ∧ ∀ H, ex = some H → H ∉ k
theorem Beside.made {V w : World} {o : Obj} {B : Nat} {d : Dat} {v : Value} {k : List Nat} (hb : Below V.heap.size V w) (h : Beside V o B d v k none w) : Beside V o B d v k (some w.heap.size) (w.alloc o) :=
  ⟨h.1.new ((Below.refl _ w).alloc (Nat.le_refl _) o), Made1.made hb, fun H e hm => by
    obtain rfl : w.heap.size = H := Option.some.inj e
    have := (Lies.lt h.1 _ hm).2
    omega⟩
theorem Beside.first {V w w' : World} {o : Obj} {d : Dat} {v : Value} {k : List Nat} {ex : Option Nat} (h : Made1 V o ex w) (hl : Lies w' w.heap.size d v k) (hb : Below w.heap.size w w') : Beside V o w.heap.size d v k ex w' :=
  ⟨hl, h.below hb, fun H e hm => by have := at_lt (h H e).2; have := (Lies.lt hl _ hm).1; omega⟩
/-- two cells of it are written -/
theorem Beside.set2 {V w : World} {o : Obj} {B : Nat} {d : Dat} {v : Value} {k : List Nat} {H : Nat} (h : Beside V o B d v k (some H) w) (i j : Nat) (x y : Value) : Lies ((w.setCell ⟨H, i, none⟩ x).setCell ⟨H, j, none⟩ y) B d v k :=
  have hk : ∀ b ∈ k, some b ≠ some H := fun b hb e => by obtain rfl : b = H := Option.some.inj e; exact h.2.2 b rfl hb
  Lies.kept (Heap.grown_set _ ⟨H, j, none⟩ y) (Lies.kept (Heap.grown_set w ⟨H, i, none⟩ x) h.1 hk) hk
theorem put_size {a : Act} {d : Option Tmp} {v : Value} {n : Nat} (h : n < a.tmps.size) : n < (a.put d v).tmps.size := by
  cases d with
  | none => exact h
  | some i => show n < (a.tmps.setIfInBounds i v).size; simpa using h
theorem put_here {a : Act} {d : Option Tmp} {v : Value} {t : Tmp} (hd : d = some t) (h : t < a.tmps.size) : (a.put d v).tmps[t]? = some v := by
  subst hd
  show (a.tmps.setIfInBounds t v)[t]? = some v
  simp [h]
end Go.Proofs.Ytelpkldlkpoioaa.Cut
