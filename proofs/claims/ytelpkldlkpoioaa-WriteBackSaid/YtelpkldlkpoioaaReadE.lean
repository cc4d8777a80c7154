/- The reader of grammars' texts: parts with a sign between, and in parentheses: of any part (a closure), walked. -/
import Derived.Test.YtelpkldlkpoioaaReadC
namespace Go.Proofs.Ytelpkldlkpoioaa.ReadE
open Go.RowKit Go.Proofs.Ytelpkldlkpoioaa.Lexy Go.Proofs.Ytelpkldlkpoioaa.LexA Go.Proofs.Ytelpkldlkpoioaa.LexB Go.Proofs.Ytelpkldlkpoioaa.LexC Go.Proofs.Ytelpkldlkpoioaa.LexD Go.Proofs.Ytelpkldlkpoioaa.LexE Go.Proofs.Ytelpkldlkpoioaa.LexF Go.Proofs.Ytelpkldlkpoioaa.LexG Go.Proofs.Ytelpkldlkpoioaa.Heap Go.Proofs.Ytelpkldlkpoioaa.Dat Go.Proofs.Ytelpkldlkpoioaa.Ready Go.Proofs.Ytelpkldlkpoioaa.ReadA Go.Proofs.Ytelpkldlkpoioaa.ReadB Go.Proofs.Ytelpkldlkpoioaa.ReadC

/-- what parts make of a state: a state, and where; or a fault -/
abbrev Ends2 (σ : Type) := Sum (Nat × σ) (Nat × Nat)
/-- how a call ended that told so -/
def Told {σ : Type} (B b : Nat) (w : World) (I : Nat → σ → World → Prop) : Ends2 σ → Ending → World → Prop
  | .inl (k, s), e, w' => e = .returned (.tuple #[]) ∧ I k s w' ∧ Bx B b w w'
  | .inr (x, p), e, w' => e = .panicked (thrownF (x : Int) (p : Int)) ∧ Bx B b w w'
/-- a part that reads: what it is, over states that worlds stand for -/
structure Part {σ : Type} (T : List Tok) (b g c B f : Nat) (lb : Array Value) (I : Nat → σ → World → Prop) (PS : Nat → σ → Ends2 σ → Prop) : Prop where
  enters : ∀ args w, (callFunc f args).run Try.prog w = .ok (.enter f args) w
  reads : ∀ {k s w}, I k s w → Rr w b g c T k
  base : ∀ {k s w}, I k s w → B ≤ w.heap.size
  keeps : ∀ {k k' s w w'}, I k s w → w.grownBy w' (some b) → Rr w' b g c T k' → I k' s w'
  past : ∀ {k s k1 s1}, k < T.length → PS k s (.inl (k1, s1)) → k ≤ k1 ∧ k1 < T.length
  part : ∀ {k s o w}, PS k s o → k < T.length → I k s w → Calls Try.prog f lb w (Told B b w I o)
/-- .. what comes behind one -/
inductive LT {σ : Type} (T : List Tok) (t : List UInt8) (PS : Nat → σ → Ends2 σ → Prop) : Nat → σ → Ends2 σ → Prop
  | stop {k : Nat} {s : σ} : isT T k 6 t = false → LT T t PS k s (.inl (k, s))
  | fail {k : Nat} {s : σ} {x p : Nat} : isT T k 6 t = true → PS (k + 1) s (.inr (x, p)) → LT T t PS k s (.inr (x, p))
  | next {k k1 : Nat} {s s1 : σ} {o : Ends2 σ} : isT T k 6 t = true → PS (k + 1) s (.inl (k1, s1)) → LT T t PS k1 s1 o → LT T t PS k s o
inductive LR {σ : Type} (T : List Tok) (t : List UInt8) (PS : Nat → σ → Ends2 σ → Prop) (k : Nat) (s : σ) : Ends2 σ → Prop
  | fail {x p : Nat} : PS k s (.inr (x, p)) → LR T t PS k s (.inr (x, p))
  | more {k1 : Nat} {s1 : σ} {o : Ends2 σ} : PS k s (.inl (k1, s1)) → LT T t PS k1 s1 o → LR T t PS k s o
theorem LT.past {σ : Type} {T : List Tok} {t : List UInt8} {PS : Nat → σ → Ends2 σ → Prop} (hT : Ready.Ends T) (hp : ∀ {k s k1 s1}, k < T.length → PS k s (.inl (k1, s1)) → k ≤ k1 ∧ k1 < T.length) {k : Nat} {s : σ} {o : Ends2 σ} (h : LT T t PS k s o) (hk : k < T.length) : ∀ k1 s1, o = .inl (k1, s1) → k ≤ k1 ∧ k1 < T.length := by
  induction h with
  | stop _ => intro k1 s1 e; cases e; exact ⟨Nat.le_refl _, hk⟩
  | fail _ _ => intro k1 s1 e; cases e
  | next h1 h2 _ ih =>
    intro k1 s1 e
    have h3 := hT.ltT hk h1
    have h4 := hp h3 h2
    have h5 := ih h4.2 k1 s1 e
    omega
theorem Told.under {σ : Type} {B b : Nat} {w w1 : World} {I : Nat → σ → World → Prop} (h : Bx B b w w1) {o : Ends2 σ} {e : Ending} {w' : World} (k : Told B b w1 I o e w') : Told B b w I o e w' := by
  rcases o with ⟨k1, s1⟩ | ⟨x, p⟩
  · exact ⟨k.1, k.2.1, h.trans k.2.2⟩
  · exact ⟨k.1, h.trans k.2⟩

variable {σ : Type} {T : List Tok} {b g c B f : Nat} {lb : Array Value} {I : Nat → σ → World → Prop} {PS : Nat → σ → Ends2 σ → Prop}
set_option maxRecDepth 100000 in
set_option maxHeartbeats 2000000 in
theorem list_any (hP : Part T b g c B f lb I PS) (hT : Ready.Ends T) (hT2 : T.length ≤ 1000000) {t : List UInt8} {k : Nat} {s : σ} {o : Ends2 σ} {w : World} (h : LR T t PS k s o) (hk : k < T.length) (hI : I k s w) :
    Calls Try.prog 66 #[.pointer (some ⟨b, 0, none⟩), .string (bs t), .func (.func f) #[] lb] w (Told B b w I o) := by
  have eg := hP.enters
  have HP := Lib.hid hP; clear hP
  obtain ⟨tx, htx⟩ : ∃ x, bs t = x := ⟨_, rfl⟩
  have HTX := Lib.hid htx
  rw [htx]; clear htx
  rcases h with @⟨x, p, h1⟩ | @⟨k1, s1, _, h1, h2⟩
  · have HC := Lib.hid (HP.out.part h1 hk hI)
    clear h1 hI
    go_enter Try.func66, Try.ntmps66
    go_wp2_with (go_at_fn f; go_must (refine (HC.out).mono ?_); rintro e w1 ⟨rfl, hb1⟩)
    exact ⟨rfl, rfl, hb1⟩
  · have HC := Lib.hid (HP.out.part h1 hk hI)
    have H2 := Lib.hid h2
    have HK := Lib.hid (HP.out.past hk h1).2
    clear h1 h2 hI
    go_enter Try.func66, Try.ntmps66
    go_wp2_with (first | (go_at_fn f; go_must (refine (HC.out).mono ?_); rintro e w1 ⟨rfl, hI1, hb1⟩; have HI1 := Lib.hid hI1; clear hI1) | fail)
    go_loopg [] T.length (fun gk wr => ∃ (k : Nat) (s : σ), k < T.length ∧ T.length - k ≤ gk ∧ LT T t PS k s o ∧ I k s wr ∧ Bx B b w wr)
    case atStart => exact ⟨k1, s1, HK.out, by omega, H2.out, HI1.out, hb1⟩
    case round =>
      clear H2 HC HI1 HK hb1
      obtain ⟨k, s, hk, hgk, hl, hI, hB⟩ := hrel
      have HR := Lib.hid (HP.out.reads hI)
      have HB := Lib.hid (HP.out.base hI)
      have HI := Lib.hid hI
      clear hI
      rcases hl with ⟨h1⟩ | @⟨_, _, x, p, h1, h2⟩ | @⟨_, k1, _, s1, _, h1, h2, h3⟩
      · have H1 := Lib.hid h1; clear h1
        go_wp2_with (go_at_call 62; go_must (refine (take_one_f (t := t) (HR.out.new ((Below.refl _ _).alloc (Nat.le_refl _) _)) hk hT2 (by rw [HTX.out]; exact cell_of_row _ _ 0 _ _ (0, 0) (heap_alloc_new _ _)) H1.out rfl).mono ?_); rintro e w2 ⟨rfl, hb2⟩; have hb3 := ((Below.refl wr.heap.size wr).alloc (Nat.le_refl _) _).trans (hb2.mono (by simp)); have HI3 := Lib.hid (HP.out.keeps HI.out (grown_below hb3 (some b)) (HR.out.new hb3)))
        go_end0
        exact ⟨rfl, HI3.out, hB.below hb3 HB.out⟩
      · have H1 := Lib.hid h1; clear h1
        have H2 := Lib.hid h2; clear h2
        have HK2 := Lib.hid (hT.ltT hk H1.out)
        go_wp2_with (first | (go_at_call 62; go_must (refine (take_one_t (t := t) (HR.out.new ((Below.refl _ _).alloc (Nat.le_refl _) _)) hk hT2 (by rw [HTX.out]; exact cell_of_row _ _ 0 _ _ (0, 0) (heap_alloc_new _ _)) H1.out rfl).mono ?_); rintro e w2 ⟨rfl, hg2, hR2⟩; have hg3 := kept_b ((Below.refl wr.heap.size wr).alloc (Nat.le_refl _) _) hg2; have HI3 := Lib.hid (HP.out.keeps HI.out hg3 hR2)) | (go_at_fn f; go_must (refine (HP.out.part H2.out HK2.out HI3.out).mono ?_); rintro e w4 ⟨rfl, hb4⟩))
        exact ⟨rfl, rfl, (hB.grown hg3 HB.out (fun j hj => .inl (Option.some.inj hj).symm)).trans hb4⟩
      · have H1 := Lib.hid h1; clear h1
        have H2 := Lib.hid h2; clear h2
        have H3 := Lib.hid h3; clear h3
        have HK2 := Lib.hid (hT.ltT hk H1.out)
        have HK3 := Lib.hid (HP.out.past HK2.out H2.out)
        go_wp2_with (first | (go_at_call 62; go_must (refine (take_one_t (t := t) (HR.out.new ((Below.refl _ _).alloc (Nat.le_refl _) _)) hk hT2 (by rw [HTX.out]; exact cell_of_row _ _ 0 _ _ (0, 0) (heap_alloc_new _ _)) H1.out rfl).mono ?_); rintro e w2 ⟨rfl, hg2, hR2⟩; have hg3 := kept_b ((Below.refl wr.heap.size wr).alloc (Nat.le_refl _) _) hg2; have HI3 := Lib.hid (HP.out.keeps HI.out hg3 hR2)) | (go_at_fn f; go_must (refine (HP.out.part H2.out HK2.out HI3.out).mono ?_); rintro e w4 ⟨rfl, hI4, hb4⟩; have HI4 := Lib.hid hI4; clear hI4))
        go_roundg (T.length - k1)
        case measure => have := HK3.out; omega
        case rel => exact ⟨k1, s1, HK3.out.2, by omega, H3.out, HI4.out, (hB.grown hg3 HB.out (fun j hj => .inl (Option.some.inj hj).symm)).trans hb4⟩
/-- parts in parentheses, if any are there -/
inductive GR (T : List Tok) (PS : Nat → σ → Ends2 σ → Prop) (k : Nat) (s : σ) : Ends2 σ → Prop
  | none : isT T k 6 [40] = false → GR T PS k s (.inl (k, s))
  | bad {x p : Nat} : isT T k 6 [40] = true → LR T [44] PS (k + 1) s (.inr (x, p)) → GR T PS k s (.inr (x, p))
  | close {k1 : Nat} {s1 : σ} : isT T k 6 [40] = true → LR T [44] PS (k + 1) s (.inl (k1, s1)) → isT T k1 6 [41] = false → GR T PS k s (.inr (102, (tok T k1).at_))
  | whole {k1 : Nat} {s1 : σ} : isT T k 6 [40] = true → LR T [44] PS (k + 1) s (.inl (k1, s1)) → isT T k1 6 [41] = true → GR T PS k s (.inl (k1 + 1, s1))
theorem LR.past {t : List UInt8} (hT : Ready.Ends T) (hp : ∀ {k s k1 s1}, k < T.length → PS k s (.inl (k1, s1)) → k ≤ k1 ∧ k1 < T.length) {k : Nat} {s : σ} {o : Ends2 σ} (h : LR T t PS k s o) (hk : k < T.length) : ∀ k1 s1, o = .inl (k1, s1) → k ≤ k1 ∧ k1 < T.length := by
  intro k1 s1 e
  rcases h with @⟨x, p, h1⟩ | @⟨k2, s2, _, h1, h2⟩
  · cases e
  · have h3 := hp hk h1
    have h4 := h2.past hT hp h3.2 k1 s1 e
    omega
theorem GR.past (hT : Ready.Ends T) (hp : ∀ {k s k1 s1}, k < T.length → PS k s (.inl (k1, s1)) → k ≤ k1 ∧ k1 < T.length) {k : Nat} {s : σ} {o : Ends2 σ} (h : GR T PS k s o) (hk : k < T.length) : ∀ k1 s1, o = .inl (k1, s1) → k ≤ k1 ∧ k1 < T.length := by
  intro k1 s1 e
  rcases h with ⟨h1⟩ | @⟨x, p, h1, h2⟩ | @⟨k2, s2, h1, h2, h3⟩ | @⟨k2, s2, h1, h2, h3⟩
  · cases e; exact ⟨Nat.le_refl _, hk⟩
  · cases e
  · cases e
  · cases e
    have h4 := h2.past hT hp (hT.ltT hk h1) _ _ rfl
    have h5 := hT.ltT h4.2 h3
    omega
theorem text_at (w : World) {w' : World} {t : List UInt8} {ty : TypeId} (h : w' = w.alloc (.cells #[.string (bs t)] ty)) : w'.cell? ⟨w.heap.size, 0, none⟩ = some (.string (bs t)) := by rw [h]; exact cell_of_row _ _ 0 _ _ (0, 0) (heap_alloc_new _ _)
set_option maxRecDepth 100000 in
set_option maxHeartbeats 2000000 in
theorem given_any (hP : Part T b g c B f lb I PS) (hT : Ready.Ends T) (hT2 : T.length ≤ 1000000) {k : Nat} {s : σ} {o : Ends2 σ} {w : World} (h : GR T PS k s o) (hk : k < T.length) (hI : I k s w) :
    Calls Try.prog 64 #[.pointer (some ⟨b, 0, none⟩), .func (.func f) #[] lb] w (Told B b w I o) := by
  have HP := Lib.hid hP
  have hR := hP.reads hI
  have HB := Lib.hid (hP.base hI)
  have HX := Lib.hid (hR.new ((Below.refl _ _).alloc (Nat.le_refl _) (.cells #[.string (bs [40])] 9)))
  have HI := Lib.hid hI
  have eg := hP.enters
  clear hP hI hR
  rcases h with ⟨h1⟩ | @⟨x, p, h1, h2⟩ | @⟨k1, s1, h1, h2, h3⟩ | @⟨k1, s1, h1, h2, h3⟩
  · have HC := Lib.hid (take_one_f (t := [40]) (cp := 1) HX.out hk hT2 (text_at w rfl) h1 rfl)
    clear h1
    go_enter Try.func64, Try.ntmps64
    go_wp2_with (go_at_call 62; go_must (refine (HC.out).mono ?_); rintro e w2 ⟨rfl, hb2⟩; have hb3 := ((Below.refl w.heap.size w).alloc (Nat.le_refl _) _).trans (hb2.mono (by simp)))
    go_end0
    exact ⟨rfl, HP.out.keeps HI.out (grown_below hb3 (some b)) ((HP.out.reads HI.out).new hb3), (Bx.refl B b w).below hb3 HB.out⟩
  · have HC := Lib.hid (take_one_t (t := [40]) (cp := 1) HX.out hk hT2 (text_at w rfl) h1 rfl)
    have HK1 := Lib.hid (hT.ltT hk h1)
    have H2 := Lib.hid h2
    clear h1 h2
    go_enter Try.func64, Try.ntmps64
    go_wp2_with (first | (go_at_call 62; go_must (refine (HC.out).mono ?_); rintro e w2 ⟨rfl, hg2, hR2⟩; have hg3 := kept_b ((Below.refl w.heap.size w).alloc (Nat.le_refl _) _) hg2; have HI3 := Lib.hid (HP.out.keeps HI.out hg3 hR2)) | (go_at_call 66; go_must (refine (list_any HP.out hT hT2 H2.out HK1.out HI3.out).mono ?_); rintro e w4 ⟨rfl, hb4⟩))
    exact ⟨rfl, rfl, ((Bx.refl B b w).grown hg3 HB.out (fun j hj => .inl (Option.some.inj hj).symm)).trans hb4⟩
  · have HC := Lib.hid (take_one_t (t := [40]) (cp := 1) HX.out hk hT2 (text_at w rfl) h1 rfl)
    have HK1 := Lib.hid (hT.ltT hk h1)
    have HK2 := Lib.hid ((h2.past hT HP.out.past HK1.out _ _ rfl).2)
    have H2 := Lib.hid h2; have H3 := Lib.hid h3
    clear h1 h2 h3
    go_enter Try.func64, Try.ntmps64
    go_wp2_with (first | (go_at_call 62; go_must (refine (HC.out).mono ?_); rintro e w2 ⟨rfl, hg2, hR2⟩; have hg3 := kept_b ((Below.refl w.heap.size w).alloc (Nat.le_refl _) _) hg2; have HI3 := Lib.hid (HP.out.keeps HI.out hg3 hR2)) | (go_at_call 66; go_must (refine (list_any HP.out hT hT2 H2.out HK1.out HI3.out).mono ?_); rintro e w4 ⟨rfl, hI4, hb4⟩; have HI4 := Lib.hid hI4; clear hI4) | (go_at_call 37; go_must (refine (must_one_f (t := [41]) ((HP.out.reads HI4.out).new ((Below.refl _ _).alloc (Nat.le_refl _) _)) HK2.out hT2 (text_at w4 rfl) H3.out rfl).mono ?_); rintro e w5 ⟨rfl, hb5⟩; have hb6 := ((Below.refl w4.heap.size w4).alloc (Nat.le_refl _) _).trans (hb5.mono (by simp))))
    exact ⟨rfl, rfl, (((Bx.refl B b w).grown hg3 HB.out (fun j hj => .inl (Option.some.inj hj).symm)).trans hb4).below hb6 (HP.out.base HI4.out)⟩
  · have HC := Lib.hid (take_one_t (t := [40]) (cp := 1) HX.out hk hT2 (text_at w rfl) h1 rfl)
    have HK1 := Lib.hid (hT.ltT hk h1)
    have HK2 := Lib.hid ((h2.past hT HP.out.past HK1.out _ _ rfl).2)
    have H2 := Lib.hid h2; have H3 := Lib.hid h3
    clear h1 h2 h3
    go_enter Try.func64, Try.ntmps64
    go_wp2_with (first | (go_at_call 62; go_must (refine (HC.out).mono ?_); rintro e w2 ⟨rfl, hg2, hR2⟩; have hg3 := kept_b ((Below.refl w.heap.size w).alloc (Nat.le_refl _) _) hg2; have HI3 := Lib.hid (HP.out.keeps HI.out hg3 hR2)) | (go_at_call 66; go_must (refine (list_any HP.out hT hT2 H2.out HK1.out HI3.out).mono ?_); rintro e w4 ⟨rfl, hI4, hb4⟩; have HI4 := Lib.hid hI4; clear hI4) | (go_at_call 37; go_must (refine (must_one_t (t := [41]) ((HP.out.reads HI4.out).new ((Below.refl _ _).alloc (Nat.le_refl _) _)) HK2.out hT2 (text_at w4 rfl) H3.out rfl).mono ?_); rintro e w5 ⟨rfl, hg5, hR5⟩; have hg6 := kept_b ((Below.refl w4.heap.size w4).alloc (Nat.le_refl _) _) hg5; have HI5 := Lib.hid (HP.out.keeps HI4.out hg6 hR5)))
    go_end0
    exact ⟨rfl, HI5.out, (((Bx.refl B b w).grown hg3 HB.out (fun j hj => .inl (Option.some.inj hj).symm)).trans hb4).grown hg6 (HP.out.base HI4.out) (fun j hj => .inl (Option.some.inj hj).symm)⟩
end Go.Proofs.Ytelpkldlkpoioaa.ReadE
