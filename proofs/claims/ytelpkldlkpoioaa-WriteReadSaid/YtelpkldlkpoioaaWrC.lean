/- What a text is as tokens, and that these say it: the whole. Plain. -/
import Derived.Test.YtelpkldlkpoioaaWrB
namespace Go.Proofs.Ytelpkldlkpoioaa.WrC
open Go.Proofs.Ytelpkldlkpoioaa.Lexy Go.Proofs.Ytelpkldlkpoioaa.Ready Go.Proofs.Ytelpkldlkpoioaa.WrA Go.Proofs.Ytelpkldlkpoioaa.WrB

def tkDs (l : List De) : List KT := l.flatMap tkD
def tkRs (l : List Ru) : List KT := l.flatMap tkR
def tkT (x : Tx) : List KT := tkDs x.decls ++ ((6, [37, 37]) :: (tkRs x.rules ++ [(7, [])]))
structure FineT (x : Tx) : Prop where
  decls : ∀ d ∈ x.decls, FineD d
  rules : ∀ r ∈ x.rules, FineR r
theorem say_ds {T : List Tok} : ∀ (l acc : List De) (k : Nat), At T k (tkDs l) → isK T (k + (tkDs l).length) 1 = false → (∀ d ∈ l, FineD d) → ∃ ys, DeclsR T k acc (.ok (acc ++ ys) (k + (tkDs l).length)) ∧ ys.map plainD = l.map plainD
  | [], acc, k, _, h, _ => ⟨[], by rw [List.append_nil]; exact .stop h, rfl⟩
  | d :: l, acc, k, h, hk, hf => by
    have e : tkDs (d :: l) = tkD d ++ tkDs l := rfl
    rw [e] at h hk ⊢
    rw [at_app] at h
    rw [List.length_append, ← Nat.add_assoc] at hk ⊢
    obtain ⟨y, hy, by1⟩ := say_d h.1 (hf d (List.mem_cons_self ..))
    obtain ⟨ys, hys, by2⟩ := say_ds l (acc ++ [y]) _ h.2 hk fun z hz => hf z (List.mem_cons_of_mem _ hz)
    refine ⟨y :: ys, ?_, by simp [by1, by2]⟩
    have h1 : isK T k 1 = true := by
      have := h.1
      unfold tkD at this
      rw [At] at this
      rw [isK_of this.1]; rfl
    have := DeclsR.next h1 hy hys
    simpa using this
theorem say_rs {T : List Tok} : ∀ (l acc : List Ru) (k : Nat), At T k (tkRs l) → isK T (k + (tkRs l).length) 7 = true → (∀ r ∈ l, FineR r) → ∃ ys, RulesR T k acc (.ok (acc ++ ys) (k + (tkRs l).length)) ∧ ys.map plainR = l.map plainR
  | [], acc, k, _, h, _ => ⟨[], by rw [List.append_nil]; exact .stop h, rfl⟩
  | r :: l, acc, k, h, hk, hf => by
    have e : tkRs (r :: l) = tkR r ++ tkRs l := rfl
    rw [e] at h hk ⊢
    rw [at_app] at h
    rw [List.length_append, ← Nat.add_assoc] at hk ⊢
    obtain ⟨y, hy, by1⟩ := say_r h.1 (hf r (List.mem_cons_self ..))
    obtain ⟨ys, hys, by2⟩ := say_rs l (acc ++ [y]) _ h.2 hk fun z hz => hf z (List.mem_cons_of_mem _ hz)
    refine ⟨y :: ys, ?_, by simp [by1, by2]⟩
    have h1 : isK T k 7 = false := by
      have := h.1
      unfold tkR at this
      rw [At] at this
      rw [isK_of this.1]; rfl
    have := RulesR.next h1 hy hys
    simpa using this
/-- A TEXT's TOKENS SAY IT -/
theorem say_text {T : List Tok} {x : Tx} (h : At T 0 (tkT x)) (hf : FineT x) : ∃ y k, TextR T (.ok y k) ∧ plainT y = plainT x := by
  unfold tkT at h
  rw [at_app, At, at_app] at h
  obtain ⟨h1, h2, h3, h4⟩ := h
  simp only [At] at h4
  obtain ⟨ds, hd, bd⟩ := say_ds x.decls [] 0 h1 (by rw [isK_of h2]; rfl) hf.decls
  obtain ⟨rs, hr, br⟩ := say_rs x.rules [] _ h3 (by rw [isK_of h4.1]; rfl) hf.rules
  refine ⟨⟨ds, rs⟩, _, .whole hd (by rw [isT_of h2]; rfl) hr, ?_⟩
  simp [plainT, bd, br]
end Go.Proofs.Ytelpkldlkpoioaa.WrC
