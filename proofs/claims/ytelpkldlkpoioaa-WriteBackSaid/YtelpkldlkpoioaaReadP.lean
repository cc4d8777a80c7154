/- The reader of grammars' texts, walked whole. -/
import Derived.Test.YtelpkldlkpoioaaReadO
import Derived.Test.YtelpkldlkpoioaaReadPlain
namespace Go.Proofs.Ytelpkldlkpoioaa.ReadP
open Go.RowKit Go.Proofs.Ytelpkldlkpoioaa.Lexy Go.Proofs.Ytelpkldlkpoioaa.LexA Go.Proofs.Ytelpkldlkpoioaa.LexB Go.Proofs.Ytelpkldlkpoioaa.LexC Go.Proofs.Ytelpkldlkpoioaa.LexD Go.Proofs.Ytelpkldlkpoioaa.LexE Go.Proofs.Ytelpkldlkpoioaa.LexF Go.Proofs.Ytelpkldlkpoioaa.LexG Go.Proofs.Ytelpkldlkpoioaa.Heap Go.Proofs.Ytelpkldlkpoioaa.Dat Go.Proofs.Ytelpkldlkpoioaa.Ready Go.Proofs.Ytelpkldlkpoioaa.ReadA Go.Proofs.Ytelpkldlkpoioaa.ReadB Go.Proofs.Ytelpkldlkpoioaa.ReadC Go.Proofs.Ytelpkldlkpoioaa.ReadE Go.Proofs.Ytelpkldlkpoioaa.ReadD Go.Proofs.Ytelpkldlkpoioaa.ReadF Go.Proofs.Ytelpkldlkpoioaa.ReadG Go.Proofs.Ytelpkldlkpoioaa.ReadH Go.Proofs.Ytelpkldlkpoioaa.ReadI Go.Proofs.Ytelpkldlkpoioaa.ReadJ Go.Proofs.Ytelpkldlkpoioaa.ReadK Go.Proofs.Ytelpkldlkpoioaa.ReadL Go.Proofs.Ytelpkldlkpoioaa.ReadM Go.Proofs.Ytelpkldlkpoioaa.ReadN Go.Proofs.Ytelpkldlkpoioaa.ReadO Go.Proofs.Ytelpkldlkpoioaa.Cut

theorem deInfo : (Try.prog.info? 45).map (fun i => (i.zero, i.size, i.bytes)) = some (some (.agg #[.string { data := #[] }, .string { data := #[] }, .slice none 0 0, .int .i64 0]), 4, 64) := by kernel_rfl
theorem ruInfo : (Try.prog.info? 48).map (fun i => (i.zero, i.size, i.bytes)) = some (some (.agg #[.string { data := #[] }, .slice none 0 0, .slice none 0 0, .int .i64 0]), 4, 72) := by kernel_rfl
theorem six_of {t : List UInt8} (h : t ∈ wordsL) (h1 : t ≠ [112, 114, 101, 99]) : t ∈ six := by
  simp only [wordsL, List.mem_cons, List.not_mem_nil, or_false] at h
  simp only [six, List.mem_cons, List.not_mem_nil, or_false]
  rcases h with h | h | h | h | h | h | h
  all_goals simp_all
/-- what comes of a text, in parts: its declarations; what is behind these -/
theorem text_parts {T : List Tok} {o : Out Tx} (h : TextR T o) : ∃ od, DeclsR T 0 [] od ∧ ((∀ e p, od = .bad e p → o = .bad e p) ∧ ∀ ds k, od = .ok ds k →
    (isT T k 6 [37, 37] = false → o = .bad 102 (tok T k).at_) ∧ (isT T k 6 [37, 37] = true → ∃ or, RulesR T (k + 1) [] or ∧ (∀ e p, or = .bad e p → o = .bad e p) ∧ ∀ rs k1, or = .ok rs k1 → o = .ok ⟨ds, rs⟩ k1)) := by
  cases h with
  | decls h => exact ⟨_, h, fun e p he => (by cases he; rfl), fun ds k he => by cases he⟩
  | mid h h1 => exact ⟨_, h, fun e p he => (by cases he), fun ds k he => by cases he; exact ⟨fun _ => rfl, fun h2 => by rw [h1] at h2; cases h2⟩⟩
  | rules h h1 h2 => exact ⟨_, h, fun e p he => (by cases he), fun ds k he => by cases he; exact ⟨fun h3 => (by rw [h1] at h3; cases h3), fun _ => ⟨_, h2, fun e p he => (by cases he; rfl), fun _ _ he => by cases he⟩⟩⟩
  | whole h h1 h2 => exact ⟨_, h, fun e p he => (by cases he), fun ds k he => by cases he; exact ⟨fun h3 => (by rw [h1] at h3; cases h3), fun _ => ⟨_, h2, fun e p he => (by cases he), fun _ _ he => by cases he; rfl⟩⟩⟩

/-- a fault that is thrown while a text is read -/
theorem text_thrown {w w' : World} {b g c k x p : Nat} {T : List Tok} {ds : List De} {rs : List Ru} {tmps : Array Value} {w2 : World} (h : TxS w w' b g c T k ds rs) (hg : w'.grownBy w2 (some b))
    (h2 : tmps[2]?.getD undef = .pointer (some ⟨w.heap.size, 0, none⟩)) (h3 : tmps[3]?.getD undef = .pointer (some ⟨w.heap.size + 1, 0, none⟩)) :
    Leaves Try.prog Try.f14 tmps (TextQ w (.bad x p)) [{ target := .fn (.func 34) #[.pointer (some ⟨w.heap.size + 1, 0, none⟩), .pointer (some ⟨w.heap.size, 0, none⟩)], args := #[] }] (.panicking (thrownF (x : Int) (p : Int))) w2 := by
  obtain ⟨vd, vr, bd, br, hH, _⟩ := h.row
  have hb := h.hb
  have hs := h.below.size
  have hH2 := (hg.block _ (Array.getElem?_eq_some_iff.1 hH).1 (by simp; omega)).trans hH
  have hF2 := (hg.block _ (Array.getElem?_eq_some_iff.1 h.hf).1 (by simp; omega)).trans h.hf
  refine leaves_cons (f := 34) (args := #[.pointer (some ⟨w.heap.size + 1, 0, none⟩), .pointer (some ⟨w.heap.size, 0, none⟩)]) (by simp) (by simp [go_sem]) ?_
  refine (catch_thrown (B := w.heap.size) hF2 hH2 (by omega) (by omega) (Nat.le_refl _)).mono ?_
  rintro e u' w3 ⟨rfl, rfl, h4, h5, h6⟩
  refine ⟨_, res_text h4 h5 h2 h3, rfl, ?_⟩
  exact (h.below.grown hg hs (fun j hj => by have : b = j := Option.some.inj hj; omega)).trans h6
end Go.Proofs.Ytelpkldlkpoioaa.ReadP
