/- Grammars' texts as data in memory: words, alternatives, rules, declarations; their cells. No function of a program. -/
import Derived.Test.YtghebacphjglbaaGreatLexG
import Derived.Test.YtghebacphjglbaaGreatM1
import Derived.Test.YtghebacphjglbaaGreatReadPlain
import Derived.Test.YtghebacphjglbaaGreatM2
namespace Go.Proofs.YtghebacphjglbaaGreat.ReadA
open Go.RowKit Go.Proofs.YtghebacphjglbaaGreat.Lexy Go.Proofs.YtghebacphjglbaaGreat.LexA Go.Proofs.YtghebacphjglbaaGreat.LexB Go.Proofs.YtghebacphjglbaaGreat.LexC Go.Proofs.YtghebacphjglbaaGreat.LexD Go.Proofs.YtghebacphjglbaaGreat.LexE Go.Proofs.YtghebacphjglbaaGreat.LexF Go.Proofs.YtghebacphjglbaaGreat.LexG Go.Proofs.YtghebacphjglbaaGreat.Heap Go.Proofs.YtghebacphjglbaaGreat.Dat Go.Proofs.YtghebacphjglbaaGreat.Ready
theorem cells3 {w : World} {b : Nat} {u v x : Value} {t : TypeId} (h : w.heap[b]? = some (.cells #[u, v, x] t (0, 0))) :
    w.cell? ⟨b, 0, none⟩ = some u ∧ w.cell? ⟨b, 1, none⟩ = some v ∧ w.cell? ⟨b, 2, none⟩ = some x ∧ w.frozen? ⟨b, 0, none⟩ = false ∧ w.frozen? ⟨b, 1, none⟩ = false ∧ w.frozen? ⟨b, 2, none⟩ = false :=
  ⟨cell_of_row w b 0 #[u, v, x] t (0, 0) h, cell_of_row w b 1 #[u, v, x] t (0, 0) h, cell_of_row w b 2 #[u, v, x] t (0, 0) h, frozen_of_row w b 0 #[u, v, x] t h, frozen_of_row w b 1 #[u, v, x] t h, frozen_of_row w b 2 #[u, v, x] t h⟩
end Go.Proofs.YtghebacphjglbaaGreat.ReadA
namespace Go.Proofs.YtghebacphjglbaaGreat.ReadC
open Go.RowKit Go.Proofs.YtghebacphjglbaaGreat.Lexy Go.Proofs.YtghebacphjglbaaGreat.LexA Go.Proofs.YtghebacphjglbaaGreat.LexB Go.Proofs.YtghebacphjglbaaGreat.LexC Go.Proofs.YtghebacphjglbaaGreat.LexD Go.Proofs.YtghebacphjglbaaGreat.LexE Go.Proofs.YtghebacphjglbaaGreat.LexF Go.Proofs.YtghebacphjglbaaGreat.LexG Go.Proofs.YtghebacphjglbaaGreat.Heap Go.Proofs.YtghebacphjglbaaGreat.Dat Go.Proofs.YtghebacphjglbaaGreat.Ready Go.Proofs.YtghebacphjglbaaGreat.ReadA
mutual
/-- a word's cells -/
def wdD : Wd → List Dat
  | .mk n ws a => [.lit (.string (bs n)), .row 33 3 ws.length (wdsD ws), .lit (.int .i64 (a : Int))]
def wdsD : List Wd → List Dat
  | [] => []
  | x :: xs => wdD x ++ wdsD xs
end
theorem wdD_len (x : Wd) : (wdD x).length = 3 := by cases x; simp [wdD]
theorem wdsD_nil : wdsD [] = [] := by simp [wdsD]
theorem wdsD_cons (x : Wd) (xs : List Wd) : wdsD (x :: xs) = wdD x ++ wdsD xs := by simp [wdsD]
theorem wdsD_snoc (xs : List Wd) (x : Wd) : wdsD (xs ++ [x]) = wdsD xs ++ wdD x := by
  induction xs with
  | nil => simp [wdsD_cons, wdsD_nil]
  | cons y ys ih => rw [List.cons_append, wdsD_cons, wdsD_cons, ih, List.append_assoc]
end Go.Proofs.YtghebacphjglbaaGreat.ReadC
namespace Go.Proofs.YtghebacphjglbaaGreat.ReadH
open Go.RowKit Go.Proofs.YtghebacphjglbaaGreat.Lexy Go.Proofs.YtghebacphjglbaaGreat.LexA Go.Proofs.YtghebacphjglbaaGreat.LexB Go.Proofs.YtghebacphjglbaaGreat.LexC Go.Proofs.YtghebacphjglbaaGreat.LexD Go.Proofs.YtghebacphjglbaaGreat.LexE Go.Proofs.YtghebacphjglbaaGreat.LexF Go.Proofs.YtghebacphjglbaaGreat.LexG Go.Proofs.YtghebacphjglbaaGreat.Heap Go.Proofs.YtghebacphjglbaaGreat.Dat Go.Proofs.YtghebacphjglbaaGreat.Ready Go.Proofs.YtghebacphjglbaaGreat.ReadA Go.Proofs.YtghebacphjglbaaGreat.ReadC Go.Proofs.YtghebacphjglbaaGreat.Cut
theorem loose_then {K : Act → World → Prop} {Q : Exit → Act → World → Prop} {D : Option Tmp → Prop} (h : Loose D Q) : Loose D (Exit.then K Q) := fun c a d v w hd hq => h c a d v w hd hq
theorem loose_block {n : Nat} {Q : Exit → Act → World → Prop} {D : Option Tmp → Prop} (h : Loose D Q) : Loose D (Exit.inBlock n Q) := fun c a d v w hd hq => h c a d v w hd hq

/-- an alternative's cells -/
def alD (x : Al) : List Dat := [.row 33 3 x.words.length (wdsD x.words), .lit (.string (bs x.prec)), .lit (.bool x.has), .lit (.string (bs x.action)), .lit (.int .i64 (x.whr : Int)), .lit (.int .i64 (x.at_ : Int))]
theorem alD_len (x : Al) : (alD x).length = 6 := rfl
theorem cells6 {w : World} {b : Nat} {v0 v1 v2 v3 v4 v5 : Value} {t : TypeId} (h : w.heap[b]? = some (.cells #[v0, v1, v2, v3, v4, v5] t (0, 0))) :
    (w.cell? ⟨b, 0, none⟩ = some v0 ∧ w.cell? ⟨b, 1, none⟩ = some v1 ∧ w.cell? ⟨b, 2, none⟩ = some v2 ∧ w.cell? ⟨b, 3, none⟩ = some v3 ∧ w.cell? ⟨b, 4, none⟩ = some v4 ∧ w.cell? ⟨b, 5, none⟩ = some v5) ∧ (w.frozen? ⟨b, 0, none⟩ = false ∧ w.frozen? ⟨b, 1, none⟩ = false ∧ w.frozen? ⟨b, 2, none⟩ = false ∧ w.frozen? ⟨b, 3, none⟩ = false ∧ w.frozen? ⟨b, 4, none⟩ = false ∧ w.frozen? ⟨b, 5, none⟩ = false) :=
  ⟨⟨cell_of_row w b 0 _ t (0, 0) h, cell_of_row w b 1 _ t (0, 0) h, cell_of_row w b 2 _ t (0, 0) h, cell_of_row w b 3 _ t (0, 0) h, cell_of_row w b 4 _ t (0, 0) h, cell_of_row w b 5 _ t (0, 0) h⟩, frozen_of_row w b 0 _ t h, frozen_of_row w b 1 _ t h, frozen_of_row w b 2 _ t h, frozen_of_row w b 3 _ t h, frozen_of_row w b 4 _ t h, frozen_of_row w b 5 _ t h⟩
end Go.Proofs.YtghebacphjglbaaGreat.ReadH
namespace Go.Proofs.YtghebacphjglbaaGreat.ReadI
open Go.RowKit Go.Proofs.YtghebacphjglbaaGreat.Lexy Go.Proofs.YtghebacphjglbaaGreat.LexA Go.Proofs.YtghebacphjglbaaGreat.LexB Go.Proofs.YtghebacphjglbaaGreat.LexC Go.Proofs.YtghebacphjglbaaGreat.LexD Go.Proofs.YtghebacphjglbaaGreat.LexE Go.Proofs.YtghebacphjglbaaGreat.LexF Go.Proofs.YtghebacphjglbaaGreat.LexG Go.Proofs.YtghebacphjglbaaGreat.Heap Go.Proofs.YtghebacphjglbaaGreat.Dat Go.Proofs.YtghebacphjglbaaGreat.Ready Go.Proofs.YtghebacphjglbaaGreat.ReadA Go.Proofs.YtghebacphjglbaaGreat.ReadC Go.Proofs.YtghebacphjglbaaGreat.Cut Go.Proofs.YtghebacphjglbaaGreat.ReadH
/-- names' cells -/
def nmsD (l : List (List UInt8)) : List Dat := l.map fun x => .lit (.string (bs x))
theorem nmsD_len (l : List (List UInt8)) : (nmsD l).length = l.length := by simp [nmsD]
def alsD : List Al → List Dat
  | [] => []
  | x :: xs => alD x ++ alsD xs
theorem alsD_snoc (xs : List Al) (x : Al) : alsD (xs ++ [x]) = alsD xs ++ alD x := by
  induction xs with
  | nil => simp [alsD]
  | cons y ys ih => simp [alsD, ih]
/-- a rule's cells -/
def ruD (x : Ru) : List Dat := [.lit (.string (bs x.name)), .row 9 1 x.params.length (nmsD x.params), .row 35 6 x.alts.length (alsD x.alts), .lit (.int .i64 (x.at_ : Int))]
theorem strInfo : (Tryz.prog.info? 9).map (fun i => (i.zero, i.size, i.bytes)) = some (some (.string { data := #[] }), 1, 16) := by kernel_rfl
theorem stInfo : ∃ ti, Tryz.prog.info? 9 = some ti ∧ ti.zero = some (.string { data := #[] }) ∧ ti.size = 1 ∧ ti.bytes = 16 := by
  obtain ⟨ti0, hi0, hz0, hz1, hz2⟩ := info_parts strInfo
  exact ⟨ti0, hi0, hz0, hz1, hz2⟩
theorem cells4 {w : World} {b : Nat} {v0 v1 v2 v3 : Value} {t : TypeId} (h : w.heap[b]? = some (.cells #[v0, v1, v2, v3] t (0, 0))) :
    (w.cell? ⟨b, 0, none⟩ = some v0 ∧ w.cell? ⟨b, 1, none⟩ = some v1 ∧ w.cell? ⟨b, 2, none⟩ = some v2 ∧ w.cell? ⟨b, 3, none⟩ = some v3) ∧ (w.frozen? ⟨b, 0, none⟩ = false ∧ w.frozen? ⟨b, 1, none⟩ = false ∧ w.frozen? ⟨b, 2, none⟩ = false ∧ w.frozen? ⟨b, 3, none⟩ = false) :=
  ⟨⟨cell_of_row w b 0 _ t (0, 0) h, cell_of_row w b 1 _ t (0, 0) h, cell_of_row w b 2 _ t (0, 0) h, cell_of_row w b 3 _ t (0, 0) h⟩, frozen_of_row w b 0 _ t h, frozen_of_row w b 1 _ t h, frozen_of_row w b 2 _ t h, frozen_of_row w b 3 _ t h⟩
end Go.Proofs.YtghebacphjglbaaGreat.ReadI
namespace Go.Proofs.YtghebacphjglbaaGreat.ReadM
open Go.RowKit Go.Proofs.YtghebacphjglbaaGreat.Lexy Go.Proofs.YtghebacphjglbaaGreat.LexA Go.Proofs.YtghebacphjglbaaGreat.LexB Go.Proofs.YtghebacphjglbaaGreat.LexC Go.Proofs.YtghebacphjglbaaGreat.LexD Go.Proofs.YtghebacphjglbaaGreat.LexE Go.Proofs.YtghebacphjglbaaGreat.LexF Go.Proofs.YtghebacphjglbaaGreat.LexG Go.Proofs.YtghebacphjglbaaGreat.Heap Go.Proofs.YtghebacphjglbaaGreat.Dat Go.Proofs.YtghebacphjglbaaGreat.Ready Go.Proofs.YtghebacphjglbaaGreat.ReadA Go.Proofs.YtghebacphjglbaaGreat.ReadC Go.Proofs.YtghebacphjglbaaGreat.Cut Go.Proofs.YtghebacphjglbaaGreat.ReadH Go.Proofs.YtghebacphjglbaaGreat.ReadI
/-- a declaration's cells -/
def deD (x : De) : List Dat := [.lit (.string (bs x.kind)), .lit (.string (bs x.type)), .row 9 1 x.names.length (nmsD x.names), .lit (.int .i64 (x.at_ : Int))]
end Go.Proofs.YtghebacphjglbaaGreat.ReadM
namespace Go.Proofs.YtghebacphjglbaaGreat.ReadO
open Go.RowKit Go.Proofs.YtghebacphjglbaaGreat.Lexy Go.Proofs.YtghebacphjglbaaGreat.LexA Go.Proofs.YtghebacphjglbaaGreat.LexB Go.Proofs.YtghebacphjglbaaGreat.LexC Go.Proofs.YtghebacphjglbaaGreat.LexD Go.Proofs.YtghebacphjglbaaGreat.LexE Go.Proofs.YtghebacphjglbaaGreat.LexF Go.Proofs.YtghebacphjglbaaGreat.LexG Go.Proofs.YtghebacphjglbaaGreat.Heap Go.Proofs.YtghebacphjglbaaGreat.Dat Go.Proofs.YtghebacphjglbaaGreat.Ready Go.Proofs.YtghebacphjglbaaGreat.ReadA Go.Proofs.YtghebacphjglbaaGreat.ReadC Go.Proofs.YtghebacphjglbaaGreat.Cut Go.Proofs.YtghebacphjglbaaGreat.ReadH Go.Proofs.YtghebacphjglbaaGreat.ReadI Go.Proofs.YtghebacphjglbaaGreat.ReadM
/-- declarations', rules' cells -/
def desD : List De → List Dat
  | [] => []
  | x :: xs => deD x ++ desD xs
def rusD : List Ru → List Dat
  | [] => []
  | x :: xs => ruD x ++ rusD xs
theorem desD_snoc (xs : List De) (x : De) : desD (xs ++ [x]) = desD xs ++ deD x := by
  induction xs with
  | nil => simp [desD]
  | cons y ys ih => simp [desD, ih]
theorem rusD_snoc (xs : List Ru) (x : Ru) : rusD (xs ++ [x]) = rusD xs ++ ruD x := by
  induction xs with
  | nil => simp [rusD]
  | cons y ys ih => simp [rusD, ih]
theorem deD_len (x : De) : (deD x).length = 4 := rfl
theorem ruD_len (x : Ru) : (ruD x).length = 4 := rfl
/-- a text's cells -/
def txD (x : Tx) : List Dat := [.row 62 4 x.decls.length (desD x.decls), .row 38 4 x.rules.length (rusD x.rules)]
end Go.Proofs.YtghebacphjglbaaGreat.ReadO
namespace Go.Proofs.YtghebacphjglbaaGreat.Same
open Go.RowKit Go.Proofs.YtghebacphjglbaaGreat.Lexy Go.Proofs.YtghebacphjglbaaGreat.LexA Go.Proofs.YtghebacphjglbaaGreat.LexB Go.Proofs.YtghebacphjglbaaGreat.LexC Go.Proofs.YtghebacphjglbaaGreat.LexD Go.Proofs.YtghebacphjglbaaGreat.LexE Go.Proofs.YtghebacphjglbaaGreat.LexF Go.Proofs.YtghebacphjglbaaGreat.LexG Go.Proofs.YtghebacphjglbaaGreat.Heap Go.Proofs.YtghebacphjglbaaGreat.Dat Go.Proofs.YtghebacphjglbaaGreat.Ready Go.Proofs.YtghebacphjglbaaGreat.ReadA Go.Proofs.YtghebacphjglbaaGreat.ReadC Go.Proofs.YtghebacphjglbaaGreat.Cut Go.Proofs.YtghebacphjglbaaGreat.ReadH Go.Proofs.YtghebacphjglbaaGreat.ReadI Go.Proofs.YtghebacphjglbaaGreat.ReadM Go.Proofs.YtghebacphjglbaaGreat.ReadO
theorem flat_get {X : Type} (D : X → List Dat) (S : Nat) (hS : ∀ x, (D x).length = S) : ∀ (xs : List X) (k j : Nat) (hk : k < xs.length), j < S → (xs.flatMap D)[k * S + j]? = (D (xs[k]))[j]?
  | [], k, j, hk, _ => by simp at hk
  | x :: xs, 0, j, hk, hj => by
    simp only [List.flatMap_cons, Nat.zero_mul, Nat.zero_add, List.getElem_cons_zero]
    rw [List.getElem?_append_left (by rw [hS]; exact hj)]
  | x :: xs, k + 1, j, hk, hj => by
    simp only [List.flatMap_cons, List.getElem_cons_succ]
    rw [List.getElem?_append_right (by rw [hS, Nat.succ_mul]; omega), hS, show (k + 1) * S + j - S = k * S + j by rw [Nat.succ_mul]; omega]
    exact flat_get D S hS xs k j (by simpa using hk) hj
theorem wdsD_flat : ∀ ws : List Wd, wdsD ws = ws.flatMap wdD
  | [] => by simp [wdsD]
  | x :: xs => by rw [wdsD_cons, wdsD_flat xs]; rfl
theorem alsD_flat : ∀ ws : List Al, alsD ws = ws.flatMap alD
  | [] => rfl
  | x :: xs => by rw [alsD, alsD_flat xs]; rfl
theorem desD_flat : ∀ ws : List De, desD ws = ws.flatMap deD
  | [] => rfl
  | x :: xs => by rw [desD, desD_flat xs]; rfl
theorem rusD_flat : ∀ ws : List Ru, rusD ws = ws.flatMap ruD
  | [] => rfl
  | x :: xs => by rw [rusD, rusD_flat xs]; rfl
theorem Reads.slice {w : World} {E : TypeId} {S n : Nat} {items : List Dat} {v : Value} (h : Reads w (.row E S n items) v) : ∃ a c, v = .slice a n c := by
  obtain ⟨_, _, a, c, h, _⟩ := Reads.row_iff.1 h; exact ⟨a, c, h⟩
theorem Reads.elems {w : World} {E : TypeId} {S n c : Nat} {items : List Dat} {a : Option Addr} (h : Reads w (.row E S n items) (.slice a n c)) (hn : 0 < n) : ∃ b o, a = some ⟨b, o, none⟩ ∧ ReadsL w b o items := by
  obtain ⟨_, _, a', c', h, h'⟩ := Reads.row_iff.1 h
  cases h
  rcases h' with h' | h' | ⟨_, _, h'⟩
  · omega
  · exact h'
  · omega
theorem Reads.len {w : World} {E : TypeId} {S n : Nat} {items : List Dat} {v : Value} (h : Reads w (.row E S n items) v) : n ≤ 9223372036854775807 := by
  have := (Reads.row_iff.1 h).2.1; unfold maxLen at this; exact this
theorem ext_reads {W : World} {d : Dat} {v : Value} (h : Reads W d v) (x : Ext (Below W.heap.size W)) : Reads x.w d v := Reads.below x.i h
theorem lit_cell {w : World} {b o k : Nat} {ds : List Dat} {u : Value} (h : ReadsL w b o ds) (hk : ds[k]? = some (.lit u)) : w.cell? ⟨b, o + k, none⟩ = some u := by
  obtain ⟨v, hv, hr⟩ := h.get hk
  rw [Reads.lit_iff] at hr; rw [hv, hr]
theorem row_cell {w : World} {b o k : Nat} {ds : List Dat} {E : TypeId} {S n : Nat} {items : List Dat} (h : ReadsL w b o ds) (hk : ds[k]? = some (.row E S n items)) : ∃ a c, w.cell? ⟨b, o + k, none⟩ = some (.slice a n c) ∧ Reads w (.row E S n items) (.slice a n c) := by
  obtain ⟨v, hv, hr⟩ := h.get hk
  obtain ⟨a, c, rfl⟩ := Reads.slice hr
  exact ⟨a, c, hv, hr⟩
/-- a text of a row of texts -/
theorem name_cell {w : World} {b o : Nat} {l : List (List UInt8)} (h : ReadsL w b o (nmsD l)) {k : Nat} (hk : k < l.length) : w.cell? ⟨b, o + k, none⟩ = some (.string (bs (l[k]))) := lit_cell h (by simp [nmsD, hk])
/-- a word of a row of words -/
theorem word_cells {w : World} {b o : Nat} {l : List Wd} (h : ReadsL w b o (wdsD l)) {k : Nat} (hk : k < l.length) {n : List UInt8} {ws : List Wd} {p : Int} (hx : l[k] = .mk n ws p) :
    ∃ a c, w.cell? ⟨b, o + k * 3, none⟩ = some (.string (bs n)) ∧ w.cell? ⟨b, o + k * 3 + 1, none⟩ = some (.slice a ws.length c) ∧ w.cell? ⟨b, o + k * 3 + 2, none⟩ = some (.int .i64 (p : Int)) ∧ Reads w (.row 33 3 ws.length (wdsD ws)) (.slice a ws.length c) := by
  rw [wdsD_flat] at h
  have e : ∀ j, j < 3 → (l.flatMap wdD)[k * 3 + j]? = (wdD (.mk n ws p))[j]? := fun j hj => by rw [flat_get wdD 3 wdD_len l k j hk hj, hx]
  have e0 := lit_cell h (e 0 (by omega))
  obtain ⟨a, c, e1, hr⟩ := row_cell h (e 1 (by omega))
  have e2 := lit_cell h (e 2 (by omega))
  exact ⟨a, c, e0, e1, e2, hr⟩
theorem alt_cells {w : World} {b o : Nat} {l : List Al} (h : ReadsL w b o (alsD l)) {k : Nat} (hk : k < l.length) :
    ∃ a0 c0, w.cell? ⟨b, o + k * 6, none⟩ = some (.slice a0 (l[k]).words.length c0) ∧ w.cell? ⟨b, o + k * 6 + 1, none⟩ = some (.string (bs (l[k]).prec)) ∧ w.cell? ⟨b, o + k * 6 + 2, none⟩ = some (.bool (l[k]).has) ∧ w.cell? ⟨b, o + k * 6 + 3, none⟩ = some (.string (bs (l[k]).action)) ∧ w.cell? ⟨b, o + k * 6 + 4, none⟩ = some (.int .i64 ((l[k]).whr : Int)) ∧ w.cell? ⟨b, o + k * 6 + 5, none⟩ = some (.int .i64 ((l[k]).at_ : Int)) ∧ Reads w (.row 33 3 (l[k]).words.length (wdsD (l[k]).words)) (.slice a0 (l[k]).words.length c0) := by
  rw [alsD_flat] at h
  have e : ∀ j, j < 6 → (l.flatMap alD)[k * 6 + j]? = (alD (l[k]))[j]? := fun j hj => flat_get alD 6 alD_len l k j hk hj
  obtain ⟨a0, c0, e0, m0⟩ := row_cell h (e 0 (by omega))
  have e1 := lit_cell h (e 1 (by omega))
  have e2 := lit_cell h (e 2 (by omega))
  have e3 := lit_cell h (e 3 (by omega))
  have e4 := lit_cell h (e 4 (by omega))
  have e5 := lit_cell h (e 5 (by omega))
  exact ⟨a0, c0, e0, e1, e2, e3, e4, e5, m0⟩
theorem rule_cells {w : World} {b o : Nat} {l : List Ru} (h : ReadsL w b o (rusD l)) {k : Nat} (hk : k < l.length) :
    ∃ a1 c1 a2 c2, w.cell? ⟨b, o + k * 4, none⟩ = some (.string (bs (l[k]).name)) ∧ w.cell? ⟨b, o + k * 4 + 1, none⟩ = some (.slice a1 (l[k]).params.length c1) ∧ w.cell? ⟨b, o + k * 4 + 2, none⟩ = some (.slice a2 (l[k]).alts.length c2) ∧ w.cell? ⟨b, o + k * 4 + 3, none⟩ = some (.int .i64 ((l[k]).at_ : Int)) ∧ Reads w (.row 9 1 (l[k]).params.length (nmsD (l[k]).params)) (.slice a1 (l[k]).params.length c1) ∧ Reads w (.row 35 6 (l[k]).alts.length (alsD (l[k]).alts)) (.slice a2 (l[k]).alts.length c2) := by
  rw [rusD_flat] at h
  have e : ∀ j, j < 4 → (l.flatMap ruD)[k * 4 + j]? = (ruD (l[k]))[j]? := fun j hj => flat_get ruD 4 ruD_len l k j hk hj
  have e0 := lit_cell h (e 0 (by omega))
  obtain ⟨a1, c1, e1, m1⟩ := row_cell h (e 1 (by omega))
  obtain ⟨a2, c2, e2, m2⟩ := row_cell h (e 2 (by omega))
  have e3 := lit_cell h (e 3 (by omega))
  exact ⟨a1, c1, a2, c2, e0, e1, e2, e3, m1, m2⟩
theorem decl_cells {w : World} {b o : Nat} {l : List De} (h : ReadsL w b o (desD l)) {k : Nat} (hk : k < l.length) :
    ∃ a2 c2, w.cell? ⟨b, o + k * 4, none⟩ = some (.string (bs (l[k]).kind)) ∧ w.cell? ⟨b, o + k * 4 + 1, none⟩ = some (.string (bs (l[k]).type)) ∧ w.cell? ⟨b, o + k * 4 + 2, none⟩ = some (.slice a2 (l[k]).names.length c2) ∧ w.cell? ⟨b, o + k * 4 + 3, none⟩ = some (.int .i64 ((l[k]).at_ : Int)) ∧ Reads w (.row 9 1 (l[k]).names.length (nmsD (l[k]).names)) (.slice a2 (l[k]).names.length c2) := by
  rw [desD_flat] at h
  have e : ∀ j, j < 4 → (l.flatMap deD)[k * 4 + j]? = (deD (l[k]))[j]? := fun j hj => flat_get deD 4 deD_len l k j hk hj
  have e0 := lit_cell h (e 0 (by omega))
  have e1 := lit_cell h (e 1 (by omega))
  obtain ⟨a2, c2, e2, m2⟩ := row_cell h (e 2 (by omega))
  have e3 := lit_cell h (e 3 (by omega))
  exact ⟨a2, c2, e0, e1, e2, e3, m2⟩
end Go.Proofs.YtghebacphjglbaaGreat.Same
