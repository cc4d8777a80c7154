/- Trees of programs: which are right. No program in sight. -/
namespace Go.Proofs.Ytkjpdhnibfhaaaa.Nodey

/-- a node: its kind, a text, two numbers, what is below -/
inductive Nd
  | mk (kind : Nat) (text : ByteArray) (num at_ : Int) (kids : List Nd)
def Nd.kind : Nd → Nat | .mk k .. => k
def Nd.text : Nd → ByteArray | .mk _ t .. => t
def Nd.num : Nd → Int | .mk _ _ n .. => n
def Nd.at_ : Nd → Int | .mk _ _ _ a _ => a
def Nd.kids : Nd → List Nd | .mk _ _ _ _ l => l

def letterB (c : UInt8) : Bool := (97 ≤ c && c ≤ 122) || (65 ≤ c && c ≤ 90) || c == 95
def digitB (c : UInt8) : Bool := 48 ≤ c && c ≤ 57
/-- letters, and digits behind the first -/
def wordB : List UInt8 → Bool
  | [] => true
  | c :: l => letterB c && l.all fun x => letterB x || digitB x
def reservedL : List (List UInt8) := [[98, 114, 101, 97, 107], [99, 97, 115, 101], [99, 104, 97, 110], [99, 111, 110, 115, 116], [99, 111, 110, 116, 105, 110, 117, 101], [100, 101, 102, 97, 117, 108, 116], [100, 101, 102, 101, 114], [101, 108, 115, 101], [102, 97, 108, 108, 116, 104, 114, 111, 117, 103, 104], [102, 97, 108, 115, 101], [102, 111, 114], [102, 117, 110, 99], [103, 111], [103, 111, 116, 111], [105, 102], [105, 109, 112, 111, 114, 116], [105, 110, 116, 101, 114, 102, 97, 99, 101], [109, 97, 112], [112, 97, 99, 107, 97, 103, 101], [114, 97, 110, 103, 101], [114, 101, 116, 117, 114, 110], [115, 101, 108, 101, 99, 116], [115, 116, 114, 117, 99, 116], [115, 119, 105, 116, 99, 104], [116, 114, 117, 101], [116, 121, 112, 101], [118, 97, 114]]
def opsL : List (List UInt8) := [[124, 124], [38, 38], [61, 61], [33, 61], [60], [60, 61], [62], [62, 61], [43], [45], [42], [47], [37]]
def nameB (s : List UInt8) : Bool := wordB s && s != [] && s != [95] && decide (s.length ≤ 40) && !reservedL.contains s
def rowB (s : List UInt8) : Bool := s.all digitB && s != []
def wholeB (s : List UInt8) : Bool := rowB s && decide (s.length ≤ 40) && (s == [48] || s.head? != some 48)
/-- around the first point -/
def cutB : List UInt8 → List UInt8 × List UInt8 × Bool
  | [] => ([], [], false)
  | c :: l => if c = 46 then ([], l, true) else let r := cutB l; (c :: r.1, r.2.1, r.2.2)
def pointB (s : List UInt8) : Bool := match cutB s with
  | (a, b, is) => is && wholeB a && rowB b && decide (a.length + b.length ≤ 40)
def typedK (k : Nat) : Bool := k == 7 || k == 8
def statedK (k : Nat) : Bool := 9 ≤ k && k ≤ 20 && k != 16
def saidK (k : Nat) : Bool := 21 ≤ k && k ≤ 35 && k != 34
def placeN : Nd → Bool
  | .mk k _ _ _ kids => if k = 25 ∨ k = 35 then true else if k = 29 ∨ k = 31 then (match kids with | [] => false | x :: _ => placeN x) else false
/-- what a node is on its own, without what is below but its kids' kinds -/
def shapeB (d : Bool) (x : Nd) : Bool :=
  let t := x.text.data.toList
  let l := x.kids.map Nd.kind
  let named := nameB t && x.num == 0
  let bare := t == [] && x.num == 0
  let label := (t == [] || nameB t) && x.num == 0
  let sides := t == [] && decide (1 ≤ x.num) && decide (x.num < l.length) &&
    (if x.kind = 11 then (l.take x.num.toNat).all (· == 25) else (x.kids.take x.num.toNat).all placeN) &&
    (if (l.length : Int) - x.num = 1 ∧ 1 < x.num then (l.drop x.num.toNat).all (· == 28)
     else if (l.length : Int) - x.num = 1 ∨ (l.length : Int) - x.num = x.num ∧ x.kind = 12 then (l.drop x.num.toNat).all saidK else false)
  match x.kind with
  | 1 => named && l.all fun k => k == 2 || k == 4
  | 2 => named && l.all (· == 3)
  | 3 => named && decide (l.length = 1) && l.all typedK
  | 4 => named && l == [5, 6, 9]
  | 5 => bare && l.all (· == 3)
  | 6 => bare && l.all typedK
  | 7 => named && l == []
  | 8 => bare && decide (l.length = 1) && l.all typedK
  | 9 => bare && l.all statedK
  | 10 => named && (decide (l.length = 1) || decide (l.length = 2)) && (l.take 1).all typedK && (l.drop 1).all saidK
  | 11 => sides
  | 12 => sides
  | 13 => bare && (decide (l.length = 2) || decide (l.length = 3)) && (l.take 1).all saidK && ((l.drop 1).take 1).all (· == 9) && (l.drop 2).all fun k => k == 9 || k == 13
  | 14 => label && (decide (l.length = 1) || decide (l.length = 2)) && (l.take (l.length - 1)).all saidK && (l.drop (l.length - 1)).all (· == 9)
  | 15 => bare && decide (1 ≤ l.length) && (l.take 1).all saidK && (l.drop 1).all (· == 16)
  | 16 => bare && decide (1 ≤ l.length) && (l.take (l.length - 1)).all saidK && (l.drop (l.length - 1)).all (· == 9)
  | 17 => bare && l.all saidK
  | 18 => label && l == []
  | 19 => label && l == []
  | 20 => bare && decide (l.length = 1) && l.all (· == 28)
  | 21 => wholeB t && x.num == 0 && l == []
  | 22 => pointB t && x.num == 0 && l == []
  | 23 => x.num == 0 && l == []
  | 24 => t == [] && (x.num == 0 || x.num == 1) && l == []
  | 25 => named && l == []
  | 26 => (t == [45] || t == [33]) && x.num == 0 && decide (l.length = 1) && l.all saidK
  | 27 => opsL.contains t && x.num == 0 && decide (l.length = 2) && l.all saidK
  | 28 => named && l.all saidK
  | 29 => bare && decide (l.length = 2) && l.all saidK
  | 30 => bare && decide (l.length = 2) && l.all saidK
  | 31 => named && decide (l.length = 1) && l.all saidK
  | 32 => bare && decide (1 ≤ l.length) && (l.take 1).all (· == 8) && (l.drop 1).all saidK
  | 33 => named && l.all (· == 34)
  | 34 => named && decide (l.length = 1) && l.all saidK
  | 35 => d && t == [] && decide (0 ≤ x.num) && decide (x.num ≤ 99) && l == []
  | _ => false
mutual
def sizeN : Nd → Nat
  | .mk _ _ _ _ kids => 1 + sizeL kids
def sizeL : List Nd → Nat
  | [] => 0
  | x :: l => sizeN x + sizeL l
end
mutual
def deepN : Nd → Nat
  | .mk _ _ _ _ kids => 1 + deepL kids
def deepL : List Nd → Nat
  | [] => 0
  | x :: l => max (deepN x) (deepL l)
end
mutual
/-- each node is as its kind has it -/
def wellN (d : Bool) : Nd → Bool
  | .mk k t n a kids => shapeB d (.mk k t n a kids) && decide (0 ≤ a) && wellL d kids
def wellL (d : Bool) : List Nd → Bool
  | [] => true
  | x :: l => wellN d x && wellL d l
end
/-- a tree is a file's, or an action's -/
def rightN (x : Nd) : Bool := (x.kind == 1 || x.kind == 9) && wellN (x.kind == 9) x && decide (deepN x ≤ 60) && decide (sizeN x ≤ 32768)
mutual
def sameN : Nd → Nd → Bool
  | .mk k t n _ l, .mk k' t' n' _ l' => k == k' && t.data.toList == t'.data.toList && n == n' && sameL l l'
def sameL : List Nd → List Nd → Bool
  | [], [] => true
  | x :: l, y :: l' => sameN x y && sameL l l'
  | _, _ => false
end
mutual
def bareN : Nd → Nd
  | .mk k t n _ l => .mk k t n 0 (bareL l)
def bareL : List Nd → List Nd
  | [] => []
  | x :: l => bareN x :: bareL l
end
mutual
/-- in the order of the program: how many more there may be -/
def goN (d : Bool) (deep : Nat) (left : Int) : Nd → Option Int
  | .mk k t n a kids => if deep ≤ 60 ∧ 0 ≤ left - 1 ∧ 0 ≤ a ∧ shapeB d (.mk k t n a kids) = true then goL d (deep + 1) (left - 1) kids else none
def goL (d : Bool) (deep : Nat) (left : Int) : List Nd → Option Int
  | [] => some left
  | x :: l => match goN d deep left x with
    | none => none
    | some left' => goL d deep left' l
end
mutual
theorem goN_eq (d : Bool) : ∀ (x : Nd) (deep : Nat) (left : Int), goN d deep left x = if wellN d x = true ∧ deep + deepN x ≤ 61 ∧ (sizeN x : Int) ≤ left then some (left - sizeN x) else none
  | .mk k t n a kids, deep, left => by
    rw [goN]
    by_cases h : deep ≤ 60 ∧ 0 ≤ left - 1 ∧ 0 ≤ a ∧ shapeB d (.mk k t n a kids) = true
    · rw [if_pos h, goL_eq d kids (deep + 1) (left - 1) (by omega) h.2.1]
      by_cases h2 : wellL d kids = true ∧ deep + 1 + deepL kids ≤ 61 ∧ (sizeL kids : Int) ≤ left - 1
      · rw [if_pos h2, if_pos ⟨by simp [wellN, h.2.2.2, h.2.2.1, h2.1], by simp only [deepN]; omega, by simp only [sizeN]; omega⟩]
        simp only [sizeN]
        congr 1; omega
      · rw [if_neg h2, if_neg fun h3 => h2 ⟨by have := h3.1; simp [wellN] at this; exact this.2, by have := h3.2.1; simp only [deepN] at this; omega, by have := h3.2.2; simp only [sizeN] at this; omega⟩]
    · rw [if_neg h, if_neg fun h3 => h ⟨by have := h3.2.1; simp only [deepN] at this; omega, by have := h3.2.2; simp only [sizeN] at this; omega, by have := h3.1; simp [wellN] at this; exact this.1.2, by have := h3.1; simp [wellN] at this; exact this.1.1⟩]
theorem goL_eq (d : Bool) : ∀ (l : List Nd) (deep : Nat) (left : Int), deep ≤ 61 → 0 ≤ left → goL d deep left l = if wellL d l = true ∧ deep + deepL l ≤ 61 ∧ (sizeL l : Int) ≤ left then some (left - sizeL l) else none
  | [], deep, left, hd, hl => by
    rw [goL, if_pos ⟨rfl, by simpa [deepL] using hd, by simpa [sizeL] using hl⟩]
    simp [sizeL]
  | x :: l, deep, left, hd, hl => by
    rw [goL, goN_eq d x deep left]
    by_cases h : wellN d x = true ∧ deep + deepN x ≤ 61 ∧ (sizeN x : Int) ≤ left
    · rw [if_pos h]
      show goL d deep (left - sizeN x) l = _
      rw [goL_eq d l deep _ hd (by omega)]
      by_cases h2 : wellL d l = true ∧ deep + deepL l ≤ 61 ∧ (sizeL l : Int) ≤ left - sizeN x
      · rw [if_pos h2, if_pos ⟨by simp [wellL, h.1, h2.1], by simp only [deepL]; omega, by simp only [sizeL]; omega⟩]
        simp only [sizeL]
        congr 1; omega
      · rw [if_neg h2, if_neg fun h3 => h2 ⟨by have := h3.1; simp [wellL] at this; exact this.2, by have := h3.2.1; simp only [deepL] at this; omega, by have := h3.2.2; simp only [sizeL] at this; omega⟩]
    · rw [if_neg h]
      rw [if_neg fun h3 => h ⟨by have := h3.1; simp [wellL] at this; exact this.1, by have := h3.2.1; simp only [deepL] at this; omega, by have := h3.2.2; simp only [sizeL] at this; omega⟩]
end
theorem wordB_iff (l : List UInt8) : wordB l = true ↔ ∀ k (h : k < l.length), (letterB l[k] || (decide (k ≠ 0) && digitB l[k])) = true := by
  cases l with
  | nil => exact ⟨fun _ k h => absurd h (by simp), fun _ => rfl⟩
  | cons c l =>
    simp only [wordB, Bool.and_eq_true, List.all_eq_true]
    constructor
    · rintro ⟨h1, h2⟩ k hk
      cases k with
      | zero => simp [h1]
      | succ k =>
        have := h2 (l[k]'(by simpa using hk)) (List.getElem_mem _)
        simpa using this
    · intro h
      refine ⟨?_, fun x hx => ?_⟩
      · have := h 0 (by simp)
        simp only [List.getElem_cons_zero] at this
        simpa using this
      · obtain ⟨k, hk, rfl⟩ := List.getElem_of_mem hx
        have := h (k + 1) (by simpa using hk)
        simp only [List.getElem_cons_succ] at this
        simpa using this
end Go.Proofs.Ytkjpdhnibfhaaaa.Nodey
