/- What the scanner answers, in plain words: lists of bytes, no program in sight. -/
import Derived.Test.YtopbhopblpfjpaaGreatDoorLexPlain
namespace Go.Proofs.YtopbhopblpfjpaaGreatDoor.Scany
open Go.Proofs.YtopbhopblpfjpaaGreatDoor.Lexy

def wordsS : List (List UInt8) := [[98, 114, 101, 97, 107], [99, 97, 115, 101], [99, 111, 110, 116, 105, 110, 117, 101], [100, 101, 102, 97, 117, 108, 116], [101, 108, 115, 101], [102, 111, 114], [102, 117, 110, 99], [105, 102], [112, 97, 99, 107, 97, 103, 101], [114, 101, 116, 117, 114, 110], [115, 116, 114, 117, 99, 116], [115, 119, 105, 116, 99, 104], [116, 121, 112, 101], [118, 97, 114], [116, 114, 117, 101], [102, 97, 108, 115, 101]]
def foreignS : List (List UInt8) := [[99, 104, 97, 110], [99, 111, 110, 115, 116], [100, 101, 102, 101, 114], [102, 97, 108, 108, 116, 104, 114, 111, 117, 103, 104], [103, 111], [103, 111, 116, 111], [105, 109, 112, 111, 114, 116], [105, 110, 116, 101, 114, 102, 97, 99, 101], [109, 97, 112], [114, 97, 110, 103, 101], [115, 101, 108, 101, 99, 116]]
def signsS : List (List UInt8) := [[58, 61], [61, 61], [33, 61], [60, 61], [62, 61], [38, 38], [124, 124], [123], [125], [40], [41], [91], [93], [44], [59], [58], [46], [61], [60], [62], [43], [45], [42], [47], [37], [33]]
def oddS : List (List UInt8) := [[46, 46, 46], [43, 43], [45, 45], [43, 61], [45, 61], [42, 61], [47, 61], [37, 61], [60, 60], [62, 62], [60, 45], [47, 42]]

/-- how many digits stand ahead -/
def digL : List UInt8 → Nat
  | [] => 0
  | c :: r => if digN c.toNat then digL r + 1 else 0
/-- what a digit in base 16 says; 16: it is none -/
def hexN (n : Nat) : Nat := if 48 ≤ n ∧ n ≤ 57 then n - 48 else if 97 ≤ n ∧ n ≤ 102 then n - 87 else if 65 ≤ n ∧ n ≤ 70 then n - 55 else 16
/-- what stands behind a backslash says, and how many bytes it takes -/
def pairL : List UInt8 → Option (UInt8 × Nat)
  | [] => none
  | c :: r =>
    if c.toNat = 110 then some (10, 1)
    else if c.toNat = 116 then some (9, 1)
    else if c.toNat = 114 then some (13, 1)
    else if c.toNat = 92 then some (92, 1)
    else if c.toNat = 34 then some (34, 1)
    else if c.toNat = 120 ∧ hexN (r.headD 0).toNat < 16 ∧ hexN ((r.drop 1).headD 0).toNat < 16 then some (UInt8.ofNat (16 * hexN (r.headD 0).toNat + hexN ((r.drop 1).headD 0).toNat), 3)
    else none
/-- behind an opening quote, so many bytes gone over already: what the string says, and how many bytes up to and with the closing one -/
def strL : List UInt8 → Nat → Option (List UInt8 × Nat)
  | [], _ => none
  | _ :: r, k + 1 => (strL r k).map fun x => (x.1, x.2 + 1)
  | c :: r, 0 =>
    if c.toNat = 34 then some ([], 1)
    else if c.toNat < 32 ∨ 126 < c.toNat then none
    else if c.toNat = 92 then
      match pairL r with
      | none => none
      | some (b, n) => (strL r n).map fun x => (b :: x.1, x.2 + 1)
    else (strL r 0).map fun x => (c :: x.1, x.2 + 1)
/-- is a point there, and a digit behind it? -/
def pointL (l : List UInt8) : Bool := decide ((l.headD 0).toNat = 46) && digN ((l.drop 1).headD 0).toNat
/-- how many bytes a number takes, and how many digits it has -/
def numLen (l : List UInt8) : Nat := if pointL (l.drop (digL l)) then digL l + 1 + digL (l.drop (digL l + 1)) else digL l
def numCnt (l : List UInt8) : Nat := if pointL (l.drop (digL l)) then digL l + digL (l.drop (digL l + 1)) else digL l
def numBad (l : List UInt8) : Bool :=
  (decide (1 < digL l) && decide ((l.headD 0).toNat = 48)) || decide (40 < numCnt l) || decide (((l.drop (numLen l)).headD 0).toNat = 46) || letN ((l.drop (numLen l)).headD 0).toNat
/-- behind a dollar: the text, and how many bytes with it -/
def dolL (r : List UInt8) : Option (List UInt8 × Nat) :=
  if (r.headD 0).toNat = 36 then some ([36], 2)
  else if digL r = 0 ∨ 2 < digL r ∨ (r.headD 0).toNat = 48 ∨ letN ((r.drop (digL r)).headD 0).toNat = true then none
  else some (r.take (digL r), digL r + 1)
/-- the first of some texts that stands there -/
def firstL (L : List (List UInt8)) (l : List UInt8) : List UInt8 := (L.find? fun p => p.isPrefixOf l).getD []

/-- the token that begins here -/
def tokS : List UInt8 → One
  | [] => .bad 100
  | c :: r =>
    if letN c.toNat then
      (if (c :: r).take (runL (c :: r)) ∈ wordsS then .good 1 ((c :: r).take (runL (c :: r))) (runL (c :: r))
       else if (c :: r).take (runL (c :: r)) = [95] ∨ 40 < runL (c :: r) ∨ (c :: r).take (runL (c :: r)) ∈ foreignS then .bad 101
       else .good 2 ((c :: r).take (runL (c :: r))) (runL (c :: r)))
    else if digN c.toNat then
      (if numBad (c :: r) then .bad 101 else .good (if pointL ((c :: r).drop (digL (c :: r))) then 4 else 3) ((c :: r).take (numLen (c :: r))) (numLen (c :: r)))
    else if c.toNat = 34 then
      match strL r 0 with
      | none => .bad 101
      | some (t, n) => .good 5 t (n + 1)
    else if c.toNat = 36 then
      match dolL r with
      | none => .bad 101
      | some (t, n) => .good 8 t n
    else if firstL oddS (c :: r) ≠ [] then .bad 101
    else if firstL signsS (c :: r) = [] then .bad 100
    else .good 6 (firstL signsS (c :: r)) (firstL signsS (c :: r)).length

/-- may a line end with this one, the last one? -/
def endsS : Option Tok → Bool
  | none => false
  | some t =>
    if t.kind = 1 then decide (t.text ∈ [[98, 114, 101, 97, 107], [99, 111, 110, 116, 105, 110, 117, 101], [114, 101, 116, 117, 114, 110], [116, 114, 117, 101], [102, 97, 108, 115, 101]])
    else if t.kind = 6 then decide (t.text ∈ [[41], [93], [125]])
    else true
/-- the tokens of what is left, so many bytes of it gone over already, from a place on, behind a last one -/
def scanA : List UInt8 → Nat → Nat → Option Tok → Res
  | [], _, a, last => if endsS last then .good [⟨6, [59], a⟩, ⟨7, [], a⟩] else .good [⟨7, [], a⟩]
  | _ :: r, k + 1, a, last => scanA r k (a + 1) last
  | c :: r, 0, a, last =>
    if c.toNat = 10 then (if endsS last then (scanA r 0 (a + 1) (some ⟨6, [59], a⟩)).cons ⟨6, [59], a⟩ else scanA r 0 (a + 1) last)
    else if c.toNat = 32 ∨ c.toNat = 9 ∨ c.toNat = 13 then scanA r 0 (a + 1) last
    else if comL (c :: r) then scanA r (overL (c :: r) - 1) (a + 1) last
    else match tokS (c :: r) with
      | .bad e => .bad e a
      | .good k t n => (scanA r (n - 1) (a + 1) (some ⟨k, t, a⟩)).cons ⟨k, t, a⟩
/-- the tokens of a source -/
def toksS (s : List UInt8) : Res := if 65536 < s.length then .bad 3 0 else scanA s 0 0 none

theorem ex1 : toksS "x := 1.5\n}".toUTF8.data.toList = .good [⟨2, [120], 0⟩, ⟨6, [58, 61], 2⟩, ⟨4, [49, 46, 53], 5⟩, ⟨6, [59], 8⟩, ⟨6, [125], 9⟩, ⟨6, [59], 10⟩, ⟨7, [], 10⟩] := by decide +kernel
theorem ex2 : toksS "\"a\\x41\"".toUTF8.data.toList = .good [⟨5, [97, 65], 0⟩, ⟨6, [59], 7⟩, ⟨7, [], 7⟩] := by decide +kernel
theorem ex3 : toksS "007".toUTF8.data.toList = .bad 101 0 := by decide +kernel
theorem ex4 : toksS "a <- b".toUTF8.data.toList = .bad 101 2 := by decide +kernel
theorem ex5 : toksS "$$ = $12".toUTF8.data.toList = .good [⟨8, [36], 0⟩, ⟨6, [61], 3⟩, ⟨8, [49, 50], 5⟩, ⟨6, [59], 8⟩, ⟨7, [], 8⟩] := by decide +kernel
theorem ex6 : toksS "go".toUTF8.data.toList = .bad 101 0 := by decide +kernel
theorem ex7 : toksS "a & b".toUTF8.data.toList = .bad 100 2 := by decide +kernel
end Go.Proofs.YtopbhopblpfjpaaGreatDoor.Scany
