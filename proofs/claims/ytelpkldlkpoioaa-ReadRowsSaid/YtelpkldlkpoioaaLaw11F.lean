/- The law ReadRows, walked: its guards; sources that say nothing. -/
import Derived.Test.YtelpkldlkpoioaaLaw11D
import Derived.Test.YtelpkldlkpoioaaReadPlain
import Derived.Test.YtelpkldlkpoioaaCut
namespace Go.Proofs.Ytelpkldlkpoioaa.Law11F
open Go.RowKit Go.Proofs.Ytelpkldlkpoioaa.Lexy Go.Proofs.Ytelpkldlkpoioaa.LexA Go.Proofs.Ytelpkldlkpoioaa.LexB Go.Proofs.Ytelpkldlkpoioaa.LexC Go.Proofs.Ytelpkldlkpoioaa.LexD Go.Proofs.Ytelpkldlkpoioaa.LexE Go.Proofs.Ytelpkldlkpoioaa.LexF Go.Proofs.Ytelpkldlkpoioaa.LexG Go.Proofs.Ytelpkldlkpoioaa.Heap Go.Proofs.Ytelpkldlkpoioaa.Dat Go.Proofs.Ytelpkldlkpoioaa.Ready Go.Proofs.Ytelpkldlkpoioaa.ReadA Go.Proofs.Ytelpkldlkpoioaa.ReadC Go.Proofs.Ytelpkldlkpoioaa.ReadG Go.Proofs.Ytelpkldlkpoioaa.ReadH Go.Proofs.Ytelpkldlkpoioaa.ReadI Go.Proofs.Ytelpkldlkpoioaa.ReadJ Go.Proofs.Ytelpkldlkpoioaa.ReadM Go.Proofs.Ytelpkldlkpoioaa.ReadO Go.Proofs.Ytelpkldlkpoioaa.ReadQ Go.Proofs.Ytelpkldlkpoioaa.Same Go.Proofs.Ytelpkldlkpoioaa.Law11A Go.Proofs.Ytelpkldlkpoioaa.Law11B Go.Proofs.Ytelpkldlkpoioaa.Law11C Go.Proofs.Ytelpkldlkpoioaa.Law11D Go.Proofs.Ytelpkldlkpoioaa.Cut

def twoB (a : ByteArray) : ByteArray := ({ data := #[37, 37, 32] } : ByteArray) ++ a
theorem twoB_list (a : ByteArray) : (twoB a).data.toList = 37 :: 37 :: 32 :: a.data.toList := by unfold twoB; simp
theorem twoB_size (a : ByteArray) : (twoB a).size = a.size + 3 := by
  have h : ({ data := #[37, 37, 32] } : ByteArray).size = 3 := by decide
  unfold twoB
  rw [ByteArray.size_append, h]; omega
theorem says_ok {s : List UInt8} {x : Tx} {k : Nat} (h : SaysR s (.ok x k)) : ∃ T, toks s = .good T ∧ TextR T (.ok x k) := by
  generalize ho : Out.ok x k = o at h
  cases h with
  | bad _ => cases ho
  | good h1 h2 => subst ho; exact ⟨_, h1, h2⟩
set_option maxRecDepth 100000 in
set_option maxHeartbeats 1000000 in
theorem rows_big {a b : ByteArray} {w : World} {m : Int} (hm : w.cell? ⟨0, 0, none⟩ = some (.int .i64 m)) (hb : 10000 < a.size ∨ 10000 < b.size) (ha : a.size ≤ 140737488351232) (hb2 : b.size ≤ 140737488351232) :
    Calls Try.prog 6 #[.string a, .string b] w fun e w' => e = .returned (.bool true) ∧ Below w.heap.size w w' := by
  have HM := Lib.hid hm; clear hm
  by_cases h1 : 10000 < a.size
  · clear hb
    go_enter Try.func6, Try.ntmps6
    go_wp2_with (go_at_call 13; refine (Law11C.awake_any HM.out).mono ?_; rintro e w1 ⟨rfl, hb1⟩)
    go_ret
    exact ⟨rfl, hb1⟩
  · have h2 : 10000 < b.size := by omega
    have h1' : ¬ 10000 < (a.size : Int) := by omega
    clear hb h1
    go_enter Try.func6, Try.ntmps6
    go_wp2_with (go_at_call 13; refine (Law11C.awake_any HM.out).mono ?_; rintro e w1 ⟨rfl, hb1⟩)
    go_ret
    exact ⟨rfl, hb1⟩
/-- the error's number -/
def errO {α : Type} : Out α → Nat
  | .bad e _ => e
  | .ok _ _ => 0
/-- a text that is read, whatever comes of it -/
theorem text_some {s : ByteArray} {w : World} {m : Int} {o : Out Tx} (hs : s.size ≤ 140737488351232) (hm : w.cell? ⟨0, 0, none⟩ = some (.int .i64 m)) (ho : SaysR s.data.toList o) :
    Calls Try.prog 14 #[.string s] w fun e w' => ∃ (da ra : Option Addr) (dc rc n k : Nat) (f1 : Int), e = .returned (.tuple #[.agg #[.slice da n dc, .slice ra k rc], .agg #[.int .i64 (errO o : Int), .int .i64 f1]]) ∧ Below w.heap.size w w' := by
  refine (text_any hs hm ho).mono ?_
  intro e w' hq
  cases o with
  | bad e2 p2 => obtain ⟨rfl, hb⟩ := hq; exact ⟨none, none, 0, 0, 0, 0, _, rfl, hb⟩
  | ok x k => obtain ⟨da, ra, dc, rc, bk, rfl, _, _, hb⟩ := hq; exact ⟨da, ra, dc, rc, _, _, _, rfl, hb⟩
set_option maxRecDepth 100000 in
set_option maxHeartbeats 2000000 in
/-- one of the two says nothing -/
theorem rows_bad {a b : ByteArray} {w : World} {m : Int} {o1 o2 : Out Tx} (hm : w.cell? ⟨0, 0, none⟩ = some (.int .i64 m)) (ha : a.size ≤ 10000) (hb : b.size ≤ 10000) (h1 : SaysR (twoB a).data.toList o1) (h2 : SaysR (twoB b).data.toList o2)
    (hbad : errO o1 ≠ 0 ∨ errO o2 ≠ 0) :
    Calls Try.prog 6 #[.string a, .string b] w fun e w' => e = .returned (.bool true) ∧ Below w.heap.size w w' := by
  have hml := World.block_lt_of_cell? _ _ hm
  have HM := Lib.hid hm; clear hm
  have hs1 := twoB_size a; have hs2 := twoB_size b
  have hl1 : (twoB a).size ≤ 10003 := by omega
  have hl2 : (twoB b).size ≤ 10003 := by omega
  have hA : ({ data := #[37, 37, 32] } : ByteArray) ++ a = twoB a := rfl
  have hB : ({ data := #[37, 37, 32] } : ByteArray) ++ b = twoB b := rfl
  clear hs1 hs2
  have HT1 := Lib.hid h1; have HT2 := Lib.hid h2; clear h1 h2
  generalize twoB a = A at *
  generalize twoB b = Bq at *
  have TX1 := Lib.hid (fun (w : World) hm => text_some (w := w) (m := m) (show A.size ≤ 140737488351232 by omega) hm HT1.out)
  have TX2 := Lib.hid (fun (w : World) hm => text_some (w := w) (m := m) (show Bq.size ≤ 140737488351232 by omega) hm HT2.out)
  clear HT1 HT2
  generalize errO o1 = x1 at *
  generalize errO o2 = x2 at *
  by_cases hx : x1 = 0
  case neg =>
    have he : ((x1 : Int) != 0) = true := by simp; omega
    clear hbad hx
    go_enter Try.func6, Try.ntmps6
    go_wp2_with (go_at_call 13; refine (Law11C.awake_any HM.out).mono ?_; rintro e w1 ⟨rfl, hb1⟩; have HM1 := Lib.hid ((hb1.cell (p := ⟨0, 0, none⟩) hml).trans HM.out))
    refine (TX1.out _ HM1.out).mono ?_
    rintro e w2 ⟨da, ra, dc, rc, n, k, f1, rfl, hb2⟩
    have hb3 := hb1.trans (hb2.mono hb1.size)
    have hb4 := (hb3.alloc hb3.size (.cells #[.slice da n dc, .slice ra k rc] 39)).alloc (by have := hb3.size; simp; omega) (.cells #[.int .i64 (x1 : Int), .int .i64 f1] 26)
    have HM2 := Lib.hid ((hb4.cell (p := ⟨0, 0, none⟩) hml).trans HM.out)
    go_wp2_with fail
    refine (TX2.out _ HM2.out).mono ?_
    rintro e w3 ⟨da2, ra2, dc2, rc2, n2, k2, f2, rfl, hb5⟩
    have hz := hb5.size
    have hz2 := Copy.size2 w2 (.cells #[.slice da n dc, .slice ra k rc] 39) (.cells #[.int .i64 (x1 : Int), .int .i64 f1] 26)
    rw [hz2] at hz
    have hz3 : w2.heap.size + 1 < w3.heap.size := by omega
    have hz4 : w2.heap.size + 1 < w3.heap.size + 1 := by omega
    have hF := (hb5.block (w2.heap.size + 1) (by rw [hz2]; omega)).trans (Copy.alloc2 w2 (.cells #[.slice da n dc, .slice ra k rc] 39) (.cells #[.int .i64 (x1 : Int), .int .i64 f1] 26))
    obtain ⟨c0, _⟩ := cells2 hF
    clear hz2 hF
    have hb6 := hb4.trans (hb5.mono hb4.size)
    go_wp2_with fail
    go_ret
    exact ⟨rfl, (hb6.alloc hb6.size _).alloc (by have := hb6.size; simp; omega) _⟩
  case pos =>
    have he : ((x1 : Int) != 0) = false := by simp; omega
    have he2 : ((x2 : Int) != 0) = true := by simp; omega
    clear hbad hx
    go_enter Try.func6, Try.ntmps6
    go_wp2_with (go_at_call 13; refine (Law11C.awake_any HM.out).mono ?_; rintro e w1 ⟨rfl, hb1⟩; have HM1 := Lib.hid ((hb1.cell (p := ⟨0, 0, none⟩) hml).trans HM.out))
    refine (TX1.out _ HM1.out).mono ?_
    rintro e w2 ⟨da, ra, dc, rc, n, k, f1, rfl, hb2⟩
    have hb3 := hb1.trans (hb2.mono hb1.size)
    have hb4 := (hb3.alloc hb3.size (.cells #[.slice da n dc, .slice ra k rc] 39)).alloc (by have := hb3.size; simp; omega) (.cells #[.int .i64 (x1 : Int), .int .i64 f1] 26)
    have HM2 := Lib.hid ((hb4.cell (p := ⟨0, 0, none⟩) hml).trans HM.out)
    go_wp2_with fail
    refine (TX2.out _ HM2.out).mono ?_
    rintro e w3 ⟨da2, ra2, dc2, rc2, n2, k2, f2, rfl, hb5⟩
    have hz := hb5.size
    have hz2 := Copy.size2 w2 (.cells #[.slice da n dc, .slice ra k rc] 39) (.cells #[.int .i64 (x1 : Int), .int .i64 f1] 26)
    rw [hz2] at hz
    have hz3 : w2.heap.size + 1 < w3.heap.size := by omega
    have hz4 : w2.heap.size + 1 < w3.heap.size + 1 := by omega
    have hF := (hb5.block (w2.heap.size + 1) (by rw [hz2]; omega)).trans (Copy.alloc2 w2 (.cells #[.slice da n dc, .slice ra k rc] 39) (.cells #[.int .i64 (x1 : Int), .int .i64 f1] 26))
    obtain ⟨c0, _⟩ := cells2 hF
    clear hz2 hF
    have hb6 := hb4.trans (hb5.mono hb4.size)
    go_wp2_with fail
    go_ret
    exact ⟨rfl, (hb6.alloc hb6.size _).alloc (by have := hb6.size; simp; omega) _⟩
end Go.Proofs.Ytelpkldlkpoioaa.Law11F
