/- node's small functions, walked. -/
import Derived.Test.YtkjpdhnibfhaaaaChecked
import Derived.Test.YtkjpdhnibfhaaaaShelf
import Derived.Test.YtkjpdhnibfhaaaaNodePlain
import Derived.ProofKit
import Derived.WalkKit
import Derived.Handy
import Derived.Deep.LoopGhost
import Derived.WalkSpells
import Derived.Deep.QuietTactic
import Derived.BigQuiet
import Derived.Deep.RegionWith
import Derived.WalkLawsBesides
import Derived.Lib.Hide
import Derived.Below
namespace Go.Proofs.Ytkjpdhnibfhaaaa.NodeA
open Go.RowKit Go.Proofs.Ytkjpdhnibfhaaaa.Nodey

def thrownW : List PanicEntry := [{ v := .iface 38 (.agg #[]), recovered := false }]
/-- so many Bools in a row -/
def Bools (w : World) (g : Nat) (l : List Bool) : Prop := ∀ j b, l[j]? = some b → w.cell? ⟨g, j, none⟩ = some (.bool b)
theorem index_false {l : List Bool} {g c : Nat} {w : World} (hl : l.length ≤ 1000000) (h : Bools w g l) :
    Calls Try.prog 38 #[.slice (some ⟨g, 0, none⟩) l.length c, .bool false] w fun e w' => ∃ r : Int, e = .returned (.int .i64 r) ∧ (0 ≤ r ↔ l.all id = false) ∧ w' = w := by
  have H := Lib.hid h; clear h
  go_enter Try.func38, Try.ntmps38
  go_wp2_with fail
  go_loopg [8] l.length (fun gk i wr => ∃ k : Nat, k ≤ l.length ∧ gk = l.length - k ∧ i = .int .i64 (k : Int) ∧ (l.take k).all id = true ∧ wr = w)
  case atStart => exact ⟨0, by omega, by omega, rfl, rfl, rfl⟩
  case round =>
    obtain ⟨k, hk, rfl, rfl, ha, rfl⟩ := hrel
    have HA := Lib.hid ha; clear ha
    by_cases hlt : k < l.length
    · have hb := List.getElem?_eq_getElem hlt
      have hc := H.out k _ hb
      have j0 : (0 : Int) ≤ (k : Int) := by omega
      have j1 : (k : Int) < (l.length : Int) := by omega
      cases hv : l[k] with
      | false =>
        rw [hv] at hc hb
        have HB := Lib.hid hb; clear hb hv
        go_wp2
        go_ret
        refine ⟨k, rfl, ?_, rfl⟩
        have hm := List.mem_of_getElem? HB.out
        constructor
        · intro _
          cases hall : l.all id with
          | false => rfl
          | true => have := List.all_eq_true.1 hall false hm; cases this
        · intro _; omega
      | true =>
        rw [hv] at hc
        have HV := Lib.hid hv; clear hb hv
        go_wp2
        go_roundg (l.length - (k + 1))
        case measure => omega
        case rel => exact ⟨k + 1, by omega, rfl, by go_num, by rw [List.take_succ_eq_append_getElem hlt, List.all_append, HA.out, HV.out]; rfl, rfl⟩
    · obtain rfl : k = l.length := by omega
      go_wp2
      go_ret
      refine ⟨-1, rfl, ?_, rfl⟩
      have := HA.out
      rw [List.take_length] at this
      rw [this]
      simp
theorem contains_false {l : List Bool} {g c : Nat} {w : World} (hl : l.length ≤ 1000000) (h : Bools w g l) :
    Calls Try.prog 31 #[.slice (some ⟨g, 0, none⟩) l.length c, .bool false] w fun e w' => e = .returned (.bool !(l.all id)) ∧ w' = w := by
  have HI := Lib.hid (index_false (c := c) hl h); clear h
  generalize l.all id = v at *
  cases v with
  | true =>
    go_enter Try.func31, Try.ntmps31
    go_wp2_with (go_at_call 38; refine HI.out.mono ?_; rintro e w1 ⟨r, rfl, hr, rfl⟩; have hr2 : ¬ 0 ≤ r := (by simpa using hr))
    go_ret
    exact ⟨rfl, rfl⟩
  | false =>
    go_enter Try.func31, Try.ntmps31
    go_wp2_with (go_at_call 38; refine HI.out.mono ?_; rintro e w1 ⟨r, rfl, hr, rfl⟩; have hr2 : 0 ≤ r := (by simpa using hr))
    go_ret
    exact ⟨rfl, rfl⟩
/-- all of them, or it panics -/
theorem must_any {l : List Bool} {g c : Nat} {w : World} (hl : l.length ≤ 1000000) (h : Bools w g l) :
    Calls Try.prog 22 #[.slice (some ⟨g, 0, none⟩) l.length c] w fun e w' => e = (if l.all id = true then .returned (.tuple #[]) else .panicked thrownW) ∧ w' = w := by
  have HI := Lib.hid (contains_false (c := c) hl h); clear h
  generalize l.all id = v at *
  cases v with
  | true =>
    go_enter Try.func22, Try.ntmps22
    go_wp2_with (go_at_call 31; refine HI.out.mono ?_; rintro e w1 ⟨rfl, rfl⟩)
    go_end0
    exact ⟨rfl, rfl⟩
  | false =>
    go_enter Try.func22, Try.ntmps22
    go_wp2_with (go_at_call 31; refine HI.out.mono ?_; rintro e w1 ⟨rfl, rfl⟩)
    exact ⟨rfl, rfl, rfl⟩
/-- so many kinds in a row -/
def Kinds (w : World) (g : Nat) (l : List Nat) : Prop := ∀ (j b : Nat), l[j]? = some b → w.cell? ⟨g, j, none⟩ = some (.int .u8 (b : Int))
theorem index_kind {l : List Nat} {g c x : Nat} {w : World} (hl : l.length ≤ 1000000) (h : Kinds w g l) :
    Calls Try.prog 66 #[.slice (some ⟨g, 0, none⟩) l.length c, .int .u8 (x : Int)] w fun e w' => ∃ r : Int, e = .returned (.int .i64 r) ∧ (0 ≤ r ↔ l.contains x = true) ∧ w' = w := by
  have H := Lib.hid h; clear h
  go_enter Try.func66, Try.ntmps66
  go_wp2_with fail
  go_loopg [8] l.length (fun gk i wr => ∃ k : Nat, k ≤ l.length ∧ gk = l.length - k ∧ i = .int .i64 (k : Int) ∧ (l.take k).contains x = false ∧ wr = w)
  case atStart => exact ⟨0, by omega, by omega, rfl, rfl, rfl⟩
  case round =>
    obtain ⟨k, hk, rfl, rfl, ha, rfl⟩ := hrel
    have HA := Lib.hid ha; clear ha
    by_cases hlt : k < l.length
    · have hb := List.getElem?_eq_getElem hlt
      have hc := H.out k _ hb
      have j0 : (0 : Int) ≤ (k : Int) := by omega
      have j1 : (k : Int) < (l.length : Int) := by omega
      have HB := Lib.hid hb
      have HT := Lib.hid (List.take_succ_eq_append_getElem hlt)
      generalize l[k] = y at *
      clear hb
      by_cases hv : x = y
      · subst hv
        have he : ((x : Int) == (x : Int)) = true := by simp
        go_wp2
        go_ret
        exact ⟨k, rfl, ⟨fun _ => by simpa using List.mem_of_getElem? HB.out, fun _ => by omega⟩, rfl⟩
      · have he : ((x : Int) == (y : Int)) = false := by simp; omega
        go_wp2
        go_roundg (l.length - (k + 1))
        case measure => omega
        case rel =>
          have h1 := HA.out
          simp only [List.contains_eq_mem, decide_eq_false_iff_not] at h1
          exact ⟨k + 1, by omega, rfl, by go_num, by rw [HT.out]; simp [hv]; simpa using h1, rfl⟩
    · obtain rfl : k = l.length := by omega
      go_wp2
      go_ret
      refine ⟨-1, rfl, ?_, rfl⟩
      have := HA.out
      rw [List.take_length] at this
      rw [this]
      simp
theorem contains_kind {l : List Nat} {g c x : Nat} {w : World} (hl : l.length ≤ 1000000) (h : Kinds w g l) :
    Calls Try.prog 56 #[.slice (some ⟨g, 0, none⟩) l.length c, .int .u8 (x : Int)] w fun e w' => e = .returned (.bool (l.contains x)) ∧ w' = w := by
  have HI := Lib.hid (index_kind (c := c) (x := x) hl h); clear h
  generalize l.contains x = v at *
  cases v with
  | false =>
    go_enter Try.func56, Try.ntmps56
    go_wp2_with (go_at_call 66; refine HI.out.mono ?_; rintro e w1 ⟨r, rfl, hr, rfl⟩; have hr2 : ¬ 0 ≤ r := (by simpa using hr))
    go_ret
    exact ⟨rfl, rfl⟩
  | true =>
    go_enter Try.func56, Try.ntmps56
    go_wp2_with (go_at_call 66; refine HI.out.mono ?_; rintro e w1 ⟨r, rfl, hr, rfl⟩; have hr2 : 0 ≤ r := (by simpa using hr))
    go_ret
    exact ⟨rfl, rfl⟩
/-- a function of kinds -/
def IsP (w : World) (v : Value) (p : Nat → Bool) : Prop := ∃ f cap, v = .func (.func f) #[] cap ∧ (∀ (args : Array Value) (w : World), (callFunc f args).run Try.prog w = .ok (.enter f args) w) ∧
  ∀ w' (k : Nat), Below w.heap.size w w' → Calls Try.prog f (#[.int .u8 (k : Int)] ++ cap) w' fun e w'' => e = .returned (.bool (p k)) ∧ w'' = w'
theorem IsP.below {w w' : World} {v : Value} {p : Nat → Bool} (h : IsP w v p) (hb : Below w.heap.size w w') : IsP w' v p := by
  obtain ⟨f, cap, h1, h2, h3⟩ := h
  exact ⟨f, cap, h1, h2, fun w'' k hb' => h3 w'' k (hb.trans (hb'.mono hb.size))⟩
theorem typed_any (k : Nat) (w : World) : Calls Try.prog 44 #[.int .u8 (k : Int)] w fun e w' => e = .returned (.bool (typedK k)) ∧ w' = w := by
  by_cases h7 : k = 7
  · subst h7
    go_enter Try.func44, Try.ntmps44
    go_wp2
    go_ret
    exact ⟨rfl, rfl⟩
  have h7' : ((k : Int) == 7) = false := by simp; omega
  by_cases h8 : k = 8
  · subst h8
    clear h7'
    go_enter Try.func44, Try.ntmps44
    go_wp2
    go_ret
    exact ⟨rfl, rfl⟩
  have h8' : ((k : Int) == 8) = false := by simp; omega
  have hv : typedK k = false := by simp [typedK, h7, h8]
  go_enter Try.func44, Try.ntmps44
  go_wp2
  go_ret
  exact ⟨by first | rfl | (rw [hv]; rfl), rfl⟩
theorem stated_any (k : Nat) (w : World) : Calls Try.prog 45 #[.int .u8 (k : Int)] w fun e w' => e = .returned (.bool (statedK k)) ∧ w' = w := by
  by_cases h1 : 9 ≤ k
  · by_cases h2 : k ≤ 20
    · by_cases h3 : k = 16
      · subst h3
        go_enter Try.func45, Try.ntmps45
        go_wp2
        go_ret
        exact ⟨rfl, rfl⟩
      · have hn : ((k : Int) != 16) = true := by simp; omega
        have hv : statedK k = true := by simp [statedK, h1, h2, h3]
        go_enter Try.func45, Try.ntmps45
        go_wp2
        go_ret
        exact ⟨by first | rfl | (rw [hv]; rfl), rfl⟩
    · have hv : statedK k = false := by simp [statedK, h2]
      go_enter Try.func45, Try.ntmps45
      go_wp2
      go_ret
      exact ⟨by first | rfl | (rw [hv]; rfl), rfl⟩
  · have hv : statedK k = false := by simp [statedK, h1]
    go_enter Try.func45, Try.ntmps45
    go_wp2
    go_ret
    exact ⟨by first | rfl | (rw [hv]; rfl), rfl⟩
theorem said_any (k : Nat) (w : World) : Calls Try.prog 46 #[.int .u8 (k : Int)] w fun e w' => e = .returned (.bool (saidK k)) ∧ w' = w := by
  by_cases h1 : 21 ≤ k
  · by_cases h2 : k ≤ 35
    · by_cases h3 : k = 34
      · subst h3
        go_enter Try.func46, Try.ntmps46
        go_wp2
        go_ret
        exact ⟨rfl, rfl⟩
      · have hn : ((k : Int) != 34) = true := by simp; omega
        have hv : saidK k = true := by simp [saidK, h1, h2, h3]
        go_enter Try.func46, Try.ntmps46
        go_wp2
        go_ret
        exact ⟨by first | rfl | (rw [hv]; rfl), rfl⟩
    · have hv : saidK k = false := by simp [saidK, h2]
      go_enter Try.func46, Try.ntmps46
      go_wp2
      go_ret
      exact ⟨by first | rfl | (rw [hv]; rfl), rfl⟩
  · have hv : saidK k = false := by simp [saidK, h1]
    go_enter Try.func46, Try.ntmps46
    go_wp2
    go_ret
    exact ⟨by first | rfl | (rw [hv]; rfl), rfl⟩
end Go.Proofs.Ytkjpdhnibfhaaaa.NodeA
