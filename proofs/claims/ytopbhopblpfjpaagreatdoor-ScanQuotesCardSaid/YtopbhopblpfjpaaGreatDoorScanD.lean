/- The scanner's strings, walked. -/
import Derived.Test.YtopbhopblpfjpaaGreatDoorScanC
import Derived.Lib.AppendStr
import Derived.Deep.AppendLies
import Derived.Lib.AppendStr
import Derived.Lib.UnsafeStr
namespace Go.Proofs.YtopbhopblpfjpaaGreatDoor.ScanD
open Go.RowKit Go.Proofs.YtopbhopblpfjpaaGreatDoor.Lexy Go.Proofs.YtopbhopblpfjpaaGreatDoor.Heap Go.Proofs.YtopbhopblpfjpaaGreatDoor.Base Go.Proofs.YtopbhopblpfjpaaGreatDoor.Scany Go.Proofs.YtopbhopblpfjpaaGreatDoor.ScanA Go.Proofs.YtopbhopblpfjpaaGreatDoor.ScanB Go.Proofs.YtopbhopblpfjpaaGreatDoor.ScanC

/-- a row of bytes of the call's own, as a string -/
theorem conv_own {w : World} {base : Nat} {v : Value} {l : List UInt8} (h : w.ownsRow base 5 1 v l.length (Lib.strCells (bs l))) :
    (convert 89 9 v).run Tryz.prog w = .ok (.string (bs l)) w := by
  have h0 := h
  rcases h.2 with ⟨rfl, hn⟩ | ⟨g, cap, cur, rfl, hb, hg, h1, h2, h3, _⟩
  · obtain rfl := List.eq_nil_of_length_eq_zero hn
    exact run_convert_bytes_nil _ 89 5 Tryz.underlying89 Tryz.underlying5 0 0 9 Tryz.underlying9
  · have := run_convert_bytes_arg (P := Tryz.prog) w 89 5 Tryz.underlying89 Tryz.underlying5 g 0 l.length cap (l.map fun c => (c.toNat : Int)) (by simp) (fun i hi => by
      rw [Nat.zero_add, h0.cellAt i (by omega)]
      have e2 : l[i]? = some l[i] := List.getElem?_eq_getElem hi
      simp [Lib.strCells, bs, e2, List.getD_eq_getElem?_getD]) 9 Tryz.underlying9
    have e : strOfNums (l.map fun c => (c.toNat : Int)) = bs l := by
      apply ByteArray.ext; apply Array.ext'
      rw [strOfNums_data, List.map_map]
      exact (List.map_congr_left fun c _ => by simp).trans (List.map_id l)
    rw [this, e]
theorem byteInfo : (Tryz.prog.info? 5).map (fun i => (i.zero, i.size, i.bytes)) = some (some (.int .u8 0), 1, 1) := by kernel_rfl
theorem cells_snoc (d : List UInt8) (c : UInt8) : Lib.strCells (bs (d ++ [c])) = Lib.strCells (bs d) ++ [.int .u8 (c.toNat : Int)] := by simp [Lib.strCells, bs]

/-- what comes of a token's beginning -/
def PartPost (b : Nat) (s : ByteArray) (a : Nat) (l : Value) (w : World) (e : Ending) (w' : World) : Prop :=
  w.grownBy w' (some b) ∧ match tokS (rest s a) with
  | .bad x => e = .panicked (thrown x)
  | .good k t n => e = .returned (.tuple #[.int .u8 (k : Int), .string (bs t)]) ∧ Sc w' b s (a + n) l
theorem PartPost.bad {b : Nat} {s : ByteArray} {a x : Nat} {l : Value} {w w' : World} {z : Int} (h : tokS (rest s a) = .bad x) (hz : z = (x : Int)) (g : w.grownBy w' (some b)) : PartPost b s a l w (.panicked (thrown z)) w' := by
  unfold PartPost; rw [h, hz]; exact ⟨g, rfl⟩
theorem PartPost.good {b : Nat} {s : ByteArray} {a k n : Nat} {t : List UInt8} {l : Value} {w w' : World} {z : Int} {x : ByteArray} (h : tokS (rest s a) = .good k t n) (hz : z = (k : Int)) (hx : x = bs t) (g : w.grownBy w' (some b)) (hr : Sc w' b s (a + n) l) :
    PartPost b s a l w (.returned (.tuple #[.int .u8 z, .string x])) w' := by
  unfold PartPost; rw [h, hz, hx]; exact ⟨g, rfl, hr⟩

/-! step by step -/
theorem str_quote {s : ByteArray} {k : Nat} (hk : k < s.size) (h : byteAt s k = 34) : strL (rest s k) 0 = some ([], 1) := by
  obtain ⟨c, h1, h2⟩ := rest_cons hk
  rw [h1, strL, ← h2, if_pos h]
theorem str_odd {s : ByteArray} {k : Nat} (h : byteAt s k < 32 ∨ 126 < byteAt s k) : strL (rest s k) 0 = none := by
  by_cases hk : k < s.size
  · obtain ⟨c, h1, h2⟩ := rest_cons hk
    rw [h1, strL, ← h2, if_neg (by omega), if_pos h]
  · rw [(rest_nil (by omega)).1]; rfl
theorem str_plain {s : ByteArray} {k : Nat} (hk : k < s.size) (h1 : 32 ≤ byteAt s k) (h2 : byteAt s k ≤ 126) (h3 : byteAt s k ≠ 34) (h4 : byteAt s k ≠ 92) : strL (rest s k) 0 = (strL (rest s (k + 1)) 0).map fun x => (UInt8.ofNat (byteAt s k) :: x.1, x.2 + 1) := by
  obtain ⟨c, e1, e2⟩ := rest_cons hk
  rw [e1, strL, ← e2, if_neg h3, if_neg (by omega), if_neg h4]
  congr 1; funext x; rw [e2]; simp
theorem str_pair {s : ByteArray} {k : Nat} (hk : k < s.size) (h : byteAt s k = 92) : strL (rest s k) 0 = match pairL (rest s (k + 1)) with | none => none | some (y, n) => (strL (rest s (k + 1 + n)) 0).map fun x => (y :: x.1, x.2 + n + 1) := by
  obtain ⟨c, e1, e2⟩ := rest_cons hk
  rw [e1, strL, ← e2, if_neg (by omega), if_neg (by omega), if_pos h]
  cases hp : pairL (rest s (k + 1)) with
  | none => rfl
  | some p =>
    obtain ⟨y, n⟩ := p
    have hn := pairL_le _ _ _ hp
    simp only
    rw [strL_skip _ _ hn.2, rest_drop, Option.map_map]
    congr 1
theorem tok_str {s : ByteArray} {a : Nat} (ha : a < s.size) (h : byteAt s a = 34) : tokS (rest s a) = match strL (rest s (a + 1)) 0 with | none => .bad 101 | some (t, n) => .good 5 t (n + 1) := by
  obtain ⟨c, e1, e2⟩ := rest_cons ha
  have hc : c.toNat = 34 := by omega
  rw [e1, tokS, hc]; rfl

theorem grown_row {w w1 w2 : World} {b : Nat} {v : Value} (h : w.grownBy w1 (some b)) (g : w1.grownBy w2 v.ownBlock) (hv : ∀ q, v.ownBlock = some q → w.heap.size ≤ q) : w.grownBy w2 (some b) := by
  cases hq : v.ownBlock with
  | none => rw [hq] at g; exact grown_trans h (grown_none g _)
  | some q => rw [hq] at g; exact grown_new h g (hv q hq)
theorem pair_ok {b : Nat} {s : ByteArray} {a n : Nat} {x : UInt8} {l : Value} {w : World} (hr : Sc w b s a l) (hs : s.size ≤ 1000000) (ha : a ≤ s.size) (h : pairL (rest s a) = some (x, n)) :
    Calls Tryz.prog 139 #[.pointer (some ⟨b, 0, none⟩)] w fun e w' => e = .returned (.int .u8 (x.toNat : Int)) ∧ Sc w' b s (a + n) l ∧ w.grownBy w' (some b) :=
  (pair_any hr hs ha).mono fun e w' hp => by unfold PairPost at hp; rw [h] at hp; exact ⟨hp.2.1, hp.2.2, hp.1⟩
theorem pair_no {b : Nat} {s : ByteArray} {a : Nat} {l : Value} {w : World} (hr : Sc w b s a l) (hs : s.size ≤ 1000000) (ha : a ≤ s.size) (h : pairL (rest s a) = none) :
    Calls Tryz.prog 139 #[.pointer (some ⟨b, 0, none⟩)] w fun e w' => e = .panicked (thrown 101) ∧ w.grownBy w' (some b) :=
  (pair_any hr hs ha).mono fun e w' hp => by unfold PairPost at hp; rw [h] at hp; exact ⟨hp.2, hp.1⟩
set_option maxRecDepth 100000 in
set_option maxHeartbeats 4000000 in
theorem text_any {b : Nat} {s : ByteArray} {a : Nat} {l : Value} {w : World} (hr : Sc w b s a l) (hs : s.size ≤ 1000000) (ha : a < s.size) (h34 : byteAt s a = 34) :
    Calls Tryz.prog 82 #[.pointer (some ⟨b, 0, none⟩)] w (PartPost b s a l w) := by
  obtain ⟨ti0, hi0, hz0, hz1, hz2⟩ := info_parts byteInfo
  have hbw := hr.lt
  have HT := Lib.hid (tok_str ha h34); clear h34
  have c1 := hr.c1; have f1 := hr.fr 1
  have hbl := hr.lt
  go_enter Tryz.func82, Tryz.ntmps82
  go_wp2
  have hr1 : Sc (w.setCell ⟨b, 1, none⟩ (.int .i64 ((a : Int) + 1))) b s (a + 1) l := hr.set1 (by simp)
  have hg1 := grown_set w ⟨b, 1, none⟩ (.int .i64 ((a : Int) + 1))
  clear c1 f1
  generalize w.setCell ⟨b, 1, none⟩ (.int .i64 ((a : Int) + 1)) = W1 at *
  go_loopg [4] (s.size - (a + 1)) (fun gk t4 wr => ∃ (k : Nat) (v : Value) (d : List UInt8), a + 1 ≤ k ∧ k ≤ s.size ∧ gk = s.size - k ∧ v = t4 ∧ d.length ≤ k ∧ strL (rest s (a + 1)) 0 = (strL (rest s k) 0).map (fun x => (d ++ x.1, x.2 + (k - (a + 1)))) ∧ Sc wr b s k l ∧ wr.ownsRow w.heap.size 5 1 v d.length (Lib.strCells (bs d)) ∧ w.grownBy wr (some b) ∧ b < wr.heap.size)
  case atStart => exact ⟨a + 1, _, [], by omega, by omega, rfl, rfl, by simp, by simp, hr1, World.ownsRow_nil _ _ _ _, hg1, hr1.lt⟩
  case round =>
    clear hr1 hg1 hr
    obtain ⟨k, v, d, hk1, hk2, rfl, rfl, hdk, hst, hrk, hown, hgk, hbs⟩ := hrel
    have HS := Lib.hid hst; clear hst
    have hws := hgk.size
    have hvq : ∀ q, v.ownBlock = some q → w.heap.size ≤ q := fun q e => (hown.lt q e).1
    have HVQ := Lib.hid hvq; clear hvq
    obtain ⟨c, hc⟩ : ∃ c, byteAt s k = c := ⟨_, rfl⟩
    have hcl : c < 256 := by rw [← hc]; exact byteAt_lt s k
    by_cases h34 : c = 34
    · -- the end
      have hlt : k < s.size := by
        rcases Nat.lt_or_ge k s.size with h | h
        · exact h
        · rw [(rest_nil h).2] at hc; omega
      have hfin := HS.out
      rw [str_quote hlt (by omega)] at hfin
      have HF := Lib.hid hfin; clear hfin
      subst h34
      have HC := Lib.hid hc; clear hc
      have c1 := hrk.c1; have f1 := hrk.fr 1
      have hvb : v.ownBlock ≠ some b := fun e => by have := (hown.lt b e).1; omega
      go_wp2_with (first | (go_at_call 28; (with_reducible refine (now0 hrk hs (by omega) HC.out).mono ?_); rintro e w' ⟨rfl, n0, rfl⟩) | (go_at_call 28; (with_reducible refine (now0 (hrk.drewN _) hs (by omega) HC.out).mono ?_); rintro e w' ⟨rfl, n1, rfl⟩))
      have hr2 : Sc ((wr.drewN n0).setCell ⟨b, 1, none⟩ (.int .i64 ((k : Int) + 1))) b s (k + 1) l := (hrk.drewN n0).set1 (by simp)
      have hg2 := grown_trans hgk (grown_trans (grown_drewN wr n0 _) (grown_set _ ⟨b, 1, none⟩ (.int .i64 ((k : Int) + 1))))
      have ho2 := own_set (own_drewN hown n0) hvb 1 (.int .i64 ((k : Int) + 1))
      clear c1 f1
      generalize (wr.drewN n0).setCell ⟨b, 1, none⟩ (.int .i64 ((k : Int) + 1)) = W2 at *
      have hconv : ∀ n, (convert 89 9 v).run Tryz.prog (W2.drewN n) = .ok (.string (bs d)) (W2.drewN n) := fun n => conv_own (own_drewN ho2 n)
      go_quiet (fail)
      go_wp2
      go_ret2
      refine PartPost.good (k := 5) (n := k - (a + 1) + 1 + 1) (t := d) ?_ rfl rfl (grown_trans hg2 (grown_drewN _ _ _)) ?_
      · rw [HT.out, HF.out]; simp; omega
      · rw [show a + (k - (a + 1) + 1 + 1) = k + 1 by omega]; exact hr2.drewN _
    have e34 : ((c : Int) != 34) = true := bne_iff_ne.2 (by omega)
    have hvb : v.ownBlock ≠ some b := fun e => by have := (hown.lt b e).1; omega
    by_cases hodd : c < 32 ∨ 126 < c
    · have hfin := HS.out
      rw [str_odd (s := s) (k := k) (by omega)] at hfin
      have HF := Lib.hid hfin; clear hfin
      have HC := Lib.hid hc; clear hc
      rcases hodd with hodd | hodd
      all_goals
        have j0 : (c : Int) < 32 ∨ (126 : Int) < (c : Int) := by omega
        go_wp2_with (first | (go_at_call 28; (with_reducible refine (now0 hrk hs (by omega) HC.out).mono ?_); rintro e w' ⟨rfl, n0, rfl⟩) | (go_at_call 28; (with_reducible refine (now0 (hrk.drewN _) hs (by omega) HC.out).mono ?_); rintro e w' ⟨rfl, n1, rfl⟩) | (go_at_call 138; refine (no_any _).mono ?_; rintro e w' ⟨rfl, rfl⟩))
        exact ⟨rfl, PartPost.bad (x := 101) (by rw [HT.out, HF.out]; rfl) rfl (grown_trans hgk (grown_drewN _ _ _))⟩
    have hlt : k < s.size := by
      rcases Nat.lt_or_ge k s.size with h | h
      · exact h
      · rw [(rest_nil h).2] at hc; omega
    have j1 : (32 : Int) ≤ (c : Int) := by omega
    have j2 : (c : Int) ≤ 126 := by omega
    have c1 := hrk.c1; have f1 := hrk.fr 1
    by_cases h92 : c = 92
    · have hsp := str_pair hlt (by omega)
      subst h92
      have HC := Lib.hid hc; clear hc
      cases hp : pairL (rest s (k + 1)) with
      | none =>
        rw [hp] at hsp
        have hfin := HS.out
        rw [hsp] at hfin
        have HF := Lib.hid hfin; clear hfin hsp
        have HP := Lib.hid hp; clear hp
        go_wp2_with (first | (go_at_call 28; (with_reducible refine (now0 hrk hs (by omega) HC.out).mono ?_); rintro e w' ⟨rfl, n0, rfl⟩) | (go_at_call 28; (with_reducible refine (now0 (hrk.drewN _) hs (by omega) HC.out).mono ?_); rintro e w' ⟨rfl, n1, rfl⟩) | (go_at_call 139; go_must (refine (pair_no (((hrk.drewN _).set1 (a' := k + 1) (by simp))) hs (by omega) HP.out).mono ?_); rintro e w3 ⟨rfl, hg3⟩))
        exact ⟨rfl, PartPost.bad (x := 101) (by rw [HT.out, HF.out]; rfl) rfl (grown_trans (grown_trans hgk (grown_trans (grown_drewN _ _ _) (grown_set _ ⟨b, 1, none⟩ _))) hg3)⟩
      | some p =>
        obtain ⟨y, n⟩ := p
        have hn := pairL_le _ _ _ hp
        rw [rest_len] at hn
        rw [hp] at hsp
        have hfin := HS.out
        rw [hsp] at hfin
        have HF := Lib.hid hfin; clear hfin hsp
        have HP := Lib.hid hp; clear hp
        go_wp2_with (first | (go_at_call 28; (with_reducible refine (now0 hrk hs (by omega) HC.out).mono ?_); rintro e w' ⟨rfl, n0, rfl⟩) | (go_at_call 28; (with_reducible refine (now0 (hrk.drewN _) hs (by omega) HC.out).mono ?_); rintro e w' ⟨rfl, n1, rfl⟩) | (go_at_call 139; go_must (refine (pair_ok (((hrk.drewN _).set1 (a' := k + 1) (by simp))) hs (by omega) HP.out).mono ?_); rintro e w3 ⟨rfl, hr3, hg3⟩; have ho3 := (own_set (own_drewN hown _) hvb 1 _).kept hg3 (.inr hvb); have hs3 := hr3.lt; have hs5 := hg3.size; simp [World.setCell] at hs5) | (at_builtin; go_must (refine wpList_append_lies _ rfl _ _ _ rfl w.heap.size 5 ti0 _ 1 1 Tryz.underlying89 hi0 hz0 hz1 hz2 rfl (by omega) v d.length (Lib.strCells (bs d)) rfl (ho3.alloc _) ⟨w3.heap.size, 0, none⟩ 1 1 [.int .u8 (y.toNat : Int)] rfl rfl (World.news_of_block (cs := #[.int .u8 (y.toNat : Int)]) (heap_alloc_new _ _)) (by simp [Value.oneCell']) (by omega) (by unfold maxLen; omega) (by omega) (by simp; omega) (w3.heap.size + 1) (by simp) ?_; intro g cap w4 ho4 hg4 hat hlt4)))
        go_roundg (s.size - (k + 1 + n))
        case measure => omega
        case rel =>
          have hgw := grown_trans (grown_trans (grown_trans hgk (grown_trans (grown_drewN _ _ _) (grown_set _ ⟨b, 1, none⟩ _))) hg3) (World.grownBy_alloc w3 (.cells #[.int .u8 (y.toNat : Int)] 5) _)
          refine ⟨k + 1 + n, _, d ++ [y], by omega, by omega, rfl, rfl, by simp; omega, ?_, (hr3.kept (World.grownBy_alloc w3 (.cells #[.int .u8 (y.toNat : Int)] 5) none) (by simp)).kept hg4 (fun e => hvb e.symm), ?_, grown_row hgw hg4 HVQ.out, ?_⟩
          · rw [HF.out, Option.map_map]; congr 1; funext x; simp; omega
          · rw [cells_snoc, List.length_append]; exact ho4
          · have := hg4.size; simp at this; omega
    · have hsp := str_plain hlt (by omega) (by omega) (by omega) (by omega)
      have hfin := HS.out
      rw [hsp] at hfin
      have HF := Lib.hid hfin; clear hfin hsp
      have HC := Lib.hid hc; clear hc
      have e92 : ((c : Int) == 92) = false := beq_eq_false_iff_ne.2 (by omega)
      go_wp2_with (first | (go_at_call 28; (with_reducible refine (now0 hrk hs (by omega) HC.out).mono ?_); rintro e w' ⟨rfl, n0, rfl⟩) | (go_at_call 28; (with_reducible refine (now0 (hrk.drewN _) hs (by omega) HC.out).mono ?_); rintro e w' ⟨rfl, n1, rfl⟩) | (at_builtin; have ho3 := own_set (own_drewN hown (n0 + n1)) hvb 1 (.int .i64 ((k : Int) + 1)); go_must (refine wpList_append_lies _ rfl _ _ _ rfl w.heap.size 5 ti0 _ 1 1 Tryz.underlying89 hi0 hz0 hz1 hz2 rfl (by omega) v d.length (Lib.strCells (bs d)) rfl (ho3.alloc _) ⟨_, 0, none⟩ 1 1 [.int .u8 (c : Int)] rfl rfl (World.news_of_block (cs := #[.int .u8 (c : Int)]) (by have := heap_alloc_new ((wr.drewN (n0 + n1)).setCell ⟨b, 1, none⟩ (.int .i64 ((k : Int) + 1))) (.cells #[.int .u8 (c : Int)] 5); simpa using this)) (by simp [Value.oneCell']) (by omega) (by unfold maxLen; omega) (by omega) (by simp [World.setCell]; omega) (wr.heap.size + 1) (by simp [World.setCell]) ?_; intro g cap w4 ho4 hg4 hat hlt4)))
      go_roundg (s.size - (k + 1))
      case measure => omega
      case rel =>
        have hb := HC.out
        have hgw := grown_trans (grown_trans hgk (grown_trans (grown_drewN wr (n0 + n1) _) (grown_set _ ⟨b, 1, none⟩ (.int .i64 ((k : Int) + 1))))) (World.grownBy_alloc _ (.cells #[.int .u8 (c : Int)] 5) _)
        have hr3 : Sc (((wr.drewN (n0 + n1)).setCell ⟨b, 1, none⟩ (.int .i64 ((k : Int) + 1))).alloc (.cells #[.int .u8 (c : Int)] 5)) b s (k + 1) l := (((hrk.drewN (n0 + n1)).set1 (a' := k + 1) (by simp))).kept (World.grownBy_alloc _ _ none) (by simp)
        have hcc : ((UInt8.ofNat c).toNat : Int) = (c : Int) := by simp; omega
        refine ⟨k + 1, _, d ++ [UInt8.ofNat c], by omega, by omega, rfl, rfl, by simp; omega, ?_, hr3.kept hg4 (fun e => hvb e.symm), ?_, grown_row hgw hg4 HVQ.out, ?_⟩
        · rw [HF.out, Option.map_map, hb]; congr 1; funext x; simp; omega
        · rw [cells_snoc, List.length_append, hcc]; exact ho4
        · have := hg4.size; simp [World.setCell] at this; omega
end Go.Proofs.YtopbhopblpfjpaaGreatDoor.ScanD
