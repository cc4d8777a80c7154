/- The scanner's steps, walked. -/
import Derived.Test.YtopbhopblpfjpaaGreatDoorScanI
namespace Go.Proofs.YtopbhopblpfjpaaGreatDoor.ScanJ
open Go.RowKit Go.Proofs.YtopbhopblpfjpaaGreatDoor.Lexy Go.Proofs.YtopbhopblpfjpaaGreatDoor.Heap Go.Proofs.YtopbhopblpfjpaaGreatDoor.Base Go.Proofs.YtopbhopblpfjpaaGreatDoor.Scany Go.Proofs.YtopbhopblpfjpaaGreatDoor.ScanA Go.Proofs.YtopbhopblpfjpaaGreatDoor.ScanB Go.Proofs.YtopbhopblpfjpaaGreatDoor.ScanC Go.Proofs.YtopbhopblpfjpaaGreatDoor.ScanD Go.Proofs.YtopbhopblpfjpaaGreatDoor.ScanE Go.Proofs.YtopbhopblpfjpaaGreatDoor.ScanF Go.Proofs.YtopbhopblpfjpaaGreatDoor.ScanG Go.Proofs.YtopbhopblpfjpaaGreatDoor.ScanH Go.Proofs.YtopbhopblpfjpaaGreatDoor.ScanI

/-- a line's end -/
theorem end_any {b B0 H : Nat} {s : ByteArray} {a : Nat} {l : Value} {d : List Tok} {w : World} (hG : Gl w H) (hHb : H ≤ b) (hr : Sc w b s a l) (hown : w.ownsRow B0 50 3 l d.length (cellsT d)) (hok : ∀ t, d.getLast? = some t → okT t) (hn : d.length ≤ 1000000) (hbB : b < B0) (hB : B0 ≤ w.heap.size) :
    Calls Tryz.prog 20 #[.pointer (some ⟨b, 0, none⟩)] w (EndPost b B0 s a l d w) := by
  have hbm : 2 < b := Nat.lt_of_lt_of_le hG.1.1 hHb
  obtain ⟨_, ⟨m, hm⟩, _⟩ := hG
  rcases Nat.eq_zero_or_pos d.length with h0 | h0
  · obtain rfl := List.eq_nil_of_length_eq_zero h0
    exact end_nil hr hown
  · obtain ⟨n, hd⟩ : ∃ n, d.length = n + 1 := ⟨d.length - 1, by omega⟩
    obtain ⟨g, cap, rfl, _, _⟩ := hown.form h0
    rw [hd] at hr hown ⊢
    obtain ⟨t, hlast⟩ : ∃ t, d.getLast? = some t := by
      cases h : d.getLast? with
      | none => rw [List.getLast?_eq_none_iff] at h; subst h; simp at h0
      | some t => exact ⟨t, rfl⟩
    have ho := hok t hlast
    by_cases h1 : t.kind = 1
    · cases hv : decide (t.text ∈ endW) with
      | true => exact end_word_t hd hlast ho hr hown (by omega) hbB hB hbm h1 hv hm
      | false => exact end_word_f hd hlast ho hr hown (by omega) hbB hB hbm h1 hv hm
    · by_cases h6 : t.kind = 6
      · cases hv : decide (t.text ∈ ([[41], [93], [125]] : List (List UInt8))) with
        | true => exact end_sign_t hd hlast ho hr hown (by omega) hbB hB hbm h6 hv hm
        | false => exact end_sign_f hd hlast ho hr hown (by omega) hbB hB hbm h6 hv hm
      · exact end_other hd hlast ho hr hown (by omega) hbB hB hbm h1 h6 hm
theorem end_yes {b B0 H : Nat} {s : ByteArray} {a : Nat} {l : Value} {d : List Tok} {w : World} (hG : Gl w H) (hHb : H ≤ b) (hr : Sc w b s a l) (hown : w.ownsRow B0 50 3 l d.length (cellsT d)) (hok : ∀ t, d.getLast? = some t → okT t) (hn : d.length ≤ 1000000) (hbB : b < B0) (hB : B0 ≤ w.heap.size) (he : endsS d.getLast? = true) :
    Calls Tryz.prog 20 #[.pointer (some ⟨b, 0, none⟩)] w fun e w' => e = .returned (.tuple #[]) ∧ KpB b B0 w w' ∧ ∃ l', Sc w' b s a l' ∧ w'.ownsRow B0 50 3 l' (d ++ [(⟨6, [59], a⟩ : Tok)]).length (cellsT (d ++ [(⟨6, [59], a⟩ : Tok)])) :=
  (end_any hG hHb hr hown hok hn hbB hB).mono fun e w' ⟨h1, h2, h3⟩ => by rw [he] at h3; exact ⟨h1, h2, h3⟩
theorem end_no {b B0 H : Nat} {s : ByteArray} {a : Nat} {l : Value} {d : List Tok} {w : World} (hG : Gl w H) (hHb : H ≤ b) (hr : Sc w b s a l) (hown : w.ownsRow B0 50 3 l d.length (cellsT d)) (hok : ∀ t, d.getLast? = some t → okT t) (hn : d.length ≤ 1000000) (hbB : b < B0) (hB : B0 ≤ w.heap.size) (he : endsS d.getLast? = false) :
    Calls Tryz.prog 20 #[.pointer (some ⟨b, 0, none⟩)] w fun e w' => e = .returned (.tuple #[]) ∧ KpB b B0 w w' ∧ Sc w' b s a l ∧ w'.ownsRow B0 50 3 l d.length (cellsT d) :=
  (end_any hG hHb hr hown hok hn hbB hB).mono fun e w' ⟨h1, h2, h3⟩ => by rw [he] at h3; exact ⟨h1, h2, h3⟩
set_option maxRecDepth 100000 in
set_option maxHeartbeats 1000000 in
theorem one_ws32 {b B0 : Nat} {s : ByteArray} {a n : Nat} {l : Value} {xs : List Value} {w : World} (hr : Sc w b s a l) (hs : s.size ≤ 1000000) (ha : a < s.size) (hown : w.ownsRow B0 50 3 l n xs) (hbB : b < B0) (hc : byteAt s a = 32) :
    Calls Tryz.prog 19 #[.pointer (some ⟨b, 0, none⟩)] w fun e w' => e = .returned (.tuple #[]) ∧ KpB b B0 w w' ∧ Sc w' b s (a + 1) l ∧ w'.ownsRow B0 50 3 l n xs := by
  have hlb : l.ownBlock ≠ some b := fun e => by have := (hown.lt _ e).1; omega
  have HC := Lib.hid hc; clear hc
  have c1 := hr.c1; have f1 := hr.fr 1
  go_enter Tryz.func19, Tryz.ntmps19
  go_wp2_with (go_at_call 28; go_must ((with_reducible refine (now0 hr hs (by omega) HC.out).mono ?_)); rintro e w' ⟨rfl, n0, rfl⟩)
  go_end0
  exact ⟨rfl, ((KpB.refl b B0 w).drewN _).set _ (.inl rfl), (hr.drewN _).set1 (by simp), own_set (own_drewN hown _) hlb 1 _⟩
set_option maxRecDepth 100000 in
set_option maxHeartbeats 1000000 in
theorem one_ws9 {b B0 : Nat} {s : ByteArray} {a n : Nat} {l : Value} {xs : List Value} {w : World} (hr : Sc w b s a l) (hs : s.size ≤ 1000000) (ha : a < s.size) (hown : w.ownsRow B0 50 3 l n xs) (hbB : b < B0) (hc : byteAt s a = 9) :
    Calls Tryz.prog 19 #[.pointer (some ⟨b, 0, none⟩)] w fun e w' => e = .returned (.tuple #[]) ∧ KpB b B0 w w' ∧ Sc w' b s (a + 1) l ∧ w'.ownsRow B0 50 3 l n xs := by
  have hlb : l.ownBlock ≠ some b := fun e => by have := (hown.lt _ e).1; omega
  have HC := Lib.hid hc; clear hc
  have c1 := hr.c1; have f1 := hr.fr 1
  go_enter Tryz.func19, Tryz.ntmps19
  go_wp2_with (go_at_call 28; go_must ((with_reducible refine (now0 hr hs (by omega) HC.out).mono ?_)); rintro e w' ⟨rfl, n0, rfl⟩)
  go_end0
  exact ⟨rfl, ((KpB.refl b B0 w).drewN _).set _ (.inl rfl), (hr.drewN _).set1 (by simp), own_set (own_drewN hown _) hlb 1 _⟩
set_option maxRecDepth 100000 in
set_option maxHeartbeats 1000000 in
theorem one_ws13 {b B0 : Nat} {s : ByteArray} {a n : Nat} {l : Value} {xs : List Value} {w : World} (hr : Sc w b s a l) (hs : s.size ≤ 1000000) (ha : a < s.size) (hown : w.ownsRow B0 50 3 l n xs) (hbB : b < B0) (hc : byteAt s a = 13) :
    Calls Tryz.prog 19 #[.pointer (some ⟨b, 0, none⟩)] w fun e w' => e = .returned (.tuple #[]) ∧ KpB b B0 w w' ∧ Sc w' b s (a + 1) l ∧ w'.ownsRow B0 50 3 l n xs := by
  have hlb : l.ownBlock ≠ some b := fun e => by have := (hown.lt _ e).1; omega
  have HC := Lib.hid hc; clear hc
  have c1 := hr.c1; have f1 := hr.fr 1
  go_enter Tryz.func19, Tryz.ntmps19
  go_wp2_with (go_at_call 28; go_must ((with_reducible refine (now0 hr hs (by omega) HC.out).mono ?_)); rintro e w' ⟨rfl, n0, rfl⟩)
  go_end0
  exact ⟨rfl, ((KpB.refl b B0 w).drewN _).set _ (.inl rfl), (hr.drewN _).set1 (by simp), own_set (own_drewN hown _) hlb 1 _⟩
set_option maxRecDepth 100000 in
set_option maxHeartbeats 1000000 in
theorem one_com {b B0 : Nat} {s : ByteArray} {a n : Nat} {l : Value} {xs : List Value} {w : World} (hr : Sc w b s a l) (hs : s.size ≤ 1000000) (ha : a < s.size) (hown : w.ownsRow B0 50 3 l n xs) (hbB : b < B0) (hc : byteAt s a = 47) (hc1 : byteAt s (a + 1) = 47) :
    Calls Tryz.prog 19 #[.pointer (some ⟨b, 0, none⟩)] w fun e w' => e = .returned (.tuple #[]) ∧ KpB b B0 w w' ∧ Sc w' b s (a + overL (rest s a)) l ∧ w'.ownsRow B0 50 3 l n xs := by
  have hlb : l.ownBlock ≠ some b := fun e => by have := (hown.lt _ e).1; omega
  have HC := Lib.hid hc; have HC1 := Lib.hid hc1; clear hc hc1
  go_enter Tryz.func19, Tryz.ntmps19
  go_wp2_with (first | (go_at_call 28; (with_reducible refine (now0 hr hs (by omega) HC.out).mono ?_); rintro e w' ⟨rfl, n0, rfl⟩) | (go_at_call 28; (with_reducible refine (now1 (hr.drewN _) hs (by omega) HC1.out).mono ?_); rintro e w' ⟨rfl, n1, rfl⟩) | (go_at_call 29; go_must (refine (run_nl (hr.drewN _) hs (Nat.le_of_lt ha)).mono ?_); rintro e w2 ⟨rfl, hr2, hg2⟩))
  go_end0
  exact ⟨rfl, ((KpB.refl b B0 w).drewN _).grb hg2, hr2, (own_drewN hown _).kept hg2 (.inr hlb)⟩
set_option maxRecDepth 100000 in
set_option maxHeartbeats 1000000 in
theorem one_nl_t {b B0 H : Nat} {s : ByteArray} {a : Nat} {l : Value} {d : List Tok} {w : World} (hG : Gl w H) (hHb : H ≤ b) (hr : Sc w b s a l) (hs : s.size ≤ 1000000) (ha : a < s.size) (hown : w.ownsRow B0 50 3 l d.length (cellsT d)) (hok : ∀ t, d.getLast? = some t → okT t) (hn : d.length ≤ 1000000) (hbB : b < B0) (hB : B0 ≤ w.heap.size) (he : endsS d.getLast? = true) (hc : byteAt s a = 10) :
    Calls Tryz.prog 19 #[.pointer (some ⟨b, 0, none⟩)] w fun e w' => e = .returned (.tuple #[]) ∧ KpB b B0 w w' ∧ ∃ l', Sc w' b s (a + 1) l' ∧ w'.ownsRow B0 50 3 l' (d ++ [(⟨6, [59], a⟩ : Tok)]).length (cellsT (d ++ [(⟨6, [59], a⟩ : Tok)])) := by
  have HC := Lib.hid hc; have HE := Lib.hid he; have HO := Lib.hid hok; clear hc he hok
  go_enter Tryz.func19, Tryz.ntmps19
  go_wp2_with (first | (go_at_call 28; (with_reducible refine (now0 hr hs (by omega) HC.out).mono ?_); rintro e w' ⟨rfl, n0, rfl⟩) | (go_at_call 20; go_must (refine (end_yes (hG.drewN _) hHb (hr.drewN _) (own_drewN hown _) HO.out hn hbB hB HE.out).mono ?_); rintro e w2 ⟨rfl, hk2, l', hr2, ho2⟩; have c1 := hr2.c1; have f1 := hr2.fr 1))
  go_end0
  exact ⟨rfl, (((KpB.refl b B0 w).drewN _).trans hk2).set _ (.inl rfl), ⟨l', hr2.set1 (by simp), own_set ho2 (fun e => by have := (ho2.lt _ e).1; omega) 1 _⟩⟩
set_option maxRecDepth 100000 in
set_option maxHeartbeats 1000000 in
theorem one_nl_f {b B0 H : Nat} {s : ByteArray} {a : Nat} {l : Value} {d : List Tok} {w : World} (hG : Gl w H) (hHb : H ≤ b) (hr : Sc w b s a l) (hs : s.size ≤ 1000000) (ha : a < s.size) (hown : w.ownsRow B0 50 3 l d.length (cellsT d)) (hok : ∀ t, d.getLast? = some t → okT t) (hn : d.length ≤ 1000000) (hbB : b < B0) (hB : B0 ≤ w.heap.size) (he : endsS d.getLast? = false) (hc : byteAt s a = 10) :
    Calls Tryz.prog 19 #[.pointer (some ⟨b, 0, none⟩)] w fun e w' => e = .returned (.tuple #[]) ∧ KpB b B0 w w' ∧ Sc w' b s (a + 1) l ∧ w'.ownsRow B0 50 3 l d.length (cellsT d) := by
  have HC := Lib.hid hc; have HE := Lib.hid he; have HO := Lib.hid hok; clear hc he hok
  go_enter Tryz.func19, Tryz.ntmps19
  go_wp2_with (first | (go_at_call 28; (with_reducible refine (now0 hr hs (by omega) HC.out).mono ?_); rintro e w' ⟨rfl, n0, rfl⟩) | (go_at_call 20; go_must (refine (end_no (hG.drewN _) hHb (hr.drewN _) (own_drewN hown _) HO.out hn hbB hB HE.out).mono ?_); rintro e w2 ⟨rfl, hk2, hr2, ho2⟩; have c1 := hr2.c1; have f1 := hr2.fr 1))
  go_end0
  exact ⟨rfl, (((KpB.refl b B0 w).drewN _).trans hk2).set _ (.inl rfl), ⟨hr2.set1 (by simp), own_set ho2 (fun e => by have := (ho2.lt _ e).1; omega) 1 _⟩⟩
set_option maxRecDepth 100000 in
set_option maxHeartbeats 1000000 in
theorem one_tok_a {b B0 H : Nat} {s : ByteArray} {a n ch : Nat} {l : Value} {xs : List Value} {w : World} (hG : Gl w H) (hHb : H ≤ b) (hr : Sc w b s a l) (hs : s.size ≤ 1000000) (ha : a < s.size) (hown : w.ownsRow B0 50 3 l n xs) (hn : n ≤ 1000000) (hbB : b < B0) (hB : B0 ≤ w.heap.size) (hc : byteAt s a = ch) (h10 : ch ≠ 10) (h32 : ch ≠ 32) (h9 : ch ≠ 9) (h13 : ch ≠ 13) (h47 : ch ≠ 47) :
    Calls Tryz.prog 19 #[.pointer (some ⟨b, 0, none⟩)] w (TokPost b B0 s a n xs w) := by
  have e10 : ((ch : Int) == 10) = false := beq_eq_false_iff_ne.2 (by omega)
  have e32 : ((ch : Int) == 32) = false := beq_eq_false_iff_ne.2 (by omega)
  have e9 : ((ch : Int) == 9) = false := beq_eq_false_iff_ne.2 (by omega)
  have e13 : ((ch : Int) == 13) = false := beq_eq_false_iff_ne.2 (by omega)
  have e47 : ((ch : Int) == 47) = false := beq_eq_false_iff_ne.2 (by omega)
  clear h47
  have HC := Lib.hid hc; clear hc h10 h32 h9 h13
  cases ht : tokS (rest s a) with
  | bad x =>
    have HT := Lib.hid ht; clear ht
    go_enter Tryz.func19, Tryz.ntmps19
    go_wp2_with (first | (go_at_call 28; (with_reducible refine (now0 hr hs (by omega) HC.out).mono ?_); rintro e w' ⟨rfl, n0, rfl⟩) | (go_at_call 31; go_must (refine (token_any (hG.drewN _) hHb (hr.drewN _) hs ha (own_drewN hown _) hn hbB hB).mono ?_); intro e w2 hp; unfold TokPost at hp; rw [HT.out] at hp; obtain ⟨rfl, hk2⟩ := hp))
    exact ⟨rfl, TokPost.bad HT.out rfl (((KpB.refl b B0 w).drewN _).trans hk2)⟩
  | good k t m =>
    have HT := Lib.hid ht; clear ht
    go_enter Tryz.func19, Tryz.ntmps19
    go_wp2_with (first | (go_at_call 28; (with_reducible refine (now0 hr hs (by omega) HC.out).mono ?_); rintro e w' ⟨rfl, n0, rfl⟩) | (go_at_call 31; go_must (refine (token_any (hG.drewN _) hHb (hr.drewN _) hs ha (own_drewN hown _) hn hbB hB).mono ?_); intro e w2 hp; unfold TokPost at hp; rw [HT.out] at hp; obtain ⟨rfl, l', hr2, ho2, hk2⟩ := hp))
    go_end0
    unfold TokPost
    rw [HT.out]
    exact ⟨rfl, l', hr2, ho2, ((KpB.refl b B0 w).drewN _).trans hk2⟩
set_option maxRecDepth 100000 in
set_option maxHeartbeats 1000000 in
theorem one_tok_b {b B0 H : Nat} {s : ByteArray} {a n ch c1 : Nat} {l : Value} {xs : List Value} {w : World} (hG : Gl w H) (hHb : H ≤ b) (hr : Sc w b s a l) (hs : s.size ≤ 1000000) (ha : a < s.size) (hown : w.ownsRow B0 50 3 l n xs) (hn : n ≤ 1000000) (hbB : b < B0) (hB : B0 ≤ w.heap.size) (hc : byteAt s a = ch) (h47 : ch = 47) (hc1 : byteAt s (a + 1) = c1) (hn47 : c1 ≠ 47) :
    Calls Tryz.prog 19 #[.pointer (some ⟨b, 0, none⟩)] w (TokPost b B0 s a n xs w) := by
  have e10 : ((ch : Int) == 10) = false := beq_eq_false_iff_ne.2 (by omega)
  have e32 : ((ch : Int) == 32) = false := beq_eq_false_iff_ne.2 (by omega)
  have e9 : ((ch : Int) == 9) = false := beq_eq_false_iff_ne.2 (by omega)
  have e13 : ((ch : Int) == 13) = false := beq_eq_false_iff_ne.2 (by omega)
  have e47 : ((ch : Int) == 47) = true := by rw [h47]; rfl
  have f47 : ((c1 : Int) == 47) = false := beq_eq_false_iff_ne.2 (by omega)
  have H47 := Lib.hid h47; have HC1 := Lib.hid hc1; clear h47 hc1 hn47
  have HC := Lib.hid hc; clear hc
  cases ht : tokS (rest s a) with
  | bad x =>
    have HT := Lib.hid ht; clear ht
    go_enter Tryz.func19, Tryz.ntmps19
    go_wp2_with (first | (go_at_call 28; (with_reducible refine (now0 hr hs (by omega) HC.out).mono ?_); rintro e w' ⟨rfl, n0, rfl⟩) | (go_at_call 28; (with_reducible refine (now1 (hr.drewN _) hs (by omega) HC1.out).mono ?_); rintro e w' ⟨rfl, n1, rfl⟩) | (go_at_call 31; go_must (refine (token_any (hG.drewN _) hHb (hr.drewN _) hs ha (own_drewN hown _) hn hbB hB).mono ?_); intro e w2 hp; unfold TokPost at hp; rw [HT.out] at hp; obtain ⟨rfl, hk2⟩ := hp))
    exact ⟨rfl, TokPost.bad HT.out rfl (((KpB.refl b B0 w).drewN _).trans hk2)⟩
  | good k t m =>
    have HT := Lib.hid ht; clear ht
    go_enter Tryz.func19, Tryz.ntmps19
    go_wp2_with (first | (go_at_call 28; (with_reducible refine (now0 hr hs (by omega) HC.out).mono ?_); rintro e w' ⟨rfl, n0, rfl⟩) | (go_at_call 28; (with_reducible refine (now1 (hr.drewN _) hs (by omega) HC1.out).mono ?_); rintro e w' ⟨rfl, n1, rfl⟩) | (go_at_call 31; go_must (refine (token_any (hG.drewN _) hHb (hr.drewN _) hs ha (own_drewN hown _) hn hbB hB).mono ?_); intro e w2 hp; unfold TokPost at hp; rw [HT.out] at hp; obtain ⟨rfl, l', hr2, ho2, hk2⟩ := hp))
    go_end0
    unfold TokPost
    rw [HT.out]
    exact ⟨rfl, l', hr2, ho2, ((KpB.refl b B0 w).drewN _).trans hk2⟩
end Go.Proofs.YtopbhopblpfjpaaGreatDoor.ScanJ
