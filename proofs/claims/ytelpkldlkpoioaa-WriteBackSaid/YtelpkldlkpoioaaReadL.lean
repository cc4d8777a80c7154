/- The reader of grammars' texts: a token that is one of some texts. -/
import Derived.Test.YtelpkldlkpoioaaReadK
namespace Go.Proofs.Ytelpkldlkpoioaa.ReadL
open Go.RowKit Go.Proofs.Ytelpkldlkpoioaa.Lexy Go.Proofs.Ytelpkldlkpoioaa.LexA Go.Proofs.Ytelpkldlkpoioaa.LexB Go.Proofs.Ytelpkldlkpoioaa.LexC Go.Proofs.Ytelpkldlkpoioaa.LexD Go.Proofs.Ytelpkldlkpoioaa.LexE Go.Proofs.Ytelpkldlkpoioaa.LexF Go.Proofs.Ytelpkldlkpoioaa.LexG Go.Proofs.Ytelpkldlkpoioaa.Heap Go.Proofs.Ytelpkldlkpoioaa.Dat Go.Proofs.Ytelpkldlkpoioaa.Ready Go.Proofs.Ytelpkldlkpoioaa.ReadA Go.Proofs.Ytelpkldlkpoioaa.ReadB Go.Proofs.Ytelpkldlkpoioaa.ReadC

theorem bs_inj {x t : List UInt8} (h : bs x = bs t) : x = t := by
  have := congrArg (fun y => y.data.toList) h; simpa [bs] using this
theorem contains_texts (ts : List (List UInt8)) (x : List UInt8) : Lib.containsS ((ts.map bs).take ts.length) (bs x) = decide (x ∈ ts) := by
  rw [List.take_of_length_le (by simp)]
  by_cases h : x ∈ ts
  · rw [decide_eq_true h]; exact (Lib.containsS_iff _ _).2 (List.mem_map_of_mem h)
  · rw [decide_eq_false h]
    refine Bool.eq_false_iff.2 fun e => h ?_
    obtain ⟨y, hy, he⟩ := List.mem_map.1 ((Lib.containsS_iff _ _).1 e)
    rw [← bs_inj he]; exact hy
/-- texts as they lie in a block -/
def Texts (w : World) (gt : Nat) (ts : List (List UInt8)) : Prop := ∀ j, j < (ts.map bs).length → w.cell? ⟨gt, 0 + j, none⟩ = some (.string ((ts.map bs).getD j ByteArray.empty))
theorem Texts.below {w w' : World} {gt : Nat} {ts : List (List UInt8)} (h : Texts w gt ts) (hb : Below w.heap.size w w') : Texts w' gt ts := fun j hj => (hb.cell (p := ⟨gt, 0 + j, none⟩) (World.block_lt_of_cell? _ _ (h j hj))).trans (h j hj)
def isTs (T : List Tok) (k kind : Nat) (ts : List (List UInt8)) : Bool := decide ((tok T k).kind = kind) && decide ((tok T k).text ∈ ts)
set_option maxRecDepth 100000 in
set_option maxHeartbeats 2000000 in
theorem is_texts {w : World} {b g c gt cp n : Nat} {T : List Tok} {k kind : Nat} {kz : Int} {ts : List (List UInt8)} {v : Bool} (h : Rr w b g c T k) (hk : k < T.length) (hT : T.length ≤ 1000000) (hc : Texts w gt ts) (hn : n = ts.length) (h1 : 0 < n) (h2 : n ≤ 100) (hv : isTs T k kind ts = v) (hz : kz = (kind : Int)) :
    Calls Try.prog 35 #[.pointer (some ⟨b, 0, none⟩), .int .u8 kz, .slice (some ⟨gt, 0, none⟩) n cp] w fun e w' => e = .returned (.bool v) ∧ Below w.heap.size w w' := by
  subst hz
  obtain ⟨kd, hkd⟩ : ∃ x, (tok T k).kind = x := ⟨_, rfl⟩
  obtain ⟨tx, htx⟩ : ∃ x, (tok T k).text = x := ⟨_, rfl⟩
  obtain ⟨pa, hpa⟩ : ∃ x, (tok T k).at_ = x := ⟨_, rfl⟩
  have hnx := Lib.hid (next_is h hk hT hkd (congrArg bs htx) hpa)
  have HV := Lib.hid (show (decide (kd = kind) && decide (tx ∈ ts)) = v by rw [← hkd, ← htx]; exact hv)
  have HC := Lib.hid hc
  have HL := Lib.hid hn
  have hn0 : ((n : Int) == 0) = false := beq_eq_false_iff_ne.2 (by omega)
  clear h hkd htx hpa hv hc hn
  by_cases hd : kd = kind
  · have e1 : ((kd : Int) == (kind : Int)) = true := by rw [hd]; exact beq_iff_eq.2 rfl
    have HV2 := Lib.hid (show Lib.containsS ((ts.map bs).take n) (bs tx) = v by rw [HL.out, contains_texts, ← HV.out, decide_eq_true hd]; rfl)
    clear HV hd
    go_enter Try.func35, Try.ntmps35
    go_wp2_with (first | (go_at_call 59; go_must ((with_reducible refine (hnx.out).mono ?_)); rintro e w1 ⟨rfl, hb1⟩; have hsz := hb1.size; have HC1 := Lib.hid ((HC.out.below hb1).below ((Below.refl _ _).alloc (Nat.le_refl _) (.cells #[.int .u8 (kd : Int), .string (bs tx), .int .i64 (pa : Int)] 31)))) | (go_at_call 60; go_must (refine (Try.slices_Contains_string gt 0 n cp (ts.map bs) (bs tx) _ (by rw [HL.out]; simp) (by omega) HC1.out).mono ?_); rintro e w' ⟨rfl, rfl⟩))
    go_ret
    exact ⟨congrArg (fun x => Ending.returned (.bool x)) HV2.out, hb1.alloc hb1.size _⟩
  · have e1 : ((kd : Int) == (kind : Int)) = false := beq_eq_false_iff_ne.2 (by omega)
    have hv' : v = false := by rw [← HV.out, decide_eq_false hd]; rfl
    subst hv'
    clear HV hd
    go_enter Try.func35, Try.ntmps35
    go_wp2_with (go_at_call 59; go_must ((with_reducible refine (hnx.out).mono ?_)); rintro e w1 ⟨rfl, hb1⟩)
    go_ret
    exact ⟨rfl, hb1.alloc hb1.size _⟩
set_option maxRecDepth 100000 in
set_option maxHeartbeats 2000000 in
theorem take_texts {w : World} {b g c gt cp n : Nat} {T : List Tok} {k kind : Nat} {kz : Int} {ts : List (List UInt8)} {v : Bool} (h : Rr w b g c T k) (hk : k < T.length) (hT : T.length ≤ 1000000) (hc : Texts w gt ts) (hn : n = ts.length) (h1 : 0 < n) (h2 : n ≤ 100) (hv : isTs T k kind ts = v) (hz : kz = (kind : Int)) :
    Calls Try.prog 62 #[.pointer (some ⟨b, 0, none⟩), .int .u8 kz, .slice (some ⟨gt, 0, none⟩) n cp] w fun e w' => e = .returned (.bool v) ∧ w.grownBy w' (some b) ∧ Rr w' b g c T (if v then k + 1 else k) := by
  subst hz
  have hi := Lib.hid (is_texts (cp := cp) h hk hT hc hn h1 h2 hv rfl)
  have HR := Lib.hid h
  clear hv h hc hn
  cases v with
  | true =>
    go_enter Try.func62, Try.ntmps62
    go_wp2_with (go_at_call 35; go_must ((with_reducible refine (hi.out).mono ?_)); rintro e w1 ⟨rfl, hb1⟩; have hR1 := HR.out.new hb1; have c1 := hR1.c1; have f1 := hR1.f1)
    go_ret
    exact ⟨rfl, kept_b hb1 (Heap.grown_set _ ⟨b, 1, none⟩ _), hR1.go (by push_cast; rfl)⟩
  | false =>
    go_enter Try.func62, Try.ntmps62
    go_wp2_with (go_at_call 35; go_must ((with_reducible refine (hi.out).mono ?_)); rintro e w1 ⟨rfl, hb1⟩)
    go_ret
    exact ⟨rfl, grown_below hb1 _, HR.out.new hb1⟩
def MustQ (w : World) (b g c : Nat) (T : List Tok) (k : Nat) : Bool → Ending → World → Prop
  | true, e, w' => e = .returned (.string (bs (tok T k).text)) ∧ w.grownBy w' (some b) ∧ Rr w' b g c T (k + 1)
  | false, e, w' => e = .panicked (thrownF 102 ((tok T k).at_ : Int)) ∧ w.grownBy w' (some b)
set_option maxRecDepth 100000 in
set_option maxHeartbeats 2000000 in
theorem must_texts {w : World} {b g c gt cp n : Nat} {T : List Tok} {k kind : Nat} {kz : Int} {ts : List (List UInt8)} {v : Bool} (h : Rr w b g c T k) (hk : k < T.length) (hT : T.length ≤ 1000000) (hc : Texts w gt ts) (hn : n = ts.length) (h1 : 0 < n) (h2 : n ≤ 100) (hv : isTs T k kind ts = v) (hz : kz = (kind : Int)) :
    Calls Try.prog 37 #[.pointer (some ⟨b, 0, none⟩), .int .u8 kz, .slice (some ⟨gt, 0, none⟩) n cp] w (MustQ w b g c T k v) := by
  subst hz
  obtain ⟨kd, hkd⟩ : ∃ x, (tok T k).kind = x := ⟨_, rfl⟩
  obtain ⟨tx, htx⟩ : ∃ x, bs (tok T k).text = x := ⟨_, rfl⟩
  obtain ⟨pa, hpa⟩ : ∃ x, (tok T k).at_ = x := ⟨_, rfl⟩
  have hnx := Lib.hid (next_is h hk hT hkd htx hpa)
  have HR := Lib.hid h; have HV := Lib.hid hv; have HC := Lib.hid hc; have HL := Lib.hid hn; have HPA := Lib.hid hpa
  have HTX := Lib.hid htx
  clear h hkd htx hpa hv hc hn
  cases v with
  | true =>
    go_enter Try.func37, Try.ntmps37
    go_wp2_with (first | (go_at_call 59; go_must ((with_reducible refine (hnx.out).mono ?_)); rintro e w1 ⟨rfl, hb1⟩; have hbx := hb1.alloc hb1.size (.cells #[.int .u8 (kd : Int), .string tx, .int .i64 (pa : Int)] 31); have hR1 := Lib.hid (HR.out.new hbx); have hcell := heap_alloc_new w1 (.cells #[.int .u8 (kd : Int), .string tx, .int .i64 (pa : Int)] 31); have hbz := HR.out.bl; have hsz := hb1.size; have HC1 := Lib.hid (HC.out.below hbx)) | (go_at_call 62; go_must ((with_reducible refine (take_texts (cp := cp) hR1.out hk hT HC1.out HL.out h1 h2 HV.out rfl).mono ?_)); rintro e w2 ⟨rfl, hg2, hR2⟩; have hcell2 := (hg2.block _ (by simp) (by simp; omega)).trans hcell; have d1 := cell_of_row w2 _ 1 _ _ _ hcell2))
    go_ret
    have HTX2 := HTX.out; subst HTX2; exact ⟨rfl, kept_b hbx hg2, hR2⟩
  | false =>
    go_enter Try.func37, Try.ntmps37
    go_wp2_with (first | (go_at_call 59; go_must ((with_reducible refine (hnx.out).mono ?_)); rintro e w1 ⟨rfl, hb1⟩; have hbx := hb1.alloc hb1.size (.cells #[.int .u8 (kd : Int), .string tx, .int .i64 (pa : Int)] 31); have hR1 := Lib.hid (HR.out.new hbx); have hcell := heap_alloc_new w1 (.cells #[.int .u8 (kd : Int), .string tx, .int .i64 (pa : Int)] 31); have hbz := HR.out.bl; have hsz := hb1.size; have HC1 := Lib.hid (HC.out.below hbx)) | (go_at_call 62; go_must ((with_reducible refine (take_texts (cp := cp) hR1.out hk hT HC1.out HL.out h1 h2 HV.out rfl).mono ?_)); rintro e w2 ⟨rfl, hg2, hR2⟩; have HR2 := Lib.hid (show Rr w2 b g c T k from hR2); clear hR2) | (go_at_call 63; go_must (refine (throw_any HR2.out hk hT).mono ?_); rintro e w3 ⟨rfl, hb4⟩))
    exact ⟨rfl, rfl, Heap.grown_trans (kept_b hbx hg2) (grown_below hb4 _)⟩
end Go.Proofs.Ytelpkldlkpoioaa.ReadL
