/- gristmillkit's comparisons of grammars' texts, at equal data. -/
import Derived.Test.YtghebacphjglbaaGreatTxD
namespace Go.Proofs.YtghebacphjglbaaGreat.Same
open Go.RowKit Go.Proofs.YtghebacphjglbaaGreat.Lexy Go.Proofs.YtghebacphjglbaaGreat.LexA Go.Proofs.YtghebacphjglbaaGreat.LexB Go.Proofs.YtghebacphjglbaaGreat.LexC Go.Proofs.YtghebacphjglbaaGreat.LexD Go.Proofs.YtghebacphjglbaaGreat.LexE Go.Proofs.YtghebacphjglbaaGreat.LexF Go.Proofs.YtghebacphjglbaaGreat.LexG Go.Proofs.YtghebacphjglbaaGreat.Heap Go.Proofs.YtghebacphjglbaaGreat.Dat Go.Proofs.YtghebacphjglbaaGreat.Ready Go.Proofs.YtghebacphjglbaaGreat.ReadC Go.Proofs.YtghebacphjglbaaGreat.ReadH Go.Proofs.YtghebacphjglbaaGreat.ReadI Go.Proofs.YtghebacphjglbaaGreat.ReadM Go.Proofs.YtghebacphjglbaaGreat.ReadO

set_option maxHeartbeats 1000000 in
theorem same_texts {l : List (List UInt8)} {w : World} {s1 s2 : Value} (h1 : Reads w (.row 9 1 l.length (nmsD l)) s1) (h2 : Reads w (.row 9 1 l.length (nmsD l)) s2) :
    Calls Tryz.prog 76 #[s1, s2] w fun e w' => e = .returned (.bool true) ∧ Below w.heap.size w w' := by
  have hlen := Reads.len h1
  obtain ⟨a1, c1, rfl⟩ := Reads.slice h1
  obtain ⟨a2, c2, rfl⟩ := Reads.slice h2
  have H1 := Lib.hid h1; have H2 := Lib.hid h2; clear h1 h2
  go_enter Tryz.func76, Tryz.ntmps76
  go_wp2
  go_loopg [5] l.length (fun gk i wr => ∃ (k n : Nat), k ≤ l.length ∧ gk = l.length - k ∧ i = .int .i64 (k : Int) ∧ wr = w.drewN n)
  case atStart => exact ⟨0, 0, by omega, by omega, rfl, rfl⟩
  case round =>
    obtain ⟨k, n, hk, rfl, rfl, rfl⟩ := hrel
    by_cases hlt : k < l.length
    · obtain ⟨b1, o1, rfl, r1⟩ := Reads.elems H1.out (by omega)
      obtain ⟨b2, o2, rfl, r2⟩ := Reads.elems H2.out (by omega)
      have d1 := name_cell r1 hlt
      have d2 := name_cell r2 hlt
      generalize l[k] = x at d1 d2
      clear r1 r2 H1 H2
      have j0 : (0 : Int) ≤ (k : Int) := by omega
      have j1 : (k : Int) < (l.length : Int) := by omega
      go_wp2
      go_quiet (fail)
      go_wp2
      go_roundg (l.length - (k + 1))
      case measure => omega
      case rel => exact ⟨k + 1, _, by omega, rfl, by go_num, rfl⟩
    · go_wp2
      go_ret
      exact ⟨rfl, (Below.refl _ _).drewN _⟩

theorem bcell {W w1 : World} (hb : Below W.heap.size W w1) : ∀ b o, b < W.heap.size → w1.cell? ⟨b, o, none⟩ = W.cell? ⟨b, o, none⟩ := fun b o h => hb.cell (p := ⟨b, o, none⟩) h
/-- the comparison of a word with one that is the same -/
def SameW (x : Wd) : Prop := ∀ (w : World) (s1 s2 : Value) (n : List UInt8) (ws : List Wd) (p : Int), x = .mk n ws p → Reads w (.row 33 3 ws.length (wdsD ws)) s1 → Reads w (.row 33 3 ws.length (wdsD ws)) s2 →
  Calls Tryz.prog 116 #[.agg #[.string (bs n), s1, .int .i64 (p : Int)], .agg #[.string (bs n), s2, .int .i64 (p : Int)]] w fun e w' => e = .returned (.bool true) ∧ Below w.heap.size w w'
def SameWs (l : List Wd) : Prop := ∀ (w : World) (s1 s2 : Value), Reads w (.row 33 3 l.length (wdsD l)) s1 → Reads w (.row 33 3 l.length (wdsD l)) s2 →
  Calls Tryz.prog 104 #[s1, s2] w fun e w' => e = .returned (.bool true) ∧ Below w.heap.size w w'
set_option maxRecDepth 100000 in
set_option maxHeartbeats 1000000 in
theorem same_word {n : List UInt8} {ws : List Wd} {p : Int} (hs : SameWs ws) : SameW (.mk n ws p) := by
  rintro w s1 s2 n' ws' p' hx h1 h2
  cases hx
  obtain ⟨a1, c1, rfl⟩ := Reads.slice h1
  obtain ⟨a2, c2, rfl⟩ := Reads.slice h2
  have HS := Lib.hid hs; clear hs
  have hb0 := ((Below.refl _ w).alloc (Nat.le_refl _) (.cells #[.string (bs n), .slice a1 ws.length c1, .int .i64 (p : Int)] 33)).alloc (by simp) (.cells #[.string (bs n), .slice a2 ws.length c2, .int .i64 (p : Int)] 33)
  have H1 := Lib.hid (Reads.below hb0 h1); have H2 := Lib.hid (Reads.below hb0 h2); clear h1 h2
  go_enter Tryz.func116, Tryz.ntmps116
  go_wp2_with (go_at_call 104; go_must (refine (HS.out _ _ _ H1.out H2.out).mono ?_); rintro e w1 ⟨rfl, hb1⟩; have hcc := bcell hb1; have hsz := hb1.size)
  go_ret
  exact ⟨rfl, hb0.trans (hb1.mono (by simp <;> omega))⟩
/-! the rest is printed by same_gen.py -/
theorem wd_eta (x : Wd) : x = .mk (match x with | .mk n _ _ => n) (match x with | .mk _ ws _ => ws) (match x with | .mk _ _ p => p) := by cases x; rfl

set_option maxRecDepth 100000 in
set_option maxHeartbeats 1000000 in
theorem same_words_of {l : List Wd} (hx : ∀ x ∈ l, SameW x) {w : World} {s1 s2 : Value} (h1 : Reads w (.row 33 3 l.length (wdsD l)) s1) (h2 : Reads w (.row 33 3 l.length (wdsD l)) s2) :
    Calls Tryz.prog 104 #[s1, s2] w fun e w' => e = .returned (.bool true) ∧ Below w.heap.size w w' := by
  have hlen := Reads.len h1
  obtain ⟨a1, c1, rfl⟩ := Reads.slice h1
  obtain ⟨a2, c2, rfl⟩ := Reads.slice h2
  have H1 := Lib.hid h1; have H2 := Lib.hid h2; clear h1 h2
  have HX := Lib.hid hx; clear hx
  go_enter Tryz.func104, Tryz.ntmps104
  go_wp2
  go_loopg [5] l.length (fun gk i wr => ∃ k : Nat, k ≤ l.length ∧ gk = l.length - k ∧ i = .int .i64 (k : Int) ∧ Below w.heap.size w wr)
  case atStart => exact ⟨0, by omega, by omega, rfl, Below.refl _ _⟩
  case round =>
    obtain ⟨k, hk, rfl, rfl, hbw⟩ := hrel
    by_cases hlt : k < l.length
    · have q1 := Reads.below hbw H1.out
      have q2 := Reads.below hbw H2.out
      obtain ⟨b1, o1, rfl, r1⟩ := Reads.elems q1 (by omega)
      obtain ⟨b2, o2, rfl, r2⟩ := Reads.elems q2 (by omega)
      obtain ⟨n, ws, p, hx⟩ : ∃ n ws p, l[k] = .mk n ws p := ⟨_, _, _, (wd_eta l[k])⟩
      obtain ⟨e1, f1, d10, d11, d12, d13⟩ := word_cells r1 hlt hx
      obtain ⟨e2, f2, d20, d21, d22, d23⟩ := word_cells r2 hlt hx
      have HE := Lib.hid (HX.out _ (List.getElem_mem hlt))
      have HH := Lib.hid hx
      have HA := Lib.hid d13; have HB := Lib.hid d23
      have g10 := ext_cell d10; have g11 := ext_cell d11; have g12 := ext_cell d12; have g20 := ext_cell d20; have g21 := ext_cell d21; have g22 := ext_cell d22
      clear d10 d11 d12 d13 d20 d21 d22 d23 hx
      clear r1 r2 q1 q2 H1 H2
      have j0 : (0 : Int) ≤ (k : Int) := by omega
      have j1 : (k : Int) < (l.length : Int) := by omega
      go_wp2_with fail
      refine wp_region_ext (Below wr.heap.size wr) ((Below.refl _ _).drew) (by kernel_rfl) (by kernel_rfl) ?_
      repeat (go_big_quiet_step ((go_at_call 116; exact ext_new (Nat.le_refl _) (HE.out _ _ _ _ _ _ HH.out (ext_reads HA.out _) (ext_reads HB.out _)))))
      refine wpQuiet_nil ?_
      intro _ hw'
      obtain ⟨x, hw''⟩ := hw'
      subst hw''
      go_wp2
      go_roundg (l.length - (k + 1))
      case measure => omega
      case rel => exact ⟨k + 1, by omega, rfl, by go_num, hbw.trans (x.i.mono hbw.size)⟩
    · go_wp2_with fail
      go_ret
      exact ⟨rfl, hbw⟩

mutual
theorem same_w : ∀ x : Wd, SameW x
  | .mk _ ws _ => same_word (fun _ _ _ h1 h2 => same_words_of (same_ws ws) h1 h2)
theorem same_ws : ∀ l : List Wd, ∀ x ∈ l, SameW x
  | [], x, h => by cases h
  | y :: ys, x, h => by
    rcases List.mem_cons.1 h with e | h
    · rw [e]; exact same_w y
    · exact same_ws ys x h
end
theorem same_words {l : List Wd} {w : World} {s1 s2 : Value} (h1 : Reads w (.row 33 3 l.length (wdsD l)) s1) (h2 : Reads w (.row 33 3 l.length (wdsD l)) s2) :
    Calls Tryz.prog 104 #[s1, s2] w fun e w' => e = .returned (.bool true) ∧ Below w.heap.size w w' := same_words_of (same_ws l) h1 h2


set_option maxRecDepth 100000 in
set_option maxHeartbeats 2000000 in
theorem same_alt {x : Al} {w : World} {s10 s20 : Value} (h10 : Reads w (.row 33 3 x.words.length (wdsD x.words)) s10) (h20 : Reads w (.row 33 3 x.words.length (wdsD x.words)) s20) :
    Calls Tryz.prog 90 #[.agg #[s10, .string (bs x.prec), .bool x.has, .string (bs x.action), .int .i64 (x.whr : Int), .int .i64 (x.at_ : Int)], .agg #[s20, .string (bs x.prec), .bool x.has, .string (bs x.action), .int .i64 (x.whr : Int), .int .i64 (x.at_ : Int)]] w fun e w' => e = .returned (.bool true) ∧ Below w.heap.size w w' := by
  obtain ⟨a10, c10, rfl⟩ := Reads.slice h10
  obtain ⟨a20, c20, rfl⟩ := Reads.slice h20
  have hb0 := ((Below.refl _ w).alloc (Nat.le_refl _) (.cells #[.slice a10 x.words.length c10, .string (bs x.prec), .bool x.has, .string (bs x.action), .int .i64 (x.whr : Int), .int .i64 (x.at_ : Int)] 35)).alloc (by simp) (.cells #[.slice a20 x.words.length c20, .string (bs x.prec), .bool x.has, .string (bs x.action), .int .i64 (x.whr : Int), .int .i64 (x.at_ : Int)] 35)
  have H10 := Lib.hid (Reads.below hb0 h10); clear h10
  have H20 := Lib.hid (Reads.below hb0 h20); clear h20
  go_enter Tryz.func90, Tryz.ntmps90
  go_wp2_with (go_at_call 104; go_must (refine (same_words H10.out H20.out).mono ?_); rintro e w1 ⟨rfl, hb1⟩; have hbc0 := hb1; have hcc0 := bcell hbc0; have hsz0 := hbc0.size)
  go_ret
  exact ⟨rfl, hb0.trans (hbc0.mono (by simp <;> omega))⟩

set_option maxRecDepth 100000 in
set_option maxHeartbeats 1000000 in
theorem same_alts {l : List Al} {w : World} {s1 s2 : Value} (h1 : Reads w (.row 35 6 l.length (alsD l)) s1) (h2 : Reads w (.row 35 6 l.length (alsD l)) s2) :
    Calls Tryz.prog 78 #[s1, s2] w fun e w' => e = .returned (.bool true) ∧ Below w.heap.size w w' := by
  have hlen := Reads.len h1
  obtain ⟨a1, c1, rfl⟩ := Reads.slice h1
  obtain ⟨a2, c2, rfl⟩ := Reads.slice h2
  have H1 := Lib.hid h1; have H2 := Lib.hid h2; clear h1 h2
  go_enter Tryz.func78, Tryz.ntmps78
  go_wp2
  go_loopg [5] l.length (fun gk i wr => ∃ k : Nat, k ≤ l.length ∧ gk = l.length - k ∧ i = .int .i64 (k : Int) ∧ Below w.heap.size w wr)
  case atStart => exact ⟨0, by omega, by omega, rfl, Below.refl _ _⟩
  case round =>
    obtain ⟨k, hk, rfl, rfl, hbw⟩ := hrel
    by_cases hlt : k < l.length
    · have q1 := Reads.below hbw H1.out
      have q2 := Reads.below hbw H2.out
      obtain ⟨b1, o1, rfl, r1⟩ := Reads.elems q1 (by omega)
      obtain ⟨b2, o2, rfl, r2⟩ := Reads.elems q2 (by omega)
      obtain ⟨e10, f10, d10, d11, d12, d13, d14, d15, m10⟩ := alt_cells r1 hlt
      obtain ⟨e20, f20, d20, d21, d22, d23, d24, d25, m20⟩ := alt_cells r2 hlt
      generalize l[k] = y at *
      have M10 := Lib.hid m10
      have M20 := Lib.hid m20
      have g10 := ext_cell d10
      have g11 := ext_cell d11
      have g12 := ext_cell d12
      have g13 := ext_cell d13
      have g14 := ext_cell d14
      have g15 := ext_cell d15
      have g20 := ext_cell d20
      have g21 := ext_cell d21
      have g22 := ext_cell d22
      have g23 := ext_cell d23
      have g24 := ext_cell d24
      have g25 := ext_cell d25
      clear d10 d11 d12 d13 d14 d15 d20 d21 d22 d23 d24 d25 m10 m20
      clear r1 r2 q1 q2 H1 H2
      have j0 : (0 : Int) ≤ (k : Int) := by omega
      have j1 : (k : Int) < (l.length : Int) := by omega
      go_wp2_with fail
      refine wp_region_ext (Below wr.heap.size wr) ((Below.refl _ _).drew) (by kernel_rfl) (by kernel_rfl) ?_
      repeat (go_big_quiet_step ((go_at_call 90; exact ext_new (Nat.le_refl _) (same_alt (x := y) (ext_reads M10.out _) (ext_reads M20.out _)))))
      refine wpQuiet_nil ?_
      intro _ hw'
      obtain ⟨x, hw''⟩ := hw'
      subst hw''
      go_wp2
      go_roundg (l.length - (k + 1))
      case measure => omega
      case rel => exact ⟨k + 1, by omega, rfl, by go_num, hbw.trans (x.i.mono hbw.size)⟩
    · go_wp2_with fail
      go_ret
      exact ⟨rfl, hbw⟩


set_option maxRecDepth 100000 in
set_option maxHeartbeats 2000000 in
theorem same_rule {x : Ru} {w : World} {s11 s21 : Value} {s12 s22 : Value} (h11 : Reads w (.row 9 1 x.params.length (nmsD x.params)) s11) (h21 : Reads w (.row 9 1 x.params.length (nmsD x.params)) s21) (h12 : Reads w (.row 35 6 x.alts.length (alsD x.alts)) s12) (h22 : Reads w (.row 35 6 x.alts.length (alsD x.alts)) s22) :
    Calls Tryz.prog 63 #[.agg #[.string (bs x.name), s11, s12, .int .i64 (x.at_ : Int)], .agg #[.string (bs x.name), s21, s22, .int .i64 (x.at_ : Int)]] w fun e w' => e = .returned (.bool true) ∧ Below w.heap.size w w' := by
  obtain ⟨a11, c11, rfl⟩ := Reads.slice h11
  obtain ⟨a21, c21, rfl⟩ := Reads.slice h21
  obtain ⟨a12, c12, rfl⟩ := Reads.slice h12
  obtain ⟨a22, c22, rfl⟩ := Reads.slice h22
  have hb0 := ((Below.refl _ w).alloc (Nat.le_refl _) (.cells #[.string (bs x.name), .slice a11 x.params.length c11, .slice a12 x.alts.length c12, .int .i64 (x.at_ : Int)] 38)).alloc (by simp) (.cells #[.string (bs x.name), .slice a21 x.params.length c21, .slice a22 x.alts.length c22, .int .i64 (x.at_ : Int)] 38)
  have H11 := Lib.hid (Reads.below hb0 h11); clear h11
  have H21 := Lib.hid (Reads.below hb0 h21); clear h21
  have H12 := Lib.hid (Reads.below hb0 h12); clear h12
  have H22 := Lib.hid (Reads.below hb0 h22); clear h22
  go_enter Tryz.func63, Tryz.ntmps63
  go_wp2_with (first | (go_at_call 78; go_must (refine (same_alts (Reads.below hbc0 H12.out) (Reads.below hbc0 H22.out)).mono ?_); rintro e w2 ⟨rfl, hb1⟩; have hbc1 := hbc0.trans (hb1.mono hbc0.size); have hcc1 := bcell hbc1; have hsz1 := hbc1.size) | (go_at_call 76; go_must (refine (same_texts H11.out H21.out).mono ?_); rintro e w1 ⟨rfl, hb1⟩; have hbc0 := hb1; have hcc0 := bcell hbc0; have hsz0 := hbc0.size))
  go_ret
  exact ⟨rfl, hb0.trans (hbc1.mono (by simp <;> omega))⟩

set_option maxRecDepth 100000 in
set_option maxHeartbeats 1000000 in
theorem same_rules {l : List Ru} {w : World} {s1 s2 : Value} (h1 : Reads w (.row 38 4 l.length (rusD l)) s1) (h2 : Reads w (.row 38 4 l.length (rusD l)) s2) :
    Calls Tryz.prog 59 #[s1, s2] w fun e w' => e = .returned (.bool true) ∧ Below w.heap.size w w' := by
  have hlen := Reads.len h1
  obtain ⟨a1, c1, rfl⟩ := Reads.slice h1
  obtain ⟨a2, c2, rfl⟩ := Reads.slice h2
  have H1 := Lib.hid h1; have H2 := Lib.hid h2; clear h1 h2
  go_enter Tryz.func59, Tryz.ntmps59
  go_wp2
  go_loopg [5] l.length (fun gk i wr => ∃ k : Nat, k ≤ l.length ∧ gk = l.length - k ∧ i = .int .i64 (k : Int) ∧ Below w.heap.size w wr)
  case atStart => exact ⟨0, by omega, by omega, rfl, Below.refl _ _⟩
  case round =>
    obtain ⟨k, hk, rfl, rfl, hbw⟩ := hrel
    by_cases hlt : k < l.length
    · have q1 := Reads.below hbw H1.out
      have q2 := Reads.below hbw H2.out
      obtain ⟨b1, o1, rfl, r1⟩ := Reads.elems q1 (by omega)
      obtain ⟨b2, o2, rfl, r2⟩ := Reads.elems q2 (by omega)
      obtain ⟨e11, f11, e12, f12, d10, d11, d12, d13, m11, m12⟩ := rule_cells r1 hlt
      obtain ⟨e21, f21, e22, f22, d20, d21, d22, d23, m21, m22⟩ := rule_cells r2 hlt
      generalize l[k] = y at *
      have M11 := Lib.hid m11
      have M12 := Lib.hid m12
      have M21 := Lib.hid m21
      have M22 := Lib.hid m22
      have g10 := ext_cell d10
      have g11 := ext_cell d11
      have g12 := ext_cell d12
      have g13 := ext_cell d13
      have g20 := ext_cell d20
      have g21 := ext_cell d21
      have g22 := ext_cell d22
      have g23 := ext_cell d23
      clear d10 d11 d12 d13 d20 d21 d22 d23 m11 m12 m21 m22
      clear r1 r2 q1 q2 H1 H2
      have j0 : (0 : Int) ≤ (k : Int) := by omega
      have j1 : (k : Int) < (l.length : Int) := by omega
      go_wp2_with fail
      refine wp_region_ext (Below wr.heap.size wr) ((Below.refl _ _).drew) (by kernel_rfl) (by kernel_rfl) ?_
      repeat (go_big_quiet_step ((go_at_call 63; exact ext_new (Nat.le_refl _) (same_rule (x := y) (ext_reads M11.out _) (ext_reads M21.out _) (ext_reads M12.out _) (ext_reads M22.out _)))))
      refine wpQuiet_nil ?_
      intro _ hw'
      obtain ⟨x, hw''⟩ := hw'
      subst hw''
      go_wp2
      go_roundg (l.length - (k + 1))
      case measure => omega
      case rel => exact ⟨k + 1, by omega, rfl, by go_num, hbw.trans (x.i.mono hbw.size)⟩
    · go_wp2_with fail
      go_ret
      exact ⟨rfl, hbw⟩


set_option maxRecDepth 100000 in
set_option maxHeartbeats 2000000 in
theorem same_decl {x : De} {w : World} {s12 s22 : Value} (h12 : Reads w (.row 9 1 x.names.length (nmsD x.names)) s12) (h22 : Reads w (.row 9 1 x.names.length (nmsD x.names)) s22) :
    Calls Tryz.prog 61 #[.agg #[.string (bs x.kind), .string (bs x.type), s12, .int .i64 (x.at_ : Int)], .agg #[.string (bs x.kind), .string (bs x.type), s22, .int .i64 (x.at_ : Int)]] w fun e w' => e = .returned (.bool true) ∧ Below w.heap.size w w' := by
  obtain ⟨a12, c12, rfl⟩ := Reads.slice h12
  obtain ⟨a22, c22, rfl⟩ := Reads.slice h22
  have hb0 := ((Below.refl _ w).alloc (Nat.le_refl _) (.cells #[.string (bs x.kind), .string (bs x.type), .slice a12 x.names.length c12, .int .i64 (x.at_ : Int)] 62)).alloc (by simp) (.cells #[.string (bs x.kind), .string (bs x.type), .slice a22 x.names.length c22, .int .i64 (x.at_ : Int)] 62)
  have H12 := Lib.hid (Reads.below hb0 h12); clear h12
  have H22 := Lib.hid (Reads.below hb0 h22); clear h22
  go_enter Tryz.func61, Tryz.ntmps61
  go_wp2_with (go_at_call 76; go_must (refine (same_texts H12.out H22.out).mono ?_); rintro e w1 ⟨rfl, hb1⟩; have hbc0 := hb1; have hcc0 := bcell hbc0; have hsz0 := hbc0.size)
  go_ret
  exact ⟨rfl, hb0.trans (hbc0.mono (by simp <;> omega))⟩

set_option maxRecDepth 100000 in
set_option maxHeartbeats 1000000 in
theorem same_decls {l : List De} {w : World} {s1 s2 : Value} (h1 : Reads w (.row 62 4 l.length (desD l)) s1) (h2 : Reads w (.row 62 4 l.length (desD l)) s2) :
    Calls Tryz.prog 58 #[s1, s2] w fun e w' => e = .returned (.bool true) ∧ Below w.heap.size w w' := by
  have hlen := Reads.len h1
  obtain ⟨a1, c1, rfl⟩ := Reads.slice h1
  obtain ⟨a2, c2, rfl⟩ := Reads.slice h2
  have H1 := Lib.hid h1; have H2 := Lib.hid h2; clear h1 h2
  go_enter Tryz.func58, Tryz.ntmps58
  go_wp2
  go_loopg [5] l.length (fun gk i wr => ∃ k : Nat, k ≤ l.length ∧ gk = l.length - k ∧ i = .int .i64 (k : Int) ∧ Below w.heap.size w wr)
  case atStart => exact ⟨0, by omega, by omega, rfl, Below.refl _ _⟩
  case round =>
    obtain ⟨k, hk, rfl, rfl, hbw⟩ := hrel
    by_cases hlt : k < l.length
    · have q1 := Reads.below hbw H1.out
      have q2 := Reads.below hbw H2.out
      obtain ⟨b1, o1, rfl, r1⟩ := Reads.elems q1 (by omega)
      obtain ⟨b2, o2, rfl, r2⟩ := Reads.elems q2 (by omega)
      obtain ⟨e12, f12, d10, d11, d12, d13, m12⟩ := decl_cells r1 hlt
      obtain ⟨e22, f22, d20, d21, d22, d23, m22⟩ := decl_cells r2 hlt
      generalize l[k] = y at *
      have M12 := Lib.hid m12
      have M22 := Lib.hid m22
      have g10 := ext_cell d10
      have g11 := ext_cell d11
      have g12 := ext_cell d12
      have g13 := ext_cell d13
      have g20 := ext_cell d20
      have g21 := ext_cell d21
      have g22 := ext_cell d22
      have g23 := ext_cell d23
      clear d10 d11 d12 d13 d20 d21 d22 d23 m12 m22
      clear r1 r2 q1 q2 H1 H2
      have j0 : (0 : Int) ≤ (k : Int) := by omega
      have j1 : (k : Int) < (l.length : Int) := by omega
      go_wp2_with fail
      refine wp_region_ext (Below wr.heap.size wr) ((Below.refl _ _).drew) (by kernel_rfl) (by kernel_rfl) ?_
      repeat (go_big_quiet_step ((go_at_call 61; exact ext_new (Nat.le_refl _) (same_decl (x := y) (ext_reads M12.out _) (ext_reads M22.out _)))))
      refine wpQuiet_nil ?_
      intro _ hw'
      obtain ⟨x, hw''⟩ := hw'
      subst hw''
      go_wp2
      go_roundg (l.length - (k + 1))
      case measure => omega
      case rel => exact ⟨k + 1, by omega, rfl, by go_num, hbw.trans (x.i.mono hbw.size)⟩
    · go_wp2_with fail
      go_ret
      exact ⟨rfl, hbw⟩

set_option maxRecDepth 100000 in
set_option maxHeartbeats 2000000 in
theorem same_source {x : Tx} {w : World} {s10 s20 : Value} {s11 s21 : Value} (h10 : Reads w (.row 62 4 x.decls.length (desD x.decls)) s10) (h20 : Reads w (.row 62 4 x.decls.length (desD x.decls)) s20) (h11 : Reads w (.row 38 4 x.rules.length (rusD x.rules)) s11) (h21 : Reads w (.row 38 4 x.rules.length (rusD x.rules)) s21) :
    Calls Tryz.prog 37 #[.agg #[s10, s11], .agg #[s20, s21]] w fun e w' => e = .returned (.bool true) ∧ Below w.heap.size w w' := by
  obtain ⟨a10, c10, rfl⟩ := Reads.slice h10
  obtain ⟨a20, c20, rfl⟩ := Reads.slice h20
  obtain ⟨a11, c11, rfl⟩ := Reads.slice h11
  obtain ⟨a21, c21, rfl⟩ := Reads.slice h21
  have hb0 := ((Below.refl _ w).alloc (Nat.le_refl _) (.cells #[.slice a10 x.decls.length c10, .slice a11 x.rules.length c11] 28)).alloc (by simp) (.cells #[.slice a20 x.decls.length c20, .slice a21 x.rules.length c21] 28)
  have H10 := Lib.hid (Reads.below hb0 h10); clear h10
  have H20 := Lib.hid (Reads.below hb0 h20); clear h20
  have H11 := Lib.hid (Reads.below hb0 h11); clear h11
  have H21 := Lib.hid (Reads.below hb0 h21); clear h21
  go_enter Tryz.func37, Tryz.ntmps37
  go_wp2_with (first | (go_at_call 59; go_must (refine (same_rules (Reads.below hbc0 H11.out) (Reads.below hbc0 H21.out)).mono ?_); rintro e w2 ⟨rfl, hb1⟩; have hbc1 := hbc0.trans (hb1.mono hbc0.size); have hcc1 := bcell hbc1; have hsz1 := hbc1.size) | (go_at_call 58; go_must (refine (same_decls H10.out H20.out).mono ?_); rintro e w1 ⟨rfl, hb1⟩; have hbc0 := hb1; have hcc0 := bcell hbc0; have hsz0 := hbc0.size))
  go_ret
  exact ⟨rfl, hb0.trans (hbc1.mono (by simp <;> omega))⟩
end Go.Proofs.YtghebacphjglbaaGreat.Same
