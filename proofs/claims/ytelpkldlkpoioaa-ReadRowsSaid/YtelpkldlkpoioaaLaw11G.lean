/- The law ReadRows, walked at two good sources. (Under way: not built yet.) -/
import Derived.Test.YtelpkldlkpoioaaLaw11F
import Derived.Test.YtelpkldlkpoioaaCutU
namespace Go.Proofs.Ytelpkldlkpoioaa.Law11G
open Go.RowKit Go.Proofs.Ytelpkldlkpoioaa.Lexy Go.Proofs.Ytelpkldlkpoioaa.LexA Go.Proofs.Ytelpkldlkpoioaa.LexB Go.Proofs.Ytelpkldlkpoioaa.LexC Go.Proofs.Ytelpkldlkpoioaa.LexD Go.Proofs.Ytelpkldlkpoioaa.LexE Go.Proofs.Ytelpkldlkpoioaa.LexF Go.Proofs.Ytelpkldlkpoioaa.LexG Go.Proofs.Ytelpkldlkpoioaa.Heap Go.Proofs.Ytelpkldlkpoioaa.Dat Go.Proofs.Ytelpkldlkpoioaa.Ready Go.Proofs.Ytelpkldlkpoioaa.ReadA Go.Proofs.Ytelpkldlkpoioaa.ReadC Go.Proofs.Ytelpkldlkpoioaa.ReadG Go.Proofs.Ytelpkldlkpoioaa.ReadH Go.Proofs.Ytelpkldlkpoioaa.ReadI Go.Proofs.Ytelpkldlkpoioaa.ReadJ Go.Proofs.Ytelpkldlkpoioaa.ReadM Go.Proofs.Ytelpkldlkpoioaa.ReadO Go.Proofs.Ytelpkldlkpoioaa.ReadQ Go.Proofs.Ytelpkldlkpoioaa.Same Go.Proofs.Ytelpkldlkpoioaa.Law11A Go.Proofs.Ytelpkldlkpoioaa.Law11B Go.Proofs.Ytelpkldlkpoioaa.Law11C Go.Proofs.Ytelpkldlkpoioaa.Law11D Go.Proofs.Ytelpkldlkpoioaa.Law11F Go.Proofs.Ytelpkldlkpoioaa.Cut

def bothB (a b : ByteArray) : ByteArray := ((({ data := #[37, 108, 101, 102, 116, 32, 80, 59, 32, 37, 37, 32] } : ByteArray) ++ a) ++ ({ data := #[10] } : ByteArray)) ++ b
theorem bothB_list (a b : ByteArray) : (bothB a b).data.toList = bothS a.data.toList b.data.toList := by unfold bothB bothS; simp
/-- how many of the first tokens are ; -/
theorem count_next {l : List Tok} {k : Nat} (hk : k < l.length) : (l.take (k + 1)).countP semiT = (l.take k).countP semiT + if semiT (l[k]) then 1 else 0 := by
  rw [List.take_succ_eq_append_getElem hk, List.countP_append]; simp [List.countP_cons]
theorem field_text : ∀ (x y : Value) (w : World), (Instr.field 39 (.agg #[x, y]) 1).run Try.prog w = .ok y w := fun x y w => by kernel_rfl
theorem one_rus (l : List Ru) : ∀ d ∈ rusD l, oneD d = true := by
  rw [rusD_flat]
  intro d hd
  obtain ⟨x, _, h⟩ := List.mem_flatMap.1 hd
  simp only [ruD, List.mem_cons, List.not_mem_nil, or_false] at h
  rcases h with rfl | rfl | rfl | rfl <;> rfl
/-- rules alone, plain: rows of their own -/
theorem plain_lies {x : List Ru} {l : List Ru} (hx : TxOk ⟨[], x⟩) (hl : l = x.map plainR) {w : World} {p : Option Addr} {q : Nat} (h : Reads w (.row 48 4 x.length (rusD x)) (.slice p x.length q)) :
    Calls Try.prog 18 #[.agg #[.slice none 0 0, .slice p x.length q]] w fun e w' => ∃ (p0 : Option Addr) (q0 : Nat) (p1 : Option Addr) (q1 : Nat) (k1 : List Nat), e = .returned (.agg #[.slice p0 0 q0, .slice p1 l.length q1]) ∧ Lies w' w.heap.size (.row 48 4 l.length (rusD l)) (.slice p1 l.length q1) k1 ∧ Below w.heap.size w w' := by
  refine (Plain11.plain_any hx (s1 := .slice none 0 0) ((Lies.nil w 0 _ _).reads) h).mono ?_
  rintro e w' ⟨p0, q0, k0, p1, q1, k1, rfl, _, hL1, _, hb⟩
  have e1 : l.length = x.length := by rw [hl]; simp
  have e2 : (plainT ⟨[], x⟩).rules = l := by rw [hl]; rfl
  rw [e2, ← e1] at hL1
  exact ⟨p0, q0, p1, q1, k1, by rw [e1]; rfl, hL1, hb⟩
set_option maxRecDepth 100000 in
set_option maxHeartbeats 4000000 in
theorem rows_good {a b : ByteArray} {w : World} {m : Int} {x y : Tx} {kx ky : Nat} (hm : w.cell? ⟨0, 0, none⟩ = some (.int .i64 m)) (ha : a.size ≤ 10000) (hb : b.size ≤ 10000) (h1 : SaysR (twoB a).data.toList (.ok x kx)) (h2 : SaysR (twoB b).data.toList (.ok y ky)) :
    Calls Try.prog 6 #[.string a, .string b] w fun e w' => e = .returned (.bool true) ∧ Below w.heap.size w w' := by
  have hml := World.block_lt_of_cell? _ _ hm
  have HM := Lib.hid hm; clear hm
  have hs1 := twoB_size a; have hs2 := twoB_size b
  have hl1 : (twoB a).size ≤ 10003 := by omega
  have hl2 : (twoB b).size ≤ 10003 := by omega
  have hA : ({ data := #[37, 37, 32] } : ByteArray) ++ a = twoB a := rfl
  have hB : ({ data := #[37, 37, 32] } : ByteArray) ++ b = twoB b := rfl
  clear hs1 hs2
  obtain ⟨T, hT, hTx⟩ := says_ok h1
  obtain ⟨U, hU, hUx⟩ := says_ok h2
  rw [twoB_list] at hT hU
  obtain ⟨v, ev, hVS, hVok, hVd, hVr⟩ : ∃ v ev, SaysR (bothB a b).data.toList (.ok v ev) ∧ TxOk v ∧ v.decls = [⟨[108, 101, 102, 116], [], [[80]], 0⟩] ∧ v.rules.map plainR = (x.rules ++ y.rules).map plainR := by
    have e1 : a.data.toList.length = a.size := by simp
    have e2 : b.data.toList.length = b.size := by simp
    obtain ⟨V, v, e, h3, h4, h5, h6, h7⟩ := text_both hT hTx hU hUx (by omega)
    exact ⟨v, e, by rw [bothB_list]; exact .good h3 h4, h5, h6, h7⟩
  have hOX : TxOk (⟨[], x.rules ++ y.rules⟩ : Tx) := by
    have e1 : (twoB a).data.toList.length = (twoB a).size := by simp
    have e2 : (twoB b).data.toList.length = (twoB b).size := by simp
    obtain ⟨o1, _⟩ := Law11D.says_wrap h1 (by omega)
    obtain ⟨o2, _⟩ := Law11D.says_wrap h2 (by omega)
    have hlv := congrArg List.length hVr
    have hm := hVok.m
    refine ⟨by simp, ?_, by simp, ?_⟩
    · simp only [List.length_map] at hlv; rw [← hlv]; exact hm
    · intro r hr
      rcases List.mem_append.1 hr with h | h
      · exact o1.rules r h
      · exact o2.rules r h
  have hBT : ((({ data := #[37, 108, 101, 102, 116, 32, 80, 59, 32, 37, 37, 32] } : ByteArray) ++ a) ++ ({ data := #[10] } : ByteArray)) ++ b = bothB a b := rfl
  have hBZ : (bothB a b).size ≤ 30000 := by
    have e1 : ({ data := #[37, 108, 101, 102, 116, 32, 80, 59, 32, 37, 37, 32] } : ByteArray).size = 12 := by decide
    have e2 : ({ data := #[10] } : ByteArray).size = 1 := by decide
    rw [← hBT, ByteArray.size_append, ByteArray.size_append, ByteArray.size_append, e1, e2]; omega
  obtain ⟨l, hl, hc⟩ := semis_two hT hTx
  have hll := (toks_told hl).1.len
  have hln : l.length ≤ 20000 := by have h : a.data.toList.length = a.size := by simp
                                    omega
  have HL := Lib.hid hl; have HC := Lib.hid hc
  have HT1 := Lib.hid h1; have HT2 := Lib.hid h2; have HVS := Lib.hid hVS; have HVO := Lib.hid hVok; have HVD := Lib.hid hVd; have HVR := Lib.hid hVr; have HOX := Lib.hid hOX
  clear h1 h2 hT hTx hU hUx hl hc hll hVS hVok hVd hVr hOX
  generalize bothB a b = Cq at *
  generalize twoB a = A at *
  generalize twoB b = Bq at *
  go_enter Try.func6, Try.ntmps6
  go_wp2_with (go_at_call 13; refine (Law11C.awake_any HM.out).mono ?_; rintro e w1 ⟨rfl, hb1⟩; have HM1 := Lib.hid ((hb1.cell (p := ⟨0, 0, none⟩) hml).trans HM.out))
  refine (text_any (by omega) HM1.out HT1.out).mono ?_
  rintro e w2 ⟨da, ra, dc, rc, bk, rfl, hL, hnd, hb2⟩
  obtain ⟨_, _, _, _, q2⟩ := tx_rows hL
  have RX := Lib.hid q2.reads; clear q2 hL hnd
  have hbX := ((Below.refl w2.heap.size w2).alloc (Nat.le_refl _) (.cells #[.slice da x.decls.length dc, .slice ra x.rules.length rc] 39)).alloc (by simp) (.cells #[.int .i64 0, .int .i64 0] 26)
  have hX1 := Copy.alloc1 w2 (.cells #[.slice da x.decls.length dc, .slice ra x.rules.length rc] 39) (.cells #[.int .i64 0, .int .i64 0] 26)
  have HBX := Lib.hid hbX; have HX1 := Lib.hid hX1; clear hbX hX1
  have hb3 := hb1.trans (hb2.mono hb1.size)
  have hb4 := (hb3.alloc hb3.size (.cells #[.slice da x.decls.length dc, .slice ra x.rules.length rc] 39)).alloc (by have := hb3.size; simp; omega) (.cells #[.int .i64 0, .int .i64 0] 26)
  have HM2 := Lib.hid ((hb4.cell (p := ⟨0, 0, none⟩) hml).trans HM.out)
  go_wp2_with fail
  refine (text_any (by omega) HM2.out HT2.out).mono ?_
  rintro e w3 ⟨da2, ra2, dc2, rc2, bk2, rfl, hL2, hnd2, hb5⟩
  obtain ⟨_, _, _, _, q2⟩ := tx_rows hL2
  have RY := Lib.hid q2.reads; clear q2 hL2 hnd2
  have hbY := ((Below.refl w3.heap.size w3).alloc (Nat.le_refl _) (.cells #[.slice da2 y.decls.length dc2, .slice ra2 y.rules.length rc2] 39)).alloc (by simp) (.cells #[.int .i64 0, .int .i64 0] 26)
  have hY1 := Copy.alloc1 w3 (.cells #[.slice da2 y.decls.length dc2, .slice ra2 y.rules.length rc2] 39) (.cells #[.int .i64 0, .int .i64 0] 26)
  have HBY := Lib.hid hbY; have HY1 := Lib.hid hY1; clear hbY hY1
  have hz := hb5.size
  have hz2 := Copy.size2 w2 (.cells #[.slice da x.decls.length dc, .slice ra x.rules.length rc] 39) (.cells #[.int .i64 0, .int .i64 0] 26)
  rw [hz2] at hz
  have hz3 : w2.heap.size + 1 < w3.heap.size := by omega
  have hz4 : w2.heap.size + 1 < w3.heap.size + 1 := by omega
  have hF := (hb5.block (w2.heap.size + 1) (by rw [hz2]; omega)).trans (Copy.alloc2 w2 (.cells #[.slice da x.decls.length dc, .slice ra x.rules.length rc] 39) (.cells #[.int .i64 0, .int .i64 0] 26))
  obtain ⟨c0, _⟩ := cells2 hF
  have hb6 := hb4.trans (hb5.mono hb4.size)
  have hb7 := (hb6.alloc hb6.size (.cells #[.slice da2 y.decls.length dc2, .slice ra2 y.rules.length rc2] 39)).alloc (by have := hb6.size; simp; omega) (.cells #[.int .i64 0, .int .i64 0] 26)
  have HM3 := Lib.hid ((hb7.cell (p := ⟨0, 0, none⟩) hml).trans HM.out)
  go_wp2_with fail
  refine (tokens_good (by omega) HM3.out HL.out).mono ?_
  rintro e w4 ⟨g, cap, rfl, hg1, hg2, hcap, hmax, htk, hb8⟩
  have hb9 := hb7.trans (hb8.mono hb7.size)
  have hb10 := hb9.alloc hb9.size (.cells #[.int .i64 0, .int .i64 0] 26)
  have HTK := Lib.hid (IsToks.below htk ((Below.refl w4.heap.size w4).alloc (Nat.le_refl _) (.cells #[.int .i64 0, .int .i64 0] 26)) hg2)
  clear htk
  have hyz : w3.heap.size < w4.heap.size := by have h8 := hb8.size; simp at h8; omega
  have hbT := hb8.trans ((Below.refl w4.heap.size w4).alloc (Nat.le_refl _) (.cells #[.int .i64 0, .int .i64 0] 26) |>.mono hb8.size)
  have hbYW := HBY.out.trans (hbT.mono (by simp; omega))
  have hYW := (hbT.block w3.heap.size (by simp; omega)).trans HY1.out
  have hbXW := (HBX.out.trans (hb5.mono (by simp; omega))).trans (hbYW.mono (by omega))
  have hXW := (hbYW.block w2.heap.size (by omega)).trans ((hb5.block w2.heap.size (by simp; omega)).trans HX1.out)
  have RXW := Lib.hid (Reads.below hbXW RX.out); have RYW := Lib.hid (Reads.below hbYW RY.out)
  have HXW := Lib.hid hXW; have HYW := Lib.hid hYW; have HB10 := Lib.hid hb10
  clear hbXW hXW hbYW hYW hbT RX RY HX1 HY1 HBX HBY
  go_wp2_with fail
  have hWz : (w4.alloc (.cells #[.int .i64 0, .int .i64 0] 26)).heap.size = w4.heap.size + 1 := by simp
  generalize w4.alloc (.cells #[.int .i64 0, .int .i64 0] 26) = W at *
  go_loopg [11, 12] l.length (fun gk t11 t12 wr => ∃ k : Nat, k ≤ l.length ∧ gk = l.length - k ∧ t12 = .int .i64 (k : Int) ∧ t11 = .int .i64 (((l.take k).countP semiT : Nat) : Int) ∧ wr = W)
  case atStart => exact ⟨0, by omega, by omega, rfl, by simp, rfl⟩
  case round =>
    obtain ⟨k, hk, rfl, rfl, rfl, rfl⟩ := hrel
    by_cases hlt : k < l.length
    · obtain ⟨q1, q2, _⟩ := HTK.out k hlt
      have hcn := count_next hlt
      have htk : l.getD k ⟨0, [], 0⟩ = l[k] := by rw [List.getD_eq_getElem?_getD, List.getElem?_eq_getElem hlt]; rfl
      have hcle : (l.take k).countP semiT ≤ 20000 := Nat.le_trans List.countP_le_length (by simp; omega)
      have HCN := Lib.hid hcn
      clear hcn
      have j0 : (0 : Int) ≤ (k : Int) := by omega
      have j1 : (k : Int) < (l.length : Int) := by omega
      have hse : semiT l[k] = (decide ((tk l k).kind = 6) && decide ((tk l k).text = [59])) := by rw [← htk]; rfl
      have hw : wr.cell? ⟨g, k * 3, none⟩ = some (.int .u8 ((tk l k).kind : Int)) := q1
      have hx : wr.cell? ⟨g, k * 3 + 1, none⟩ = some (.string (bs (tk l k).text)) := q2
      clear q1 q2 htk
      by_cases h6 : (tk l k).kind = 6
      · by_cases h59 : (tk l k).text = [59]
        · rw [h6] at hw
          rw [h59] at hx
          have hx' : wr.cell? ⟨g, k * 3 + 1, none⟩ = some (.string { data := #[59] }) := hx
          clear hx
          go_wp2
          go_roundg (l.length - (k + 1))
          case measure => omega
          case rel => exact ⟨k + 1, by omega, rfl, by go_num, by rw [HCN.out, hse, h6, h59]; simp, rfl⟩
        · rw [h6] at hw
          have hb59 : ((bs (tk l k).text).toList == [59]) = false := by
            have e : (bs (tk l k).text).toList = (tk l k).text := by simp [bs, ByteArray.toList_eq]
            rw [e]; exact beq_eq_false_iff_ne.2 h59
          go_wp2
          go_roundg (l.length - (k + 1))
          case measure => omega
          case rel => exact ⟨k + 1, by omega, rfl, by go_num, by rw [HCN.out, hse, h6]; simp [h59], rfl⟩
      · have hk6 : (((tk l k).kind : Int) == 6) = false := by simp; omega
        go_wp2
        go_roundg (l.length - (k + 1))
        case measure => omega
        case rel => exact ⟨k + 1, by omega, rfl, by go_num, by rw [HCN.out, hse]; simp [h6], rfl⟩
    · have hkl : k = l.length := by omega
      subst hkl
      clear hlt
      rw [List.take_length, HC.out]
      go_wp2_with fail
      have HMW := Lib.hid ((HB10.out.cell (p := ⟨0, 0, none⟩) hml).trans HM.out)
      refine (text_any (by omega) HMW.out HVS.out).mono ?_
      rintro e wv ⟨dv, rv, cv, cr, kv, rfl, hL3, _, hb11⟩
      obtain ⟨k5, k6, _, q5, q6⟩ := tx_rows hL3
      have hbV := ((Below.refl wv.heap.size wv).alloc (Nat.le_refl _) (.cells #[.slice dv v.decls.length cv, .slice rv v.rules.length cr] 39)).alloc (by simp) (.cells #[.int .i64 0, .int .i64 0] 26)
      have hv1 := Copy.alloc1 wv (.cells #[.slice dv v.decls.length cv, .slice rv v.rules.length cr] 39) (.cells #[.int .i64 0, .int .i64 0] 26)
      have hv2 := Copy.alloc2 wv (.cells #[.slice dv v.decls.length cv, .slice rv v.rules.length cr] 39) (.cells #[.int .i64 0, .int .i64 0] 26)
      have hbW := hb11.trans (hbV.mono hb11.size)
      have R3 := Lib.hid (Reads.below hbV q5.reads); have R4 := Lib.hid (Reads.below hbV q6.reads)
      have RXV := Lib.hid (Reads.below hbW RXW.out); have RYV := Lib.hid (Reads.below hbW RYW.out)
      have hxV := (hbW.block w2.heap.size (by omega)).trans HXW.out
      have hyV := (hbW.block w3.heap.size (by omega)).trans HYW.out
      have HBV := Lib.hid (HB10.out.trans (hbW.mono HB10.out.size))
      clear hL3 q5 q6 hbV hbW hb11 HMW
      go_wp2_with fail
      generalize (wv.alloc (.cells #[.slice dv v.decls.length cv, .slice rv v.rules.length cr] 39)).alloc (.cells #[.int .i64 0, .int .i64 0] 26) = V at *
      generalize wv.heap.size = Hv at *
      obtain ⟨_, c1, _⟩ := cells2 hxV
      obtain ⟨_, e1, _⟩ := cells2 hyV
      have hC1 : ∀ u, Below V.heap.size V u → u.cell? ⟨w2.heap.size, 1, none⟩ = some (.slice ra x.rules.length rc) := fun u hu => (hu.cell (World.block_lt_of_cell? _ _ c1)).trans c1
      have hE1 : ∀ u, Below V.heap.size V u → u.cell? ⟨w3.heap.size, 1, none⟩ = some (.slice ra2 y.rules.length rc2) := fun u hu => (hu.cell (World.block_lt_of_cell? _ _ e1)).trans e1
      obtain ⟨ti, hi, hz0, hz1, hz2⟩ := info_parts Copy.rInfo
      have hxl := HOX.out.m
      simp only [List.length_append] at hxl
      refine wp_region_mixU (l1 := [_, _, _, _, _, _, _, _, _, _]) (l2 := [_]) [(1, true), (2, true), (4, true), (5, true), (0, false), (3, false), (6, false), (7, true), (8, false)] 9 (d := 15) (o := (.cells #[.slice none 0 0, .slice none 0 0] 39)) (fun u => Below V.heap.size V u) (Made1 V (.cells #[.slice none 0 0, .slice none 0 0] 39)) (by kernel_rfl) (by kernel_rfl) (by repeat (first | refine loose_then ?_ | refine loose_block ?_ | exact loose_body (P := Try.prog) (fn := Try.f6))) rfl rfl rfl (fun a' u => by go_simp) ((Below.refl _ V).drew) (fun w h => h.alloc h.size _) Made1.none (fun w h _ => Made1.made h) ?_
      refine mixU_take (.pointer (some ⟨w2.heap.size, 1, none⟩)) rfl (by decide) rfl (fun ex u hu => (by cases ex <;> (simp only [withB]; go_simp))) ?_
      refine mixU_take (.slice ra x.rules.length rc) rfl (by decide) rfl (fun ex u hu => by have h1 := hC1 u hu; cases ex <;> (simp only [withB]; go_simp)) ?_
      refine mixU_take (.pointer (some ⟨w3.heap.size, 1, none⟩)) rfl (by decide) rfl (fun ex u hu => (by cases ex <;> (simp only [withB]; go_simp))) ?_
      refine mixU_take (.slice ra2 y.rules.length rc2) rfl (by decide) rfl (fun ex u hu => by have h1 := hE1 u hu; cases ex <;> (simp only [withB]; go_simp)) ?_
      refine mixU_go rfl (by decide) rfl fun ex w0 hS hI K hK => wp_none_row (W := V) 37 rfl 48 ti 4 Try.underlying37 hi hS fun v0 w1 h1 h2 h3 h4 => ?_
      refine hK.out v0 w1 (Up V (.cells #[.slice none 0 0, .slice none 0 0] 39) 48 4 0 [] v0) h2 (Up.first hI h1 h3 h4) (fun w hb hu => Up.made hb hu) ?_
      clear hS hI hK h1 h2 h3 h4
      refine mixU_go rfl (by decide) rfl fun ex w0 hS hI K hK => wp_append_reads (W := V) (.tmp 82) (.tmp 84) 37 rfl 48 ti _ 4 72 Try.underlying37 hi hz0 hz1 hz2 rfl (by omega) v0 (.slice ra x.rules.length rc) 0 x.rules.length [] (rusD x.rules) (by cases ex <;> (simp only [withB]; go_simp)) hI.1 (by cases ex <;> (simp only [withB]; go_simp)) RXV.out (one_rus x.rules) hS (by unfold maxLen; omega) (by omega) fun v1 w1 h1 h2 h3 h4 => ?_
      refine hK.out v1 w1 (Up V (.cells #[.slice none 0 0, .slice none 0 0] 39) 48 4 (0 + x.rules.length) ([] ++ rusD x.rules) v1) h2 (hI.next h1 h3 h4) (fun w hb hu => Up.made hb hu) ?_
      clear hS hI hK h1 h2 h3 h4
      refine mixU_go rfl (by decide) rfl fun ex w0 hS hI K hK => wp_append_reads (W := V) (.tmp 85) (.tmp 87) 37 rfl 48 ti _ 4 72 Try.underlying37 hi hz0 hz1 hz2 rfl (by omega) v1 (.slice ra2 y.rules.length rc2) (0 + x.rules.length) y.rules.length ([] ++ rusD x.rules) (rusD y.rules) (by cases ex <;> (simp only [withB]; go_simp)) hI.1 (by cases ex <;> (simp only [withB]; go_simp)) RYV.out (one_rus y.rules) hS (by unfold maxLen; omega) (by omega) fun v2 w1 h1 h2 h3 h4 => ?_
      have hrl : 0 + x.rules.length + y.rules.length = (x.rules ++ y.rules).length := by simp
      have hrd : [] ++ rusD x.rules ++ rusD y.rules = rusD (x.rules ++ y.rules) := by rw [rusD_flat, rusD_flat, rusD_flat, List.flatMap_append]; rfl
      rw [hrl, hrd] at h1
      obtain ⟨p, q, rfl⟩ := h1.form
      refine hK.out _ w1 (Up V (.cells #[.slice none 0 0, .slice none 0 0] 39) 48 4 (x.rules ++ y.rules).length (rusD (x.rules ++ y.rules)) (.slice p (x.rules ++ y.rules).length q)) h2 (hI.next h1 h3 h4) (fun w hb hu => Up.made hb hu) ?_
      clear hS hI hK h1 h2 h3 h4 hrl hrd
      refine mixU_take (.agg #[.slice none 0 0, .slice p (x.rules ++ y.rules).length q]) rfl (by decide) rfl (fun ex u hu => (by cases ex <;> (simp only [withB]; go_simp))) ?_
      refine mixU_go rfl (by decide) rfl fun ex w0 hS hI K hK => wp_go (f := 18) (args := #[.agg #[.slice none 0 0, .slice p (x.rules ++ y.rules).length q]]) (by cases ex <;> (simp only [withB]; go_simp)) ((plain_lies (l := (plainT v).rules) HOX.out HVR.out (hI.1.reads hS)).mono ?_)
      rintro e w6 ⟨p0, q0, p1, q1, k1, rfl, hP1, hb6⟩
      refine hK.out _ w6 (Beside V (.cells #[.slice none 0 0, .slice none 0 0] 39) w0.heap.size (.row 48 4 (plainT v).rules.length (rusD (plainT v).rules)) (.slice p1 (plainT v).rules.length q1) k1) (hS.trans (hb6.mono hS.size)) (Beside.first hI.2.1 hP1 hb6) (fun w hb hu => Beside.made hb hu) ?_
      clear hS hI hK hP1 hb6
      intro H w7 hS7 hI7
      show wpList _ _ _ _ _ _
      simp only [withB]
      obtain ⟨hH1, hH2⟩ := hI7.2.1 H rfl
      obtain ⟨g0, g1, g2, g3⟩ := cells2 hH2
      go_wp2_with fail
      have hl8 := (hI7.set2 0 1 (.slice p0 0 q0) (.slice p1 (plainT v).rules.length q1)).reads
      have hH8 := heap_setCell_same _ H 1 _ _ (.slice p1 (plainT v).rules.length q1) (heap_setCell_same w7 H 0 _ _ (.slice p0 0 q0) hH2)
      have hb8 : Below V.heap.size V ((w7.setCell ⟨H, 0, none⟩ (.slice p0 0 q0)).setCell ⟨H, 1, none⟩ (.slice p1 (plainT v).rules.length q1)) := (hS7.setCell (p := ⟨H, 0, none⟩) hH1 _).setCell (p := ⟨H, 1, none⟩) hH1 _
      clear hI7 hS7 hH2 g0 g1 g2 g3
      generalize (w7.setCell ⟨H, 0, none⟩ (.slice p0 0 q0)).setCell ⟨H, 1, none⟩ (.slice p1 (plainT v).rules.length q1) = W8 at *
      have RZ := Lib.hid hl8; clear hl8
      have Q3 := Lib.hid (Reads.below hb8 R3.out); have Q4 := Lib.hid (Reads.below hb8 R4.out)
      have hv1 := (hb8.block Hv (Array.getElem?_eq_some_iff.1 hv1).1).trans hv1
      have hv2 := (hb8.block (Hv + 1) (Array.getElem?_eq_some_iff.1 hv2).1).trans hv2
      have hx8 := (hb8.block w2.heap.size (Array.getElem?_eq_some_iff.1 hxV).1).trans hxV
      have hn1 : v.decls.length = 1 := by rw [HVD.out]; rfl
      rw [hn1] at hv1
      have q3 := Q3.out
      rw [hn1] at q3
      obtain ⟨bd, od, rfl, rd⟩ := Reads.elems q3 (by omega)
      obtain ⟨kd, hkd, hkr⟩ := rd.get (k := 0) (d := .lit (.string (bs [108, 101, 102, 116]))) (by rw [HVD.out]; rfl)
      rw [Reads.lit_iff] at hkr
      subst hkr
      have hkd : W8.cell? ⟨bd, od, none⟩ = some (.string (bs [108, 101, 102, 116])) := hkd
      clear q3 rd
      obtain ⟨d0, d1, _⟩ := cells2 hv1; obtain ⟨f0, _⟩ := cells2 hv2; obtain ⟨_, x1, _⟩ := cells2 hx8; obtain ⟨_, y1, _⟩ := cells2 hH8
      have hS8 : ∀ u, Below W8.heap.size W8 u → (fun u => u.cell? ⟨Hv + 1, 0, none⟩ = some (.int .i64 0) ∧ u.cell? ⟨w2.heap.size, 1, none⟩ = some (.slice ra x.rules.length rc) ∧ u.cell? ⟨Hv, 0, none⟩ = some (.slice (some ⟨bd, od, none⟩) 1 cv) ∧ u.cell? ⟨Hv, 1, none⟩ = some (.slice rv v.rules.length cr) ∧ u.cell? ⟨H, 1, none⟩ = some (.slice p1 (plainT v).rules.length q1) ∧ u.cell? ⟨bd, od, none⟩ = some (.string (bs [108, 101, 102, 116]))) u := fun u hu => ⟨(hu.cell (World.block_lt_of_cell? _ _ f0)).trans f0, (hu.cell (World.block_lt_of_cell? _ _ x1)).trans x1, (hu.cell (World.block_lt_of_cell? _ _ d0)).trans d0, (hu.cell (World.block_lt_of_cell? _ _ d1)).trans d1, (hu.cell (World.block_lt_of_cell? _ _ y1)).trans y1, (hu.cell (World.block_lt_of_cell? _ _ hkd)).trans hkd⟩
      have hbd : Below W8.heap.size W8 W8.drew := (Below.refl _ _).drew
      refine wp_region_mixI (l1 := [_, _, _, _, _, _, _, _, _, _, _, _, _, _, _, _, _, _, _, _, _, _, _, _, _, _, _, _, _, _, _, _]) (l2 := [_]) [(0, true), (1, true), (2, true), (3, true), (4, true), (5, true), (6, true), (7, true), (8, true), (9, true), (10, true), (11, true), (12, true), (13, true), (14, true), (15, true), (16, true), (17, true), (20, true), (21, true), (18, false), (19, true), (22, false), (23, true), (24, true), (25, true), (26, true), (27, true), (28, true), (29, true), (30, false), (31, true)] (fun u => u.cell? ⟨Hv + 1, 0, none⟩ = some (.int .i64 0) ∧ u.cell? ⟨w2.heap.size, 1, none⟩ = some (.slice ra x.rules.length rc) ∧ u.cell? ⟨Hv, 0, none⟩ = some (.slice (some ⟨bd, od, none⟩) 1 cv) ∧ u.cell? ⟨Hv, 1, none⟩ = some (.slice rv v.rules.length cr) ∧ u.cell? ⟨H, 1, none⟩ = some (.slice p1 (plainT v).rules.length q1) ∧ u.cell? ⟨bd, od, none⟩ = some (.string (bs [108, 101, 102, 116]))) (by kernel_rfl) (by kernel_rfl) (by repeat (first | refine loose_then ?_ | refine loose_block ?_ | exact loose_body (P := Try.prog) (fn := Try.f6))) (hS8 _ hbd) ?_
      refine mixI_take (.pointer (some ⟨Hv + 1, 0, none⟩)) rfl rfl (fun u hu => by obtain ⟨h1, h2, h3, h4, h5, h6⟩ := hu; go_simp) ?_
      refine mixI_take (.int .i64 0) rfl rfl (fun u hu => by obtain ⟨h1, h2, h3, h4, h5, h6⟩ := hu; go_simp) ?_
      refine mixI_take (.bool true) rfl rfl (fun u hu => by obtain ⟨h1, h2, h3, h4, h5, h6⟩ := hu; go_simp) ?_
      refine mixI_take (.bool true) rfl rfl (fun u hu => by obtain ⟨h1, h2, h3, h4, h5, h6⟩ := hu; go_simp) ?_
      refine mixI_take (.int .i64 (x.rules.length : Int)) rfl (wanted_at (g := 3) (b := true) (t := 94) rfl rfl (by (repeat refine put_far (by decide) ?_); refine put_here rfl ?_; (repeat refine put_size ?_); exact of_decide_eq_true rfl)) (fun u hu => by obtain ⟨h1, h2, h3, h4, h5, h6⟩ := hu; go_simp) ?_
      refine mixI_take (.pointer (some ⟨w2.heap.size, 1, none⟩)) rfl (wanted_at (g := 3) (b := true) (t := 94) rfl rfl (by (repeat refine put_far (by decide) ?_); refine put_here rfl ?_; (repeat refine put_size ?_); exact of_decide_eq_true rfl)) (fun u hu => by obtain ⟨h1, h2, h3, h4, h5, h6⟩ := hu; go_simp) ?_
      refine mixI_take (.slice ra x.rules.length rc) rfl (wanted_at (g := 3) (b := true) (t := 94) rfl rfl (by (repeat refine put_far (by decide) ?_); refine put_here rfl ?_; (repeat refine put_size ?_); exact of_decide_eq_true rfl)) (fun u hu => by obtain ⟨h1, h2, h3, h4, h5, h6⟩ := hu; go_simp) ?_
      refine mixI_take (.int .i64 (x.rules.length : Int)) rfl (wanted_at (g := 3) (b := true) (t := 94) rfl rfl (by (repeat refine put_far (by decide) ?_); refine put_here rfl ?_; (repeat refine put_size ?_); exact of_decide_eq_true rfl)) (fun u hu => by obtain ⟨h1, h2, h3, h4, h5, h6⟩ := hu; go_simp) ?_
      refine mixI_take (.bool true) rfl (wanted_at (g := 3) (b := true) (t := 94) rfl rfl (by (repeat refine put_far (by decide) ?_); refine put_here rfl ?_; (repeat refine put_size ?_); exact of_decide_eq_true rfl)) (fun u hu => by obtain ⟨h1, h2, h3, h4, h5, h6⟩ := hu; go_simp) ?_
      refine mixI_take (.bool true) rfl rfl (fun u hu => by obtain ⟨h1, h2, h3, h4, h5, h6⟩ := hu; go_simp) ?_
      refine mixI_take (.bool true) rfl rfl (fun u hu => by obtain ⟨h1, h2, h3, h4, h5, h6⟩ := hu; go_simp) ?_
      refine mixI_take (.pointer (some ⟨Hv, 0, none⟩)) rfl (wanted_at (g := 10) (b := true) (t := 101) rfl rfl (by (repeat refine put_far (by decide) ?_); refine put_here rfl ?_; (repeat refine put_size ?_); exact of_decide_eq_true rfl)) (fun u hu => by obtain ⟨h1, h2, h3, h4, h5, h6⟩ := hu; go_simp) ?_
      refine mixI_take (.slice (some ⟨bd, od, none⟩) 1 cv) rfl (wanted_at (g := 10) (b := true) (t := 101) rfl rfl (by (repeat refine put_far (by decide) ?_); refine put_here rfl ?_; (repeat refine put_size ?_); exact of_decide_eq_true rfl)) (fun u hu => by obtain ⟨h1, h2, h3, h4, h5, h6⟩ := hu; go_simp) ?_
      refine mixI_take (.int .i64 1) rfl (wanted_at (g := 10) (b := true) (t := 101) rfl rfl (by (repeat refine put_far (by decide) ?_); refine put_here rfl ?_; (repeat refine put_size ?_); exact of_decide_eq_true rfl)) (fun u hu => by obtain ⟨h1, h2, h3, h4, h5, h6⟩ := hu; go_simp) ?_
      refine mixI_take (.bool true) rfl (wanted_at (g := 10) (b := true) (t := 101) rfl rfl (by (repeat refine put_far (by decide) ?_); refine put_here rfl ?_; (repeat refine put_size ?_); exact of_decide_eq_true rfl)) (fun u hu => by obtain ⟨h1, h2, h3, h4, h5, h6⟩ := hu; go_simp) ?_
      refine mixI_take (.bool true) rfl rfl (fun u hu => by obtain ⟨h1, h2, h3, h4, h5, h6⟩ := hu; go_simp) ?_
      refine mixI_take (.bool true) rfl rfl (fun u hu => by obtain ⟨h1, h2, h3, h4, h5, h6⟩ := hu; go_simp) ?_
      refine mixI_take (.agg #[.slice (some ⟨bd, od, none⟩) 1 cv, .slice rv v.rules.length cr]) rfl (wanted_at (g := 16) (b := true) (t := 107) rfl rfl (by (repeat refine put_far (by decide) ?_); refine put_here rfl ?_; (repeat refine put_size ?_); exact of_decide_eq_true rfl)) (fun u hu => by obtain ⟨h1, h2, h3, h4, h5, h6⟩ := hu; go_simp) ?_
      refine mixI_take (.pointer (some ⟨H, 1, none⟩)) rfl (wanted_at (g := 16) (b := true) (t := 107) rfl rfl (by (repeat refine put_far (by decide) ?_); refine put_here rfl ?_; (repeat refine put_size ?_); exact of_decide_eq_true rfl)) (fun u hu => by obtain ⟨h1, h2, h3, h4, h5, h6⟩ := hu; go_simp) ?_
      refine mixI_take (.slice p1 (plainT v).rules.length q1) rfl (wanted_at (g := 16) (b := true) (t := 107) rfl rfl (by (repeat refine put_far (by decide) ?_); refine put_here rfl ?_; (repeat refine put_size ?_); exact of_decide_eq_true rfl)) (fun u hu => by obtain ⟨h1, h2, h3, h4, h5, h6⟩ := hu; go_simp) ?_
      refine mixI_go rfl (wanted_at (g := 16) (b := true) (t := 107) rfl rfl (by (repeat refine put_far (by decide) ?_); refine put_here rfl ?_; (repeat refine put_size ?_); exact of_decide_eq_true rfl)) fun K5 hK5 => wp_go (f := 18) (args := #[.agg #[.slice (some ⟨bd, od, none⟩) 1 cv, .slice rv v.rules.length cr]]) (by go_simp) ((plain_tx (w := W8.drew) HVO.out rfl (by have h := Reads.below hbd Q3.out; rw [hn1] at h ⊢; exact h) (Reads.below hbd Q4.out)).mono ?_)
      rintro e w9 ⟨p4, q4, p5, q5, rfl, _, P5, hb9'⟩
      have hb9 : Below W8.heap.size W8 w9 := hbd.trans hb9'
      refine hK5.out _ _ (hS8 _ hb9) ?_
      refine mixI_take (.slice p5 (plainT v).rules.length q5) rfl (wanted_at (g := 16) (b := true) (t := 107) rfl rfl (by (repeat refine put_far (by decide) ?_); refine put_here rfl ?_; (repeat refine put_size ?_); exact of_decide_eq_true rfl)) (fun u hu => by obtain ⟨h1, h2, h3, h4, h5, h6⟩ := hu; have hfl := field_text; go_simp) ?_
      refine mixI_go rfl (wanted_at (g := 16) (b := true) (t := 107) rfl rfl (by (repeat refine put_far (by decide) ?_); refine put_here rfl ?_; (repeat refine put_size ?_); exact of_decide_eq_true rfl)) fun K7 hK7 => wp_go (f := 19) (args := #[.slice p5 (plainT v).rules.length q5, .slice p1 (plainT v).rules.length q1]) (by go_simp) ((same_rules (l := (plainT v).rules) (w := w9) P5 (Reads.below hb9 RZ.out)).mono ?_)
      rintro e wa ⟨rfl, hba'⟩
      have hba : Below W8.heap.size W8 wa := hb9.trans (hba'.mono hb9.size)
      refine hK7.out _ _ (hS8 _ hba) ?_
      refine mixI_take (.bool true) rfl rfl (fun u hu => by obtain ⟨h1, h2, h3, h4, h5, h6⟩ := hu; go_simp) ?_
      refine mixI_take (.bool true) rfl rfl (fun u hu => by obtain ⟨h1, h2, h3, h4, h5, h6⟩ := hu; go_simp) ?_
      refine mixI_take (.pointer (some ⟨Hv, 0, none⟩)) rfl (wanted_at (g := 24) (b := true) (t := 115) rfl rfl (by (repeat refine put_far (by decide) ?_); refine put_here rfl ?_; (repeat refine put_size ?_); exact of_decide_eq_true rfl)) (fun u hu => by obtain ⟨h1, h2, h3, h4, h5, h6⟩ := hu; go_simp) ?_
      refine mixI_take (.slice (some ⟨bd, od, none⟩) 1 cv) rfl (wanted_at (g := 24) (b := true) (t := 115) rfl rfl (by (repeat refine put_far (by decide) ?_); refine put_here rfl ?_; (repeat refine put_size ?_); exact of_decide_eq_true rfl)) (fun u hu => by obtain ⟨h1, h2, h3, h4, h5, h6⟩ := hu; go_simp) ?_
      refine mixI_take (.pointer (some ⟨bd, od, none⟩)) rfl (wanted_at (g := 24) (b := true) (t := 115) rfl rfl (by (repeat refine put_far (by decide) ?_); refine put_here rfl ?_; (repeat refine put_size ?_); exact of_decide_eq_true rfl)) (fun u hu => by obtain ⟨h1, h2, h3, h4, h5, h6⟩ := hu; go_simp) ?_
      refine mixI_take (.pointer (some ⟨bd, od, none⟩)) rfl (wanted_at (g := 24) (b := true) (t := 115) rfl rfl (by (repeat refine put_far (by decide) ?_); refine put_here rfl ?_; (repeat refine put_size ?_); exact of_decide_eq_true rfl)) (fun u hu => by obtain ⟨h1, h2, h3, h4, h5, h6⟩ := hu; go_simp) ?_
      refine mixI_take (.string (bs [108, 101, 102, 116])) rfl (wanted_at (g := 24) (b := true) (t := 115) rfl rfl (by (repeat refine put_far (by decide) ?_); refine put_here rfl ?_; (repeat refine put_size ?_); exact of_decide_eq_true rfl)) (fun u hu => by obtain ⟨h1, h2, h3, h4, h5, h6⟩ := hu; go_simp) ?_
      refine mixI_go rfl (wanted_at (g := 24) (b := true) (t := 115) rfl rfl (by (repeat refine put_far (by decide) ?_); refine put_here rfl ?_; (repeat refine put_size ?_); exact of_decide_eq_true rfl)) fun K8 hK8 => wp_go (f := 20) (args := #[.string (bs [108, 101, 102, 116]), .string { data := #[108, 101, 102, 116] }]) (by go_simp) ((Try.strings_HasPrefix (bs [108, 101, 102, 116]) { data := #[108, 101, 102, 116] } wa).mono ?_)
      rintro e wc ⟨rfl, rfl⟩
      have hpre : Lib.hasPrefix (bs [108, 101, 102, 116]).data.toList (#[108, 101, 102, 116] : Array UInt8).toList = true := by decide
      refine hK8.out _ _ (hS8 _ hba) ?_
      simp only [hpre]
      refine mixI_take (.bool true) rfl rfl (fun u hu => by obtain ⟨h1, h2, h3, h4, h5, h6⟩ := hu; go_simp) ?_
      show wpList _ _ _ _ _ _
      clear hK5 hK7 hK8
      go_wp2_with fail
      go_ret
      exact ⟨rfl, (HBV.out.trans (hb8.mono HBV.out.size)).trans (hba.mono (HBV.out.trans (hb8.mono HBV.out.size)).size)⟩
theorem rows_any {a b : ByteArray} {w : World} {m : Int} (ha : a.size ≤ 140737488351232) (hb : b.size ≤ 140737488351232) (hm : w.cell? ⟨0, 0, none⟩ = some (.int .i64 m)) :
    Calls Try.prog 6 #[.string a, .string b] w fun e w' => e = .returned (.bool true) ∧ Below w.heap.size w w' := by
  by_cases h : 10000 < a.size ∨ 10000 < b.size
  · exact rows_big hm h ha hb
  · have h1 : a.size ≤ 10000 := by omega
    have h2 : b.size ≤ 10000 := by omega
    obtain ⟨o1, q1⟩ := says (twoB a).data.toList
    obtain ⟨o2, q2⟩ := says (twoB b).data.toList
    by_cases hbad : errO o1 ≠ 0 ∨ errO o2 ≠ 0
    · exact rows_bad hm h1 h2 q1 q2 hbad
    · cases o1 with
      | bad e p => exact absurd (.inl (Law11D.says_bad q1).1) hbad
      | ok x kx =>
        cases o2 with
        | bad e p => exact absurd (.inr (Law11D.says_bad q2).1) hbad
        | ok y ky => exact rows_good hm h1 h2 q1 q2
end Go.Proofs.Ytelpkldlkpoioaa.Law11G
