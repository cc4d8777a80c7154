/- The writer of grammars' texts, walked whole: its closure that catches. -/
import Derived.Test.YtghebacphjglbaaGreatWrM
import Derived.Test.YtghebacphjglbaaGreatTxD
import Derived.Defers
import Derived.Recover
import Derived.Test.YtghebacphjglbaaGreatWrE
namespace Go.Proofs.YtghebacphjglbaaGreat.WrN
open Go.Proofs.YtghebacphjglbaaGreat.ReadO (desD rusD txD)
open Go.RowKit Go.Proofs.YtghebacphjglbaaGreat.Lexy Go.Proofs.YtghebacphjglbaaGreat.LexA Go.Proofs.YtghebacphjglbaaGreat.LexB Go.Proofs.YtghebacphjglbaaGreat.LexC Go.Proofs.YtghebacphjglbaaGreat.LexD Go.Proofs.YtghebacphjglbaaGreat.LexE Go.Proofs.YtghebacphjglbaaGreat.LexF Go.Proofs.YtghebacphjglbaaGreat.LexG Go.Proofs.YtghebacphjglbaaGreat.Heap Go.Proofs.YtghebacphjglbaaGreat.Dat Go.Proofs.YtghebacphjglbaaGreat.Ready Go.Proofs.YtghebacphjglbaaGreat.ReadA Go.Proofs.YtghebacphjglbaaGreat.ReadC Go.Proofs.YtghebacphjglbaaGreat.ReadI Go.Proofs.YtghebacphjglbaaGreat.Same Go.Proofs.YtghebacphjglbaaGreat.Cut Go.Proofs.YtghebacphjglbaaGreat.WrB Go.Proofs.YtghebacphjglbaaGreat.WrD Go.Proofs.YtghebacphjglbaaGreat.WrE Go.Proofs.YtghebacphjglbaaGreat.WrF Go.Proofs.YtghebacphjglbaaGreat.WrG Go.Proofs.YtghebacphjglbaaGreat.WrH Go.Proofs.YtghebacphjglbaaGreat.WrI Go.Proofs.YtghebacphjglbaaGreat.WrJ Go.Proofs.YtghebacphjglbaaGreat.WrK Go.Proofs.YtghebacphjglbaaGreat.WrL Go.Proofs.YtghebacphjglbaaGreat.WrM Go.Proofs.YtghebacphjglbaaGreat.WrT

theorem catch_idle (p q : Addr) (w : World) :
    CallsD Tryz.prog 30 #[.pointer (some p), .pointer (some q)] .returning w fun e u' w' => e = .returned (.tuple #[]) ∧ u' = .returning ∧ w' = w := by
  refine callsD_of_wpS Tryz.func30 rfl fun c₀ cs hu => ?_
  apply wpS_seq
  apply wpS_region
  simp [wpOpsS, go_sem, recoverD, hu, Tryz.ntmps30, Exit.thenS]
  refine wpS_of_wp ?_
  simp only [Array.replicate_succ, Array.replicate_zero, List.push_toArray, List.append_toArray, List.nil_append, List.cons_append, List.setIfInBounds_toArray, List.set_cons_succ, List.set_cons_zero]
  go_wp2
  cases c₀
  simp_all [bodyPostS, results, Tryz.results30]
set_option maxRecDepth 100000 in
set_option maxHeartbeats 1000000 in
/-- the writer's own panic is caught: p: the text's block, q: the error's -/
theorem catch_thrown {p q B : Nat} {z : ByteArray} {x : Int} {w : World} (hp : w.heap[p]? = some (.cells #[.string z] 9 (0, 0))) (hq : w.heap[q]? = some (.cells #[.int .i64 x] 56 (0, 0)))
    (hpq : p ≠ q) (hBp : B ≤ p) (hBq : B ≤ q) :
    CallsD Tryz.prog 30 #[.pointer (some ⟨p, 0, none⟩), .pointer (some ⟨q, 0, none⟩)] (.panicking wrongP) w fun e u' w' =>
      e = .returned (.tuple #[]) ∧ u' = .panicking [{ v := .iface 76 (.agg #[]), recovered := true }] ∧
        w'.heap[p]? = some (.cells #[.string { data := #[] }] 9 (0, 0)) ∧ w'.heap[q]? = some (.cells #[.int .i64 4] 56 (0, 0)) ∧ Below B w w' := by
  have hpl := (Array.getElem?_eq_some_iff.1 hp).1
  have hql := (Array.getElem?_eq_some_iff.1 hq).1
  have p1 : w.cell? ⟨p, 0, none⟩ = some (.string z) := cell_of_row w p 0 _ _ (0, 0) hp
  have q1 : w.cell? ⟨q, 0, none⟩ = some (.int .i64 x) := cell_of_row w q 0 _ _ (0, 0) hq
  have p2 : w.frozen? ⟨p, 0, none⟩ = false := Lib.frozen_of_heap hp 0
  have q2 : w.frozen? ⟨q, 0, none⟩ = false := Lib.frozen_of_heap hq 0
  have HP := Lib.hid hp; have HQ := Lib.hid hq; clear hp hq
  have hqp : q ≠ p := fun e => hpq e.symm
  refine callsD_of_wpS Tryz.func30 rfl fun c₀ cs hu => ?_
  apply wpS_seq
  apply wpS_region
  unfold wrongP at hu
  simp [wpOpsS, go_sem, recoverD, hu, Tryz.ntmps30, Exit.thenS]
  refine wpS_of_wp ?_
  simp only [Array.replicate_succ, Array.replicate_zero, List.push_toArray, List.append_toArray, List.nil_append, List.cons_append, List.setIfInBounds_toArray, List.set_cons_succ, List.set_cons_zero]
  have HU := Lib.hid hu; clear hu
  have hta : ∀ w, (Instr.typeAssert (.iface 76 (.agg #[])) 20 76 true).run Tryz.prog w = .ok (.tuple #[.agg #[], .bool true]) w := fun w => by kernel_rfl
  go_wp2
  have hW := (((Below.refl B w).setCell (p := ⟨p, 0, none⟩) hBp (.string { data := #[] })).setCell (p := ⟨q, 0, none⟩) hBq (.int .i64 4)).alloc (show B ≤ _ by simp; omega) (.cells #[] 76)
  have k1 := heap_setCell_same w p 0 _ _ (.string { data := #[] }) HP.out
  have k2 : (w.setCell ⟨p, 0, none⟩ (.string { data := #[] })).heap[q]? = some (.cells #[.int .i64 x] 56 (0, 0)) := (Below.heap_setCell _ _ _ _ hqp).trans HQ.out
  have k3 := heap_setCell_same _ q 0 _ _ (.int .i64 4) k2
  have k4 := (Below.heap_setCell _ ⟨q, 0, none⟩ (.int .i64 4) p hpq).trans k1
  exact ⟨rfl, _, rfl, .tuple #[], by simp [results, Tryz.results30], rfl, rfl, (Below.heap_alloc _ _ _ (by simp; omega)).trans k4, (Below.heap_alloc _ _ _ (by simp; omega)).trans k3, hW⟩
/-- what is told of a text -/
def TextW (w : World) (x : Tx) (e : Ending) (w' : World) : Prop := Below w.heap.size w w' ∧ e = .returned (.tuple #[.string (if okT x = true then bs (wrT x) else { data := #[] }), .int .i64 (if okT x = true then 0 else 4)])
theorem res_w {w : World} {H : Nat} {z : ByteArray} {v : Int} {tmps : Array Value} (hS : w.heap[H + 1]? = some (.cells #[.string z] 9 (0, 0))) (hE : w.heap[H + 2]? = some (.cells #[.int .i64 v] 56 (0, 0)))
    (h2 : tmps[2]?.getD undef = .pointer (some ⟨H + 1, 0, none⟩)) (h3 : tmps[3]?.getD undef = .pointer (some ⟨H + 2, 0, none⟩)) : (results Tryz.f17 tmps).run Tryz.prog w = .ok (.tuple #[.string z, .int .i64 v]) w := by
  have a0 : w.cell? ⟨H + 1, 0, none⟩ = some (.string z) := cell_of_row w (H + 1) 0 _ _ (0, 0) hS
  have b0 : w.cell? ⟨H + 2, 0, none⟩ = some (.int .i64 v) := cell_of_row w (H + 2) 0 _ _ (0, 0) hE
  simp [results, Tryz.results17, go_sem, h2, h3, a0, b0]
/-- the writer's own panic, while a text is written -/
theorem text_fell {w w' : World} {x : Tx} {tmps : Array Value} {z : ByteArray} {v : Int} (hb : Below w.heap.size w w') (hS : w'.heap[w.heap.size + 1]? = some (.cells #[.string z] 9 (0, 0))) (hE : w'.heap[w.heap.size + 2]? = some (.cells #[.int .i64 v] 56 (0, 0)))
    (h2 : tmps[2]?.getD undef = .pointer (some ⟨w.heap.size + 1, 0, none⟩)) (h3 : tmps[3]?.getD undef = .pointer (some ⟨w.heap.size + 2, 0, none⟩)) (hok : okT x = false) :
    Leaves Tryz.prog Tryz.f17 tmps (TextW w x) [{ target := .fn (.func 30) #[.pointer (some ⟨w.heap.size + 1, 0, none⟩), .pointer (some ⟨w.heap.size + 2, 0, none⟩)], args := #[] }] (.panicking wrongP) w' := by
  refine leaves_cons (f := 30) (args := #[.pointer (some ⟨w.heap.size + 1, 0, none⟩), .pointer (some ⟨w.heap.size + 2, 0, none⟩)]) (by simp) (by simp [go_sem]) ?_
  refine (catch_thrown (B := w.heap.size) hS hE (by omega) (by omega) (by omega)).mono ?_
  rintro e u' w3 ⟨rfl, rfl, h4, h5, h6⟩
  refine ⟨_, res_w h4 h5 h2 h3, hb.trans h6, ?_⟩
  rw [hok]; rfl
/-- what a text stands on when it is begun -/
theorem boxes4 (w : World) (o1 o2 o3 o4 : Obj) : ((((w.alloc o1).alloc o2).alloc o3).alloc o4).heap[w.heap.size]? = some o1 ∧ ((((w.alloc o1).alloc o2).alloc o3).alloc o4).heap[w.heap.size + 1]? = some o2 ∧ ((((w.alloc o1).alloc o2).alloc o3).alloc o4).heap[w.heap.size + 2]? = some o3 ∧ ((((w.alloc o1).alloc o2).alloc o3).alloc o4).heap[w.heap.size + 3]? = some o4 ∧ Below w.heap.size w ((((w.alloc o1).alloc o2).alloc o3).alloc o4) ∧ ((((w.alloc o1).alloc o2).alloc o3).alloc o4).heap.size = w.heap.size + 4 := by
  obtain ⟨h1, h2, h3, hb, hs⟩ := boxes3 w o1 o2 o3
  have h4 := heap_alloc_new (((w.alloc o1).alloc o2).alloc o3) o4
  rw [hs] at h4
  exact ⟨(Below.heap_alloc _ _ _ (by omega)).trans h1, (Below.heap_alloc _ _ _ (by omega)).trans h2, (Below.heap_alloc _ _ _ (by omega)).trans h3, h4, hb.alloc (by omega) _, by simp⟩
theorem isW_new {B b : Nat} {w : World} (hB : B ≤ b) (h : w.heap[b]? = some (.cells #[.pointer none, .slice none 0 0] 80 (0, 0))) : IsW B b [] w :=
  .inl (Lib.BuilderAtF.of ⟨hB, .slice none 0 0, h, World.ownsRow_nil _ _ _ _, by simp [Value.ownBlock]⟩)
set_option maxRecDepth 100000 in
set_option maxHeartbeats 8000000 in
/-- THE WRITER: what it tells of any text -/
theorem text_any {x : Tx} {w : World} {m : Int} {sd sr : Value} (hm : w.cell? ⟨0, 0, none⟩ = some (.int .i64 m)) (hD : Reads w (.row 62 4 x.decls.length (desD x.decls)) sd) (hR : Reads w (.row 38 4 x.rules.length (rusD x.rules)) sr) (hok : TxOk x) (hlen : lenT x ≤ 140737488351232) :
    Calls Tryz.prog 17 #[.agg #[sd, sr]] w (TextW w x) := by
  obtain ⟨ds, rs⟩ := x
  obtain ⟨hn, hm2, hds, hrs⟩ := hok
  simp only at hD hR hn hm2 hds hrs
  obtain ⟨a0, c0, rfl⟩ := Reads.slice hD
  obtain ⟨a1, c1, rfl⟩ := Reads.slice hR
  have hmlt : 0 < w.heap.size := World.block_lt_of_cell? _ _ hm
  have hEw : Env w.heap.size m w := ⟨hm, hmlt, Nat.le_refl _⟩
  have HX := Lib.hid (boxes4 w (.cells #[.slice a0 ds.length c0, .slice a1 rs.length c1] 28 (0, 0)) (.cells #[.string { data := #[] }] 9 (0, 0)) (.cells #[.int .i64 0] 56 (0, 0)) (.cells #[.pointer none, .slice none 0 0] 80 (0, 0)))
  have hdc : ∀ (k : Nat) (hk : k < ds.length) (b : Nat) (u : World) (l' : List UInt8) (s : Value), IsW w.heap.size b l' u → Env w.heap.size m u → Below w.heap.size w u → Reads w (.row 9 1 ds[k].names.length (nmsD ds[k].names)) s → (kindB ds[k] = true → l'.length + (wrD ds[k]).length ≤ 140737488351232) →
      Calls Tryz.prog 31 #[.pointer (some ⟨b, 0, none⟩), .agg #[.string (bs ds[k].kind), .string (bs ds[k].type), s, .int .i64 ds[k].at_]] u (Wrote w.heap.size b u l' (okD ds[k]) (wrD ds[k])) := fun k hk b u l' s hi he hu hr hl => decl_any hi he hu hr hl (hds _ (List.getElem_mem hk))
  have hrc : ∀ (k : Nat) (hk : k < rs.length) (b : Nat) (u : World) (l' : List UInt8) (s1 s2 : Value), IsW w.heap.size b l' u → Env w.heap.size m u → Below w.heap.size w u → Reads w (.row 9 1 rs[k].params.length (nmsD rs[k].params)) s1 → Reads w (.row 35 6 rs[k].alts.length (alsD rs[k].alts)) s2 → l'.length + (wrR rs[k]).length ≤ 140737488351232 →
      Calls Tryz.prog 33 #[.pointer (some ⟨b, 0, none⟩), .agg #[.string (bs rs[k].name), s1, s2, .int .i64 rs[k].at_]] u (Wrote w.heap.size b u l' (okR rs[k]) (wrR rs[k])) := fun k hk b u l' s1 s2 hi he hu hr1 hr2 hl => rule_any hi he hu hr1 hr2 hl (hrs _ (List.getElem_mem hk))
  have HDC := Lib.hid hdc; have HRC := Lib.hid hrc
  have HLR := Lib.hid (fm_len wrR rs)
  have HE := Lib.hid hEw; have HD := Lib.hid hD; have HR := Lib.hid hR
  unfold lenT at hlen
  have HF0 := Lib.hid (show ds.all okD = false → okT ⟨ds, rs⟩ = false from fun e => by unfold okT; rw [e]; rfl)
  have HF1 := Lib.hid (show rs.all okR = false → okT ⟨ds, rs⟩ = false from fun e => by unfold okT; rw [e]; simp)
  have HF2 := Lib.hid (show ds.all okD = true → rs.all okR = true → okT ⟨ds, rs⟩ = true from fun e1 e2 => by unfold okT; rw [e1, e2]; rfl)
  clear hdc hrc hEw hD hR hds hrs hm hmlt
  go_enter_defers Tryz.func17, Tryz.ntmps17
  go_upto_region 3 with fail
  generalize hw1 : ((((w.alloc (.cells #[.slice a0 ds.length c0, .slice a1 rs.length c1] 28 (0, 0))).alloc (.cells #[.string { data := #[] }] 9 (0, 0))).alloc (.cells #[.int .i64 0] 56 (0, 0))).alloc (.cells #[.pointer none, .slice none 0 0] 80 (0, 0))) = w1 at *
  clear hw1
  obtain ⟨x0, x1, x2, x3, hbx, hsx⟩ := HX.out
  have X0 := Lib.hid x0; have X1 := Lib.hid x1; have X2 := Lib.hid x2
  have HI1 := Lib.hid (isW_new (B := w.heap.size) (by omega) x3)
  have HK1 := Lib.hid ((Kb.refl w.heap.size (w.heap.size + 3) w).new hbx (Nat.le_refl _))
  have y0 : w1.cell? ⟨w.heap.size, 0, none⟩ = some (.slice a0 ds.length c0) := cell_of_row w1 w.heap.size 0 _ _ (0, 0) x0
  clear HX x0 x1 x2 x3 hbx
  go_wp2
  go_loopg [15] ds.length (fun gk i wr => ∃ (k : Nat), k ≤ ds.length ∧ gk = ds.length - k ∧ i = .int .i64 (k : Int) ∧ IsW w.heap.size (w.heap.size + 3) ((ds.take k).flatMap wrD) wr ∧ Kb w.heap.size (w.heap.size + 3) w1 wr ∧ (ds.take k).all okD = true)
  case atStart => exact ⟨0, by omega, by omega, rfl, by simpa using HI1.out, .refl _ _ _, by simp⟩
  case round =>
    clear HI1 y0
    obtain ⟨k, hk, rfl, rfl, hIr, hKr, hA⟩ := hrel
    have hKw := HK1.out.trans hKr
    have HWr := Lib.hid hKw.below
    have HEr := Lib.hid (HE.out.kb hKw)
    have hszr := HWr.out.size
    have XA0 := Lib.hid (hKr.heap X0.out (by omega) (by decide))
    have XA1 := Lib.hid (hKr.heap X1.out (by omega) (by decide))
    have XA2 := Lib.hid (hKr.heap X2.out (by omega) (by decide))
    by_cases hlt : k < ds.length
    · obtain ⟨g, o, rfl, r1⟩ := Reads.elems HD.out (by omega)
      obtain ⟨a5, c5, e0, e1, e2, e3, hry⟩ := decl_cells r1 hlt
      have hgl : g < w.heap.size := World.block_lt_of_cell? _ _ e0
      have q0 := (HWr.out.cell (p := ⟨g, o + k * 4, none⟩) hgl).trans e0
      have q1 := (HWr.out.cell (p := ⟨g, o + k * 4 + 1, none⟩) hgl).trans e1
      have q2 := (HWr.out.cell (p := ⟨g, o + k * 4 + 2, none⟩) hgl).trans e2
      have q3 := (HWr.out.cell (p := ⟨g, o + k * 4 + 3, none⟩) hgl).trans e3
      have hnx := fm_next wrD hlt
      have hle := fun (h : kindB ds[k] = true) => fmD hlt hA h
      have hwc := fun (u : World) (l' : List UInt8) hi he hw hl => HDC.out k hlt (w.heap.size + 3) u l' _ hi he hw hry hl
      have HV0 := Lib.hid (fun e => HF0.out (all_false okD hlt e)); have HV1 := Lib.hid (all_take okD hlt hA)
      have HN := Lib.hid hnx; have HWC := Lib.hid hwc
      clear hnx hwc hry r1 e0 e1 e2 e3 hA
      generalize ds[k] = y at hle HN HWC HV0 HV1 q0 q1 q2 q3
      obtain ⟨yk, yt, yn, ya⟩ := y
      simp only at q0 q1 q2 q3
      generalize wrD ⟨yk, yt, yn, ya⟩ = wv at hle HN HWC
      generalize okD ⟨yk, yt, yn, ya⟩ = okv at HV0 HV1 HWC
      generalize kindB ⟨yk, yt, yn, ya⟩ = kbv at hle HWC
      have HLE := Lib.hid hle; clear hle
      have j0 : (0 : Int) ≤ (k : Int) := by omega
      have j1 : (k : Int) < (ds.length : Int) := by omega
      generalize bs yk = zk at *
      generalize bs yt = zt at *
      have HIr := Lib.hid hIr; have HKr := Lib.hid hKr; have HKw := Lib.hid hKw; clear hIr hKr hKw
      go_upto_region 6 with fail
      have HX2 := Lib.hid (box1 wr (.cells #[.string zk, .string zt, .slice a5 yn.length c5, .int .i64 ya] 62 (0, 0)))
      generalize hw2 : wr.alloc (.cells #[.string zk, .string zt, .slice a5 yn.length c5, .int .i64 ya] 62 (0, 0)) = w5 at *
      clear hw2
      obtain ⟨v1, hb2, hs2⟩ := HX2.out
      have HI2 := Lib.hid (HIr.out.new hb2); have HE2 := Lib.hid (HEr.out.new hb2); have HK2 := Lib.hid (HKr.out.new hb2 hszr)
      have HW2 := Lib.hid (HWr.out.trans (hb2.mono hszr))
      have v3 := cell_of_row w5 wr.heap.size 0 _ _ (0, 0) v1
      have v4 := cell_of_row w5 wr.heap.size 1 _ _ (0, 0) v1
      have v5 := cell_of_row w5 wr.heap.size 2 _ _ (0, 0) v1
      have v6 := cell_of_row w5 wr.heap.size 3 _ _ (0, 0) v1
      generalize wr.heap.size = G at *
      clear HX2 hb2 v1 q0 q1 q2 q3
      have HC := Lib.hid (HWC.out w5 _ HI2.out HE2.out HW2.out (fun hkv => by have := HLE.out hkv; omega))
      go_wp2_with (go_at_call 31; refine (HC.out).mono ?_; rintro e w7 ⟨hK5, hr⟩; rcases hr with ⟨rfl, rfl, hI5⟩ | ⟨rfl, rfl⟩)
      · have HI5 := Lib.hid hI5; have HK5 := Lib.hid hK5; clear hI5 hK5
        go_roundg (ds.length - (k + 1))
        case measure => omega
        case rel => exact ⟨k + 1, by omega, rfl, by go_num, by rw [HN.out]; exact HI5.out, HK2.out.trans HK5.out, HV1.out trivial⟩
      · have hK6 := HK2.out.trans hK5
        exact text_fell (HK1.out.trans hK6).below (hK6.heap X1.out (by omega) (by decide)) (hK6.heap X2.out (by omega) (by decide)) rfl rfl (HV0.out trivial)
    · obtain rfl : k = ds.length := by omega
      rw [List.take_length] at hIr hA
      have HIr := Lib.hid hIr; have HKw := Lib.hid hKw; have HA := Lib.hid hA
      have y1 : wr.cell? ⟨w.heap.size, 1, none⟩ = some (.slice a1 rs.length c1) := cell_of_row wr w.heap.size 1 _ _ (0, 0) XA0.out
      have hdl : (ds.flatMap wrD).length = (ds.flatMap wrD').length := by rw [ds_kind hA]
      clear hIr hKr hA hKw HDC HD HF0
      generalize hwl : ds.flatMap wrD = wl at *
      have HWL := Lib.hid hwl; clear hwl
      go_upto_region 9 with (go_at_call 32; refine (put1 (w := wr) (s := [37, 37, 10]) (by omega) rfl HIr.out (by omega) (by simp only [List.length_cons, List.length_nil]; omega)).mono ?_; rintro e w6 ⟨rfl, hI3, hK3⟩)
      have XB0 := Lib.hid (hK3.heap XA0.out (by omega) (by decide))
      have XB1 := Lib.hid (hK3.heap XA1.out (by omega) (by decide))
      have XB2 := Lib.hid (hK3.heap XA2.out (by omega) (by decide))
      have HIc := Lib.hid hI3
      have HKc := Lib.hid (HKw.out.trans hK3)
      have hla : (wl ++ [37, 37, 10]).length + (rs.flatMap wrR).length ≤ 140737488351232 := by simp only [List.length_append, List.length_cons, List.length_nil]; omega
      have HWT := Lib.hid (show wrT ⟨ds, rs⟩ = wl ++ [37, 37, 10] ++ rs.flatMap wrR by unfold wrT; rw [HWL.out]; simp)
      have HNE := Lib.hid (show ∀ x : List UInt8, wl ++ [37, 37, 10] ++ x ≠ [] from fun x => by simp)
      have y1 : w6.cell? ⟨w.heap.size, 1, none⟩ = some (.slice a1 rs.length c1) := cell_of_row w6 w.heap.size 1 _ _ (0, 0) XB0.out
      clear hI3 hK3 XA0 XA1 XA2 X0 X1 X2 HIr HKw HK1 HEr HWr hszr HWL hlen
      generalize wl ++ [37, 37, 10] = la at *
      have HC0 := HA; clear HA
      go_wp2
      go_loopg [29] rs.length (fun gk i wr => ∃ (k : Nat), k ≤ rs.length ∧ gk = rs.length - k ∧ i = .int .i64 (k : Int) ∧ IsW w.heap.size (w.heap.size + 3) (la ++ (rs.take k).flatMap wrR) wr ∧ Kb w.heap.size (w.heap.size + 3) w6 wr ∧ (rs.take k).all okR = true)
      case atStart => exact ⟨0, by omega, by omega, rfl, by simpa using HIc.out, .refl _ _ _, by simp⟩
      case round =>
        clear HIc y1
        obtain ⟨k, hk, rfl, rfl, hIr, hKr, hA⟩ := hrel
        have hKw := HKc.out.trans hKr
        have HWr := Lib.hid hKw.below
        have HEr := Lib.hid (HE.out.kb hKw)
        have hszr := HWr.out.size
        have XC1 := Lib.hid (hKr.heap XB1.out (by omega) (by decide))
        have XC2 := Lib.hid (hKr.heap XB2.out (by omega) (by decide))
        by_cases hlt : k < rs.length
        · obtain ⟨g, o, rfl, r1⟩ := Reads.elems HR.out (by omega)
          obtain ⟨a5, c5, a6, c6, e0, e1, e2, e3, hry, hrz⟩ := rule_cells r1 hlt
          have hgl : g < w.heap.size := World.block_lt_of_cell? _ _ e0
          have q0 := (HWr.out.cell (p := ⟨g, o + k * 4, none⟩) hgl).trans e0
          have q1 := (HWr.out.cell (p := ⟨g, o + k * 4 + 1, none⟩) hgl).trans e1
          have q2 := (HWr.out.cell (p := ⟨g, o + k * 4 + 2, none⟩) hgl).trans e2
          have q3 := (HWr.out.cell (p := ⟨g, o + k * 4 + 3, none⟩) hgl).trans e3
          have hnx := fm_next wrR hlt
          have hle := HLR.out (k + 1)
          rw [hnx] at hle
          simp only [List.length_append] at hle
          have hwc := fun (u : World) (l' : List UInt8) hi he hw hl => HRC.out k hlt (w.heap.size + 3) u l' _ _ hi he hw hry hrz hl
          have HV0 := Lib.hid (fun e => HF1.out (all_false okR hlt e)); have HV1 := Lib.hid (all_take okR hlt hA)
          have HN := Lib.hid hnx; have HWC := Lib.hid hwc
          clear hnx hwc hry hrz r1 e0 e1 e2 e3 hA
          generalize rs[k] = y at hle HN HWC HV0 HV1 q0 q1 q2 q3
          obtain ⟨yn, yp, ya, yt⟩ := y
          simp only at q0 q1 q2 q3
          generalize wrR ⟨yn, yp, ya, yt⟩ = wv at hle HN HWC
          generalize okR ⟨yn, yp, ya, yt⟩ = okv at HV0 HV1 HWC
          have j0 : (0 : Int) ≤ (k : Int) := by omega
          have j1 : (k : Int) < (rs.length : Int) := by omega
          generalize bs yn = zn at *
          have HIr := Lib.hid hIr; have HKr := Lib.hid hKr; have HKw := Lib.hid hKw; clear hIr hKr hKw
          go_upto_region 12 with fail
          have HX2 := Lib.hid (box1 wr (.cells #[.string zn, .slice a5 yp.length c5, .slice a6 ya.length c6, .int .i64 yt] 38 (0, 0)))
          generalize hw2 : wr.alloc (.cells #[.string zn, .slice a5 yp.length c5, .slice a6 ya.length c6, .int .i64 yt] 38 (0, 0)) = w5 at *
          clear hw2
          obtain ⟨v1, hb2, hs2⟩ := HX2.out
          have HI2 := Lib.hid (HIr.out.new hb2); have HE2 := Lib.hid (HEr.out.new hb2); have HK2 := Lib.hid (HKr.out.new hb2 hszr)
          have HW2 := Lib.hid (HWr.out.trans (hb2.mono hszr))
          have v3 := cell_of_row w5 wr.heap.size 0 _ _ (0, 0) v1
          have v4 := cell_of_row w5 wr.heap.size 1 _ _ (0, 0) v1
          have v5 := cell_of_row w5 wr.heap.size 2 _ _ (0, 0) v1
          have v6 := cell_of_row w5 wr.heap.size 3 _ _ (0, 0) v1
          generalize wr.heap.size = G at *
          clear HX2 hb2 v1 q0 q1 q2 q3
          have HC := Lib.hid (HWC.out w5 _ HI2.out HE2.out HW2.out (by simp only [List.length_append]; omega))
          go_wp2_with (go_at_call 33; refine (HC.out).mono ?_; rintro e w7 ⟨hK5, hr⟩; rcases hr with ⟨rfl, rfl, hI5⟩ | ⟨rfl, rfl⟩)
          · have HI5 := Lib.hid hI5; have HK5 := Lib.hid hK5; clear hI5 hK5
            go_roundg (rs.length - (k + 1))
            case measure => omega
            case rel => exact ⟨k + 1, by omega, rfl, by go_num, by rw [HN.out, ← List.append_assoc]; exact HI5.out, HK2.out.trans HK5.out, HV1.out trivial⟩
          · have hK6 := HK2.out.trans hK5
            exact text_fell (HKc.out.trans hK6).below (hK6.heap XB1.out (by omega) (by decide)) (hK6.heap XB2.out (by omega) (by decide)) rfl rfl (HV0.out trivial)
        · obtain rfl : k = rs.length := by omega
          rw [List.take_length] at hIr hA
          have HIr := Lib.hid hIr; have HKw := Lib.hid hKw
          have HOK := Lib.hid (HF2.out HC0.out hA)
          clear hIr hKr hA hKw HRC HLR HR HF1 HF2 HC0
          have HST := Lib.hid (string_any HIr.out (HNE.out _))
          have HZ := Lib.hid HWT.out.symm
          generalize hzz : la ++ rs.flatMap wrR = zl at *
          clear hzz
          go_wp2_with (go_at_call 14; refine (HST.out).mono ?_; rintro e w7 ⟨rfl, hI5, hK5⟩; have XD1 := hK5.heap XC1.out (by omega) (by decide); have XD2 := hK5.heap XC2.out (by omega) (by decide); have HXD1 := Lib.hid XD1; have HXD2 := Lib.hid XD2; have HK5 := Lib.hid hK5; have p1 : w7.cell? ⟨w.heap.size + 1, 0, none⟩ = some (.string { data := #[] }) := cell_of_row w7 _ 0 _ _ (0, 0) XD1; have p2 : w7.cell? ⟨w.heap.size + 2, 0, none⟩ = some (.int .i64 0) := cell_of_row w7 _ 0 _ _ (0, 0) XD2; have p3 : w7.frozen? ⟨w.heap.size + 1, 0, none⟩ = false := Lib.frozen_of_heap XD1 0; have p4 : w7.frozen? ⟨w.heap.size + 2, 0, none⟩ = false := Lib.frozen_of_heap XD2 0; clear hK5 XD1 XD2 hI5)
          have z1 := heap_setCell_same w7 (w.heap.size + 1) 0 _ _ (.string (bs zl)) HXD1.out
          have z2 : (w7.setCell ⟨w.heap.size + 1, 0, none⟩ (.string (bs zl))).heap[w.heap.size + 2]? = some (.cells #[.int .i64 0] 56 (0, 0)) := (Below.heap_setCell _ _ _ _ (by simp)).trans HXD2.out
          have z3 := heap_setCell_same _ (w.heap.size + 2) 0 _ _ (.int .i64 0) z2
          have z4 := (Below.heap_setCell _ ⟨w.heap.size + 2, 0, none⟩ (.int .i64 0) (w.heap.size + 1) (by simp)).trans z1
          refine leaves_cons (f := 30) (args := #[.pointer (some ⟨w.heap.size + 1, 0, none⟩), .pointer (some ⟨w.heap.size + 2, 0, none⟩)]) (by simp) (by simp [go_sem]) ?_
          refine (catch_idle _ _ _).mono ?_
          rintro e u' w3 ⟨rfl, rfl, rfl⟩
          refine ⟨_, res_w z4 z3 rfl rfl, ((HKw.out.trans HK5.out).below.setCell (p := ⟨w.heap.size + 1, 0, none⟩) (by simp) _).setCell (p := ⟨w.heap.size + 2, 0, none⟩) (by simp) _, ?_⟩
          rw [HOK.out, ← HZ.out]
          rfl
end Go.Proofs.YtghebacphjglbaaGreat.WrN
