/- The writer of grammars' texts: rules, walked. -/
import Derived.Test.YtghebacphjglbaaGreatWrK
namespace Go.Proofs.YtghebacphjglbaaGreat.WrL
open Go.RowKit Go.Proofs.YtghebacphjglbaaGreat.Lexy Go.Proofs.YtghebacphjglbaaGreat.LexA Go.Proofs.YtghebacphjglbaaGreat.LexB Go.Proofs.YtghebacphjglbaaGreat.LexC Go.Proofs.YtghebacphjglbaaGreat.LexD Go.Proofs.YtghebacphjglbaaGreat.LexE Go.Proofs.YtghebacphjglbaaGreat.LexF Go.Proofs.YtghebacphjglbaaGreat.LexG Go.Proofs.YtghebacphjglbaaGreat.Heap Go.Proofs.YtghebacphjglbaaGreat.Dat Go.Proofs.YtghebacphjglbaaGreat.Ready Go.Proofs.YtghebacphjglbaaGreat.ReadA Go.Proofs.YtghebacphjglbaaGreat.ReadC Go.Proofs.YtghebacphjglbaaGreat.ReadI Go.Proofs.YtghebacphjglbaaGreat.Same Go.Proofs.YtghebacphjglbaaGreat.Cut Go.Proofs.YtghebacphjglbaaGreat.WrB Go.Proofs.YtghebacphjglbaaGreat.WrD Go.Proofs.YtghebacphjglbaaGreat.WrE Go.Proofs.YtghebacphjglbaaGreat.WrF Go.Proofs.YtghebacphjglbaaGreat.WrG Go.Proofs.YtghebacphjglbaaGreat.WrH Go.Proofs.YtghebacphjglbaaGreat.WrI Go.Proofs.YtghebacphjglbaaGreat.WrJ Go.Proofs.YtghebacphjglbaaGreat.WrK

/-- two things boxed, one behind the other -/
theorem boxes2 (w : World) (o1 o2 : Obj) : ((w.alloc o1).alloc o2).heap[w.heap.size]? = some o1 ∧ ((w.alloc o1).alloc o2).heap[w.heap.size + 1]? = some o2 ∧ Below w.heap.size w ((w.alloc o1).alloc o2) ∧ ((w.alloc o1).alloc o2).heap.size = w.heap.size + 2 := by
  have h1 := heap_alloc_new w o1
  have h2 := heap_alloc_new (w.alloc o1) o2
  have s1 : (w.alloc o1).heap.size = w.heap.size + 1 := by simp
  rw [s1] at h2
  refine ⟨?_, h2, ((Below.refl _ _).alloc (Nat.le_refl _) _).alloc (by omega) _, by simp⟩
  exact (Below.heap_alloc _ _ _ (by omega)).trans h1
set_option maxRecDepth 100000 in
set_option maxHeartbeats 2000000 in
/-- the closure that writes a parameter -/
theorem part_rule {W0 : World} {nm : List UInt8} {ps : List (List UInt8)} {sp sa : Value} {at_ : Int} {b H : Nat} {m : Int} {w : World} (hE : Env W0.heap.size m w) (hW : Below W0.heap.size W0 w) (hR : Reads W0 (.row 9 1 ps.length (nmsD ps)) sp) (hn : ps.length ≤ 1000000)
    (h1 : w.heap[H]? = some (.cells #[.pointer (some ⟨b, 0, none⟩)] 78 (0, 0))) (h2 : w.heap[H + 1]? = some (.cells #[.string (bs nm), sp, sa, .int .i64 at_] 38 (0, 0))) (hbH : b < H) :
    PartW W0.heap.size b 51 #[.pointer (some ⟨H, 0, none⟩), .pointer (some ⟨H + 1, 0, none⟩)] w ps (ps.map nameB) where
  enters := fun args w => by kernel_rfl
  len := by simp
  part := fun i hi ok w' l' ho hK hI hlen => by
    obtain ⟨a0, c, rfl⟩ := Reads.slice hR
    obtain ⟨g, o, rfl, hr⟩ := Reads.elems hR (by omega)
    have e0 := name_cell hr hi
    have hW' : Below W0.heap.size W0 w' := hW.trans hK.below
    have k1 := hK.heap h1 (by omega) (by decide)
    have k2 := hK.heap h2 (by omega) (by decide)
    have hgl : g < W0.heap.size := World.block_lt_of_cell? _ _ e0
    have q0 := (hW'.cell (p := ⟨g, o + i, none⟩) hgl).trans e0
    have hH1 : H < w'.heap.size := (Array.getElem?_eq_some_iff.1 k1).1
    have hH2 : H + 1 < w'.heap.size := (Array.getElem?_eq_some_iff.1 k2).1
    have hsz := hW'.size
    have hoi : ok = nameB ps[i] := by rw [List.getElem?_map, List.getElem?_eq_getElem hi] at ho; exact (Option.some.inj ho).symm
    subst hoi
    have HC := Lib.hid (fun (u : World) (gg : Nat) (hg : gg = u.heap.size) (hu : Below w'.heap.size w' u) => name1 (n := ps[i]) (a := []) (z := bs ps[i]) hg rfl rfl (hI.new hu) ((hE.kb hK).new hu) (by simpa using hlen))
    have j0 : (0 : Int) ≤ (i : Int) := by omega
    have j1 : (i : Int) < (ps.length : Int) := by omega
    generalize nameB ps[i] = okv at HC ⊢
    generalize ps[i] = wv at HC hlen q0 ⊢
    clear hr ho hR hE hI hW h1 h2 e0
    have c1' := cell_of_row w' H 0 _ _ (0, 0) k1
    have c2' := cell_of_row w' (H + 1) 1 _ _ (0, 0) k2
    have HQ := Lib.hid q0
    have HK1 := Lib.hid c1'; have HK2 := Lib.hid c2'
    clear k1 k2 q0 c1' c2'
    go_enter Tryz.func51, Tryz.ntmps51
    refine wp_region_mixI (l1 := [_, _, _, _, _, _, _]) (l2 := [_]) [(0, true), (1, true), (2, true), (3, true), (4, true), (5, true), (6, false)] (fun u => Below w'.heap.size w' u) (by kernel_rfl) (by kernel_rfl) (by repeat (first | refine loose_then ?_ | refine loose_block ?_ | exact loose_body (P := Tryz.prog) (fn := Tryz.f51))) ((Below.refl _ w').drew) ?_
    refine mixI_take (.pointer (some ⟨b, 0, none⟩)) rfl rfl (fun u hu => by have hc := (hu.cell (p := ⟨H, 0, none⟩) (by omega)).trans HK1.out; go_simp) ?_
    refine mixI_take (.pointer (some ⟨H + 1, 1, none⟩)) rfl rfl (fun u hu => by go_simp) ?_
    refine mixI_take (.slice (some ⟨g, o, none⟩) ps.length c) rfl rfl (fun u hu => by have hc := (hu.cell (p := ⟨H + 1, 1, none⟩) (by simp; omega)).trans HK2.out; go_simp) ?_
    refine mixI_take (.int .i64 (i : Int)) rfl rfl (fun u hu => by go_simp) ?_
    refine mixI_take (.pointer (some ⟨g, o + i, none⟩)) rfl rfl (fun u hu => by go_simp) ?_
    refine mixI_take (.string (bs wv)) rfl rfl (fun u hu => by have hc := (hu.cell (p := ⟨g, o + i, none⟩) (by simp; omega)).trans HQ.out; go_simp) ?_
    refine mixI_go rfl rfl fun K hK => wp_val (v := .slice (some ⟨w'.drew.heap.size, 0, none⟩) 1 1) (w' := w'.drew.alloc (.cells #[.string (bs wv)] 9)) (by go_simp) ?_
    refine hK.out _ _ (((Below.refl _ w').drew).alloc (by simp) _) ?_
    clear hK
    show wpList _ _ _ _ _ _
    have hkd : Kb W0.heap.size b w' w'.drew := (Kb.refl _ _ _).new ((Below.refl _ w').drew) hsz
    have HD := Lib.hid (HC.out w'.drew _ rfl ((Below.refl _ w').drew))
    go_wp2_with (go_at_call 49; refine (HD.out).mono ?_; rintro e w3 ⟨hK3, hr⟩; rcases hr with ⟨h5, rfl, hW3⟩ | ⟨h5, rfl⟩)
    · have HW3 := Lib.hid hW3; have HK3 := Lib.hid hK3; have H5 := Lib.hid h5; clear hW3 hK3 h5
      go_end0
      exact ⟨hkd.trans HK3.out, .inl ⟨H5.out, rfl, HW3.out⟩⟩
    · exact ⟨rfl, hkd.trans hK3, .inr ⟨rfl, rfl⟩⟩
theorem alts_next {l : List Al} {k : Nat} (h : k < l.length) : wrAlts (l.take (k + 1)) = wrAlts (l.take k) ++ ((if k = 0 then [58] else [9, 124]) ++ wrA l[k]) := by
  cases l with
  | nil => simp at h
  | cons p ps =>
    cases k with
    | zero => simp [wrAlts, wrAs]
    | succ k =>
      have h' : k < ps.length := by simpa using h
      have e : ps.take (k + 1) = ps.take k ++ [ps[k]] := by simp
      rw [List.take_succ_cons, wrAlts, e, List.take_succ_cons, wrAlts, wrAs, wrAs, List.flatMap_append]
      simp
theorem alts_len (l : List Al) (k : Nat) : (wrAlts (l.take k)).length ≤ (wrAlts l).length := by
  cases l with
  | nil => simp
  | cons p ps =>
    cases k with
    | zero => simp [wrAlts]
    | succ k =>
      have := fm_len (fun a : Al => 9 :: 124 :: wrA a) ps k
      rw [List.take_succ_cons, wrAlts, wrAlts, wrAs, wrAs]
      simp only [List.length_append, List.length_cons]
      omega
set_option maxRecDepth 100000 in
set_option maxHeartbeats 8000000 in
theorem rule_any {W0 : World} {x : Ru} {b : Nat} {m : Int} {l : List UInt8} {w : World} {sp sa : Value} (hI : IsW W0.heap.size b l w) (hE : Env W0.heap.size m w) (hW : Below W0.heap.size W0 w) (hP : Reads W0 (.row 9 1 x.params.length (nmsD x.params)) sp) (hA : Reads W0 (.row 35 6 x.alts.length (alsD x.alts)) sa) (hlen : l.length + (wrR x).length ≤ 140737488351232) (hok : RuOk x) :
    Calls Tryz.prog 33 #[.pointer (some ⟨b, 0, none⟩), .agg #[.string (bs x.name), sp, sa, .int .i64 x.at_]] w (Wrote W0.heap.size b w l (okR x) (wrR x)) := by
  obtain ⟨nm, ps, ays, at_⟩ := x
  obtain ⟨hn, hm, hal⟩ := hok
  simp only at hP hA hn hm hal ⊢
  unfold wrR at hlen ⊢
  unfold okR
  simp only [List.length_append, List.length_cons, List.length_nil] at hlen ⊢
  obtain ⟨a0, c0, rfl⟩ := Reads.slice hP
  obtain ⟨a1, c1, rfl⟩ := Reads.slice hA
  have hbl := hI.lt
  have hsz := hW.size
  have HX := Lib.hid (boxes2 w (.cells #[.pointer (some ⟨b, 0, none⟩)] 78 (0, 0)) (.cells #[.string (bs nm), .slice a0 ps.length c0, .slice a1 ays.length c1, .int .i64 at_] 38 (0, 0)))
  have hnm : ∀ (u : World) (g : Nat), g = u.heap.size → IsW W0.heap.size b l u → Env W0.heap.size m u → Calls Tryz.prog 49 #[.pointer (some ⟨b, 0, none⟩), .string { data := #[] }, .slice (some ⟨g, 0, none⟩) 1 1] (u.alloc (.cells #[.string (bs nm)] 9)) (Wrote W0.heap.size b u l (nameB nm) nm) := fun u g hg hu he => name1 (n := nm) (a := []) hg rfl rfl hu he (by simp only [List.length_nil]; omega)
  have hrw : ∀ (u : World) (l' : List UInt8) (H : Nat), b < H → Below W0.heap.size W0 u → Env W0.heap.size m u → IsW W0.heap.size b l' u → l'.length + (wrN ps).length ≤ 140737488351232 → u.heap[H]? = some (.cells #[.pointer (some ⟨b, 0, none⟩)] 78 (0, 0)) → u.heap[H + 1]? = some (.cells #[.string (bs nm), .slice a0 ps.length c0, .slice a1 ays.length c1, .int .i64 at_] 38 (0, 0)) →
      Calls Tryz.prog 50 #[.pointer (some ⟨b, 0, none⟩), .int .i64 (ps.length : Int), .func (.func 51) #[] #[.pointer (some ⟨H, 0, none⟩), .pointer (some ⟨H + 1, 0, none⟩)]] u (Wrote W0.heap.size b u l' (ps.all nameB) (wrN ps)) := fun u l' H hbH hu he hi hl k1 k2 => by
    have := row_any (part_rule he hu hP hn k1 k2 hbH) hi he.size hl hn
    have e : (ps.map nameB).all id = ps.all nameB := by rw [List.all_map]; rfl
    rw [e] at this
    exact this
  have hac : ∀ (k : Nat) (hk : k < ays.length) (u : World) (l' : List UInt8) (s : Value), IsW W0.heap.size b l' u → Env W0.heap.size m u → Below W0.heap.size W0 u → Reads W0 (.row 33 3 ays[k].words.length (wdsD ays[k].words)) s → l'.length + (wrA ays[k]).length ≤ 140737488351232 →
      Calls Tryz.prog 52 #[.pointer (some ⟨b, 0, none⟩), .agg #[s, .string (bs ays[k].prec), .bool ays[k].has, .string (bs ays[k].action), .int .i64 ays[k].whr, .int .i64 ays[k].at_]] u (Wrote W0.heap.size b u l' (okA ays[k]) (wrA ays[k])) := fun k hk u l' s hi he hu hr hl =>
    alt_any hi he hu hr hl (hal _ (List.getElem_mem hk))
  have HNM := Lib.hid hnm; have HRW := Lib.hid hrw; have HAC := Lib.hid hac
  have HI := Lib.hid hI; have HE := Lib.hid hE; have HW := Lib.hid hW; have HRA := Lib.hid hA
  have HAL := Lib.hid (alts_len ays)
  clear hI hE hW hP hA hnm hrw hac hal
  have hnl : l.length + (nm.length + ((wrN ps).length + ((wrAlts ays).length + 3))) ≤ 140737488351232 := by omega
  clear hlen
  have hF0 : ays = [] → (decide (ays ≠ []) && (nameB nm && (ps.all nameB && ays.all okA))) = false := fun e => by rw [e]; rfl
  have hF1 : nameB nm = false → (decide (ays ≠ []) && (nameB nm && (ps.all nameB && ays.all okA))) = false := fun e => by rw [e]; simp
  have hF2 : ps.all nameB = false → (decide (ays ≠ []) && (nameB nm && (ps.all nameB && ays.all okA))) = false := fun e => by rw [e]; simp
  have hF3 : ays.all okA = false → (decide (ays ≠ []) && (nameB nm && (ps.all nameB && ays.all okA))) = false := fun e => by rw [e]; simp
  have hF4 : ays ≠ [] → nameB nm = true → ps.all nameB = true → ays.all okA = true → (decide (ays ≠ []) && (nameB nm && (ps.all nameB && ays.all okA))) = true := fun e1 e2 e3 e4 => by rw [decide_eq_true e1, e2, e3, e4]; rfl
  have HF0 := Lib.hid hF0; have HF1 := Lib.hid hF1; have HF2 := Lib.hid hF2; have HF3 := Lib.hid hF3; have HF4 := Lib.hid hF4
  clear hF0 hF1 hF2 hF3 hF4
  generalize (decide (ays ≠ []) && (nameB nm && (ps.all nameB && ays.all okA))) = okF at *
  generalize hG : nm ++ (wrN ps ++ (wrAlts ays ++ [9, 59, 10])) = addF at *
  have HG := Lib.hid hG; clear hG
  generalize nameB nm = okn at *
  generalize ps.all nameB = okp at *
  generalize bs nm = zn at *
  go_enter Tryz.func33, Tryz.ntmps33
  go_upto_region 1 with fail
  generalize hw1 : ((w.alloc (.cells #[.pointer (some ⟨b, 0, none⟩)] 78 (0, 0))).alloc (.cells #[.string zn, .slice a0 ps.length c0, .slice a1 ays.length c1, .int .i64 at_] 38 (0, 0))) = w1 at *
  clear hw1
  obtain ⟨x1, x2, hbx, hsx⟩ := HX.out
  have HI1 := Lib.hid (HI.out.new hbx); have HE1 := Lib.hid (HE.out.new hbx)
  have HK1 := Lib.hid ((Kb.refl W0.heap.size b w).new hbx hsz)
  have X1 := Lib.hid x1; have X2 := Lib.hid x2
  have hs1 : W0.heap.size ≤ w1.heap.size := by omega
  generalize w.heap.size = H at *
  have y2 : w1.cell? ⟨H + 1, 2, none⟩ = some (.slice a1 ays.length c1) := cell_of_row w1 (H + 1) 2 _ _ (0, 0) x2
  clear HX HI hbx x1 x2
  by_cases he : ays = []
  · have hpos : ¬ (0 : Int) < (ays.length : Int) := by rw [he]; simp
    have hdn : decide (0 < ays.length) = false := by rw [he]; rfl
    have HF := Lib.hid (HF0.out he)
    clear he
    go_wp2_with (go_at_call 48; refine (must_f (w := w1) (by omega)).mono ?_; rintro e w2 ⟨rfl, rfl⟩)
    exact ⟨rfl, kb_alloc HK1.out hs1 _, .inr ⟨HF.out, rfl⟩⟩
  have hpos : (0 : Int) < (ays.length : Int) := by
    cases ays with
    | nil => exact absurd rfl he
    | cons _ _ => simp
  have hdn : decide (0 < ays.length) = true := decide_eq_true (by omega)
  have HNE := Lib.hid he
  clear he HF0
  go_upto_region 2 with (go_at_call 48; refine (must_t (w := w1) (by omega)).mono ?_; rintro e w2 ⟨rfl, rfl⟩)
  have hbt := (Below.refl w1.heap.size w1).alloc (Nat.le_refl _) (.cells #[.bool true] 4 (0, 0))
  have HI2 := Lib.hid (HI1.out.new hbt); have HE2 := Lib.hid (HE1.out.new hbt); have HK2 := Lib.hid (HK1.out.new hbt hs1)
  have X3 := Lib.hid ((hbt.block H (by omega)).trans X1.out); have X4 := Lib.hid ((hbt.block (H + 1) (by omega)).trans X2.out)
  have hs2 : (w1.alloc (.cells #[.bool true] 4 (0, 0))).heap.size = H + 3 := by simp [hsx]
  clear HI1 HE1 HK1 X1 X2 y2 hbt hsx hs1
  generalize w1.alloc (.cells #[.bool true] 4 (0, 0)) = w2 at *
  have z1 : w2.cell? ⟨H, 0, none⟩ = some (.pointer (some ⟨b, 0, none⟩)) := cell_of_row w2 H 0 _ _ (0, 0) X3.out
  have z2 : w2.cell? ⟨H + 1, 0, none⟩ = some (.string zn) := cell_of_row w2 (H + 1) 0 _ _ (0, 0) X4.out
  go_upto_region 3 with (go_at_call 49; go_loud (refine (HNM.out w2 _ (by omega) HI2.out HE2.out).mono ?_; rintro e w3 ⟨hK3, hr⟩; rcases hr with ⟨rfl, rfl, hI3⟩ | ⟨rfl, rfl⟩))
  rotate_left
  · exact ⟨rfl, HK2.out.trans hK3, .inr ⟨HF1.out trivial, rfl⟩⟩
  have X5 := Lib.hid (hK3.heap X3.out (by omega) (by decide))
  have X6 := Lib.hid (hK3.heap X4.out (by omega) (by decide))
  have HE3 := Lib.hid (HE2.out.kb hK3)
  have HK3 := Lib.hid (HK2.out.trans hK3)
  have HC := Lib.hid (HRW.out w3 _ H hbl (HW.out.trans HK3.out.below) HE3.out hI3 (by simp only [List.length_append]; omega) X5.out X6.out)
  have q1 : w3.cell? ⟨H, 0, none⟩ = some (.pointer (some ⟨b, 0, none⟩)) := cell_of_row w3 H 0 _ _ (0, 0) X5.out
  have q2 : w3.cell? ⟨H + 1, 1, none⟩ = some (.slice a0 ps.length c0) := cell_of_row w3 (H + 1) 1 _ _ (0, 0) X6.out
  clear hK3 hI3 z1 z2 HRW HNM HI2 HE2 HK2 X3 X4 hs2 HF1
  go_upto_region 4 with (go_at_call 50; refine (HC.out).mono ?_; rintro e w4 ⟨hK4, hr⟩; rcases hr with ⟨rfl, rfl, hI4⟩ | ⟨rfl, rfl⟩)
  rotate_left
  · exact ⟨rfl, HK3.out.trans hK4, .inr ⟨HF2.out trivial, rfl⟩⟩
  have X7 := Lib.hid (hK4.heap X5.out (by omega) (by decide))
  have X8 := Lib.hid (hK4.heap X6.out (by omega) (by decide))
  have HE4 := Lib.hid (HE3.out.kb hK4)
  have HK4 := Lib.hid (HK3.out.trans hK4)
  have HI4 := Lib.hid hI4
  have y2 : w4.cell? ⟨H + 1, 2, none⟩ = some (.slice a1 ays.length c1) := cell_of_row w4 (H + 1) 2 _ _ (0, 0) X8.out
  clear hK4 hI4 q1 q2 HC HE3 HK3 X5 X6 HF2
  have hll : (l ++ nm ++ wrN ps).length + ((wrAlts ays).length + 3) ≤ 140737488351232 := by simp only [List.length_append]; omega
  have HG2 := Lib.hid (show l ++ nm ++ wrN ps ++ (wrAlts ays ++ [9, 59, 10]) = l ++ addF by rw [← HG.out]; simp)
  clear hnl HG
  generalize l ++ nm ++ wrN ps = la at *
  go_wp2
  go_loopg [26] ays.length (fun gk i wr => ∃ (k : Nat), k ≤ ays.length ∧ gk = ays.length - k ∧ i = .int .i64 (k : Int) ∧ IsW W0.heap.size b (la ++ wrAlts (ays.take k)) wr ∧ Kb W0.heap.size b w4 wr ∧ (ays.take k).all okA = true)
  case atStart => exact ⟨0, by omega, by omega, rfl, by simpa [wrAlts] using HI4.out, .refl _ _ _, by simp⟩
  case round =>
    clear HI4 y2 hdn hpos
    obtain ⟨k, hk, rfl, rfl, hIr, hKr, hA⟩ := hrel
    have hKw := HK4.out.trans hKr
    have HWr := Lib.hid (HW.out.trans hKw.below)
    have HEr := Lib.hid (HE.out.kb hKw)
    have hszr := HWr.out.size
    have XA := Lib.hid (hKr.heap X7.out (by omega) (by decide))
    have hHa : H < wr.heap.size := (Array.getElem?_eq_some_iff.1 XA.out).1
    by_cases hlt : k < ays.length
    · obtain ⟨g, o, rfl, r1⟩ := Reads.elems HRA.out (by omega)
      obtain ⟨a5, c5, e0, e1, e2, e3, e4, e5, hry⟩ := alt_cells r1 hlt
      have hgl : g < W0.heap.size := World.block_lt_of_cell? _ _ e0
      have q0 := (HWr.out.cell (p := ⟨g, o + k * 6, none⟩) hgl).trans e0
      have q1 := (HWr.out.cell (p := ⟨g, o + k * 6 + 1, none⟩) hgl).trans e1
      have q2 := (HWr.out.cell (p := ⟨g, o + k * 6 + 2, none⟩) hgl).trans e2
      have q3 := (HWr.out.cell (p := ⟨g, o + k * 6 + 3, none⟩) hgl).trans e3
      have q4 := (HWr.out.cell (p := ⟨g, o + k * 6 + 4, none⟩) hgl).trans e4
      have q5 := (HWr.out.cell (p := ⟨g, o + k * 6 + 5, none⟩) hgl).trans e5
      have hnx := alts_next hlt
      have hle := HAL.out (k + 1)
      rw [hnx] at hle
      simp only [List.length_append] at hle
      have hwc := fun (u : World) (l' : List UInt8) hi he hw hl => HAC.out k hlt u l' _ hi he hw hry hl
      have HV0 := Lib.hid (fun e => HF3.out (all_false okA hlt e)); have HV1 := Lib.hid (all_take okA hlt hA)
      have HN := Lib.hid hnx; have HWC := Lib.hid hwc
      clear hnx hwc hry r1 e0 e1 e2 e3 e4 e5 hA
      generalize ays[k] = y at hle HN HWC HV0 HV1 q0 q1 q2 q3 q4 q5
      obtain ⟨yw, yp, yh, ya, yz, yt⟩ := y
      simp only at q0 q1 q2 q3 q4 q5
      generalize wrA ⟨yw, yp, yh, ya, yz, yt⟩ = wv at hle HN HWC
      generalize okA ⟨yw, yp, yh, ya, yz, yt⟩ = okv at HV0 HV1 HWC
      have hle2 : la.length + ((wrAlts (ays.take k)).length + ((if k = 0 then ([58] : List UInt8) else [9, 124]).length + wv.length)) ≤ 140737488351232 := by omega
      clear hle
      have j0 : (0 : Int) ≤ (k : Int) := by omega
      have j1 : (k : Int) < (ays.length : Int) := by omega
      generalize bs yp = zp at *
      generalize bs ya = za at *
      have HIr := Lib.hid hIr; have HKr := Lib.hid hKr; have HKw := Lib.hid hKw; clear hIr hKr hKw
      by_cases h0 : k = 0
      case' pos =>
        subst h0
        simp only [if_true] at hle2
        simp only [Nat.zero_mul, Nat.add_zero] at q0 q1 q2 q3 q4 q5
        have HN' := Lib.hid (HN.out.trans (by rw [if_pos rfl])); clear HN
        go_upto_region 8 with fail
        have HX2 := Lib.hid (box1 wr (.cells #[.slice a5 yw.length c5, .string zp, .bool yh, .string za, .int .i64 yz, .int .i64 yt] 35 (0, 0)))
        generalize hw2 : wr.alloc (.cells #[.slice a5 yw.length c5, .string zp, .bool yh, .string za, .int .i64 yz, .int .i64 yt] 35 (0, 0)) = w5 at *
        clear hw2
        obtain ⟨v1, hb2, hs2⟩ := HX2.out
        have HI2 := Lib.hid (HIr.out.new hb2); have HE2 := Lib.hid (HEr.out.new hb2); have HK2 := Lib.hid ((Kb.refl W0.heap.size b wr).new hb2 hszr)
        have hbr := HIr.out.lt
        have v0 : w5.cell? ⟨H, 0, none⟩ = some (.pointer (some ⟨b, 0, none⟩)) := cell_of_row w5 H 0 _ _ (0, 0) ((hb2.block H hHa).trans XA.out)
        have XB := Lib.hid ((hb2.block H hHa).trans XA.out)
        generalize wr.heap.size = G at *
        clear HX2 hb2
        simp only [List.length_singleton] at hle2
        go_upto_region 10 with (go_at_call 32; refine (put1 (w := w5) (s := [58]) (by omega) rfl HI2.out (by omega) (by simp only [List.length_append, List.length_singleton]; omega)).mono ?_; rintro e w6 ⟨rfl, hI3, hK3⟩)
        have hle3 : (la ++ wrAlts (ays.take 0) ++ [58]).length + wv.length ≤ 140737488351232 := by simp only [List.length_append, List.length_singleton]; omega
        have HI3 := Lib.hid hI3
        clear hle2 hI3
      case' neg =>
        have qk : ((k : Int) == 0) = false := beq_eq_false_iff_ne.2 (by omega)
        simp only [if_neg h0] at hle2
        have HN' := Lib.hid (HN.out.trans (by rw [if_neg h0])); clear HN
        have HH0 := Lib.hid h0; clear h0
        go_upto_region 9 with fail
        have HX2 := Lib.hid (box1 wr (.cells #[.slice a5 yw.length c5, .string zp, .bool yh, .string za, .int .i64 yz, .int .i64 yt] 35 (0, 0)))
        generalize hw2 : wr.alloc (.cells #[.slice a5 yw.length c5, .string zp, .bool yh, .string za, .int .i64 yz, .int .i64 yt] 35 (0, 0)) = w5 at *
        clear hw2
        obtain ⟨v1, hb2, hs2⟩ := HX2.out
        have HI2 := Lib.hid (HIr.out.new hb2); have HE2 := Lib.hid (HEr.out.new hb2); have HK2 := Lib.hid ((Kb.refl W0.heap.size b wr).new hb2 hszr)
        have hbr := HIr.out.lt
        have v0 : w5.cell? ⟨H, 0, none⟩ = some (.pointer (some ⟨b, 0, none⟩)) := cell_of_row w5 H 0 _ _ (0, 0) ((hb2.block H hHa).trans XA.out)
        have XB := Lib.hid ((hb2.block H hHa).trans XA.out)
        generalize wr.heap.size = G at *
        clear HX2 hb2
        simp only [List.length_cons, List.length_nil] at hle2
        go_upto_region 10 with (go_at_call 32; refine (put1 (w := w5) (s := [9, 124]) (by omega) rfl HI2.out (by omega) (by simp only [List.length_append, List.length_cons, List.length_nil]; omega)).mono ?_; rintro e w6 ⟨rfl, hI3, hK3⟩)
        have hle3 : (la ++ wrAlts (ays.take k) ++ [9, 124]).length + wv.length ≤ 140737488351232 := by simp only [List.length_append, List.length_cons, List.length_nil]; omega
        have HI3 := Lib.hid hI3
        clear hle2 hI3
      all_goals
        have v2 := hK3.heap v1 (by omega) (by decide)
        have XC := hK3.heap XB.out (by omega) (by decide)
        have HK3 := Lib.hid (HK2.out.trans hK3)
        have HE3 := Lib.hid (HE2.out.kb hK3)
        have HW3 := Lib.hid (HWr.out.trans HK3.out.below)
        have v3 := cell_of_row w6 G 0 _ _ (0, 0) v2
        have v4 := cell_of_row w6 G 1 _ _ (0, 0) v2
        have v5 := cell_of_row w6 G 2 _ _ (0, 0) v2
        have v6 := cell_of_row w6 G 3 _ _ (0, 0) v2
        have v7 := cell_of_row w6 G 4 _ _ (0, 0) v2
        have v8 := cell_of_row w6 G 5 _ _ (0, 0) v2
        have v9 := cell_of_row w6 H 0 _ _ (0, 0) XC
        clear hK3 v1 v2 q0 q1 q2 q3 q4 q5 HI2 HE2 HK2 v0 XC
        have HC := Lib.hid (HWC.out w6 _ HI3.out HE3.out HW3.out hle3)
        go_wp2_with (go_at_call 52; refine (HC.out).mono ?_; rintro e w7 ⟨hK5, hr⟩; rcases hr with ⟨rfl, rfl, hI5⟩ | ⟨rfl, rfl⟩)
        · have HI5 := Lib.hid hI5; have HK5 := Lib.hid hK5; clear hI5 hK5
          first
          | (go_roundg (ays.length - (0 + 1))
             case measure => omega
             case rel => exact ⟨0 + 1, by omega, rfl, by go_num, by rw [HN'.out]; have := HI5.out; simpa using this, (HKr.out.trans HK3.out).trans HK5.out, HV1.out trivial⟩)
          | (go_roundg (ays.length - (k + 1))
             case measure => omega
             case rel => exact ⟨k + 1, by omega, rfl, by go_num, by rw [HN'.out]; have := HI5.out; simpa using this, (HKr.out.trans HK3.out).trans HK5.out, HV1.out trivial⟩)
        · exact ⟨rfl, (HKw.out.trans HK3.out).trans hK5, .inr ⟨HV0.out trivial, rfl⟩⟩
    · obtain rfl : k = ays.length := by omega
      rw [List.take_length] at hIr hA
      have hl0 := hll
      have HIr := Lib.hid hIr; have HKw := Lib.hid hKw; have HA := Lib.hid hA
      have v0 : wr.cell? ⟨H, 0, none⟩ = some (.pointer (some ⟨b, 0, none⟩)) := cell_of_row wr H 0 _ _ (0, 0) XA.out
      clear hIr hKr hA hKw HAC HAL HRA
      generalize wrAlts ays = wl at *
      go_wp2_with (go_at_call 32; refine (put1 (w := wr) (s := [9, 59, 10]) (by omega) rfl HIr.out (by omega) (by simp only [List.length_append, List.length_cons, List.length_nil]; omega)).mono ?_; rintro e w6 ⟨rfl, hI3, hK3⟩)
      have HI3 := Lib.hid hI3; have HK3 := Lib.hid hK3; clear hI3 hK3
      go_end0
      exact ⟨HKw.out.trans HK3.out, .inl ⟨HF4.out HNE.out trivial trivial HA.out, rfl, by rw [← HG2.out, ← List.append_assoc]; exact HI3.out⟩⟩
end Go.Proofs.YtghebacphjglbaaGreat.WrL
