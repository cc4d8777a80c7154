/- The laws of reading: the chapter's examples, walked. -/
import Derived.Test.YtelpkldlkpoioaaLaw11B
namespace Go.Proofs.Ytelpkldlkpoioaa.Law11C
open Go.RowKit Go.Proofs.Ytelpkldlkpoioaa.Lexy Go.Proofs.Ytelpkldlkpoioaa.LexA Go.Proofs.Ytelpkldlkpoioaa.LexB Go.Proofs.Ytelpkldlkpoioaa.LexC Go.Proofs.Ytelpkldlkpoioaa.LexD Go.Proofs.Ytelpkldlkpoioaa.LexE Go.Proofs.Ytelpkldlkpoioaa.LexF Go.Proofs.Ytelpkldlkpoioaa.LexG Go.Proofs.Ytelpkldlkpoioaa.Heap Go.Proofs.Ytelpkldlkpoioaa.Dat Go.Proofs.Ytelpkldlkpoioaa.Ready Go.Proofs.Ytelpkldlkpoioaa.ReadA Go.Proofs.Ytelpkldlkpoioaa.ReadC Go.Proofs.Ytelpkldlkpoioaa.ReadG Go.Proofs.Ytelpkldlkpoioaa.ReadH Go.Proofs.Ytelpkldlkpoioaa.ReadI Go.Proofs.Ytelpkldlkpoioaa.ReadJ Go.Proofs.Ytelpkldlkpoioaa.ReadM Go.Proofs.Ytelpkldlkpoioaa.ReadO Go.Proofs.Ytelpkldlkpoioaa.ReadQ Go.Proofs.Ytelpkldlkpoioaa.Same Go.Proofs.Ytelpkldlkpoioaa.Law11A Go.Proofs.Ytelpkldlkpoioaa.Law11B

set_option maxRecDepth 100000 in
set_option maxHeartbeats 400000 in
theorem awake_any {w : World} {m : Int} (hm : w.cell? ⟨0, 0, none⟩ = some (.int .i64 m)) :
    Calls Try.prog 13 #[] w fun e w' => e = .returned (.bool true) ∧ Below w.heap.size w w' := by
  have HM := Lib.hid hm
  have hml := World.block_lt_of_cell? _ _ hm
  clear hm
  go_enter Try.func13, Try.ntmps13
  go_wp2_with (first | (go_at_call 17; go_loud (refine (same_want R0.out R1.out).mono ?_; rintro e w2 ⟨rfl, hb2⟩; have hbx := HB.out.trans (hb2.mono hz); have HM2 := Lib.hid ((hbx.cell (p := ⟨0, 0, none⟩) hml).trans HM.out); clear hb2)) | (go_at_call 14; go_loud (refine (text_any (s := exB1) (by decide) HM.out ex_says).mono ?_; rintro e w1 ⟨da, ra, dc, rc, bk, rfl, hL, hnd, hb⟩; have HB := Lib.hid hb; have hz := hb.size; obtain ⟨k0, k1, _, q0, q1⟩ := tx_rows hL; have R0 := Lib.hid q0.reads; have R1 := Lib.hid q1.reads; clear hL hb q0 q1)))
  refine (Law11B.fault_b HM2.out).mono ?_
  rintro e w3 ⟨rfl, hb3⟩
  have hb4 := hbx.trans (hb3.mono hbx.size)
  have HM3 := Lib.hid ((hb4.cell (p := ⟨0, 0, none⟩) hml).trans HM.out)
  clear hb3
  go_wp2_with fail
  refine (Law11B.fault_c HM3.out).mono ?_
  rintro e w5 ⟨rfl, hb5⟩
  go_wp2_with fail
  go_ret
  exact ⟨rfl, hb4.trans (hb5.mono hb4.size)⟩
end Go.Proofs.Ytelpkldlkpoioaa.Law11C
