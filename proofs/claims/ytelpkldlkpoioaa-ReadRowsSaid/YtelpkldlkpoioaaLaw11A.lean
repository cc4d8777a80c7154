/- The laws of reading: their small functions, walked. -/
import Derived.Test.YtelpkldlkpoioaaReadQ
import Derived.Test.YtelpkldlkpoioaaSame
import Derived.Test.YtelpkldlkpoioaaReadPlain
namespace Go.Proofs.Ytelpkldlkpoioaa.Law11A
open Go.RowKit Go.Proofs.Ytelpkldlkpoioaa.Lexy Go.Proofs.Ytelpkldlkpoioaa.LexA Go.Proofs.Ytelpkldlkpoioaa.LexB Go.Proofs.Ytelpkldlkpoioaa.LexC Go.Proofs.Ytelpkldlkpoioaa.LexD Go.Proofs.Ytelpkldlkpoioaa.LexE Go.Proofs.Ytelpkldlkpoioaa.LexF Go.Proofs.Ytelpkldlkpoioaa.LexG Go.Proofs.Ytelpkldlkpoioaa.Heap Go.Proofs.Ytelpkldlkpoioaa.Dat Go.Proofs.Ytelpkldlkpoioaa.Ready Go.Proofs.Ytelpkldlkpoioaa.ReadA Go.Proofs.Ytelpkldlkpoioaa.ReadC Go.Proofs.Ytelpkldlkpoioaa.ReadG Go.Proofs.Ytelpkldlkpoioaa.ReadH Go.Proofs.Ytelpkldlkpoioaa.ReadI Go.Proofs.Ytelpkldlkpoioaa.ReadJ Go.Proofs.Ytelpkldlkpoioaa.ReadM Go.Proofs.Ytelpkldlkpoioaa.ReadO Go.Proofs.Ytelpkldlkpoioaa.ReadQ Go.Proofs.Ytelpkldlkpoioaa.Same

set_option maxHeartbeats 1000000 in
theorem fault_text {s : ByteArray} {w : World} {m : Int} {x p : Nat} (hs : s.size ≤ 140737488351232) (hm : w.cell? ⟨0, 0, none⟩ = some (.int .i64 m)) (ht : SaysR s.data.toList (.bad x p)) :
    Calls Try.prog 33 #[.string s, .int .i64 (x : Int), .int .i64 (p : Int)] w fun e w' => e = .returned (.bool true) ∧ Below w.heap.size w w' := by
  have HT := Lib.hid ht; clear ht
  go_enter Try.func33, Try.ntmps33
  go_wp2_with (go_at_call 14; refine (text_any hs hm HT.out).mono ?_; rintro e w1 ⟨rfl, hb⟩)
  go_ret
  exact ⟨rfl, (hb.alloc hb.size _).alloc (by have := hb.size; simp; omega) _⟩
set_option maxHeartbeats 1000000 in
/-- a text that stands at a place -/
theorem stands_t {s t : ByteArray} {a : Nat} {w : World} (hs : s.size ≤ 1000000) (h : standsL s.data.toList a t.data.toList) :
    Calls Try.prog 15 #[.string s, .int .i64 (a : Int), .string t] w fun e w' => e = .returned (.bool true) ∧ w = w' := by
  obtain ⟨h1, h2⟩ := h
  have h1' : a + t.size ≤ s.size := by simpa using h1
  have he : s.extract a (a + t.size) = t := by
    apply ByteArray.ext
    apply Array.ext'
    rw [ByteArray.data_extract, Array.toList_extract]
    rw [List.extract_eq_take_drop]
    have : t.data.toList.length = t.size := by simp
    rw [this] at h2
    rw [show a + t.size - a = t.size by omega]
    exact h2
  have HE := Lib.hid (show ((s.extract a (a + t.size)).toList == t.toList) = true by rw [he]; exact beq_self_eq_true _)
  clear he h2 h1
  go_enter Try.func15, Try.ntmps15
  go_wp2
  go_ret
  exact ⟨congrArg (fun x => Ending.returned (.bool x)) HE.out, rfl⟩
/-- a word and its arguments, that stand at their places -/
def There (s : ByteArray) (x : Wd) : Prop := thereW s.data.toList x → ∀ (w : World) (n : List UInt8) (ws : List Wd) (z : Nat) (a : Option Addr) (c : Nat), x = .mk n ws z → Reads w (.row 54 3 ws.length (wdsD ws)) (.slice a ws.length c) →
  Calls Try.prog 16 #[.string s, .agg #[.string (bs n), .slice a ws.length c, .int .i64 (z : Int)]] w fun e w' => e = .returned (.bool true) ∧ Below w.heap.size w w'
set_option maxRecDepth 100000 in
set_option maxHeartbeats 1000000 in
theorem there_word {s : ByteArray} (hs : s.size ≤ 1000000) {n : List UInt8} {ws : List Wd} {z : Nat} (hx : ∀ x ∈ ws, There s x) : There s (.mk n ws z) := by
  intro ht w n' ws' z' a c he hR
  cases he
  simp only [thereW] at ht
  have HT := Lib.hid ht.1; have HTW := Lib.hid (thereWs_mem ht.2); have HX := Lib.hid hx
  have hn := Reads.len hR
  have hb0 := (Below.refl _ w).alloc (Nat.le_refl _) (.cells #[.string (bs n), .slice a ws.length c, .int .i64 (z : Int)] 54)
  have HR0 := Lib.hid (Reads.below hb0 hR); have HB0 := Lib.hid hb0
  have HH := Lib.hid (heap_alloc_new w (.cells #[.string (bs n), .slice a ws.length c, .int .i64 (z : Int)] 54))
  have hsz : w.heap.size < (w.alloc (.cells #[.string (bs n), .slice a ws.length c, .int .i64 (z : Int)] 54)).heap.size := by simp
  clear ht hx hR hb0
  go_enter Try.func16, Try.ntmps16
  go_wp2_with fail
  generalize w.alloc (.cells #[.string (bs n), .slice a ws.length c, .int .i64 (z : Int)] 54) = W0 at *
  go_loopg [5] ws.length (fun gk i wr => ∃ k : Nat, k ≤ ws.length ∧ gk = ws.length - k ∧ i = .int .i64 (k : Int) ∧ Below W0.heap.size W0 wr)
  case atStart => exact ⟨0, by omega, by omega, rfl, Below.refl _ _⟩
  case round =>
    obtain ⟨k, hk, rfl, rfl, hbw⟩ := hrel
    have hH := (hbw.block _ hsz).trans HH.out
    obtain ⟨c0, c1, c2, _⟩ := cells3 hH
    by_cases hlt : k < ws.length
    · have q1 := Reads.below hbw HR0.out
      obtain ⟨b1, o1, rfl, r1⟩ := Reads.elems q1 (by omega)
      obtain ⟨n', ws', z', hx⟩ : ∃ n1 l1 z1, ws[k] = Wd.mk n1 l1 z1 := ⟨_, _, _, (wd_eta ws[k])⟩
      obtain ⟨e1, f1, d10, d11, d12, d13⟩ := word_cells r1 hlt hx
      have HE := Lib.hid (HX.out _ (List.getElem_mem hlt) (HTW.out _ (List.getElem_mem hlt)))
      have HHX := Lib.hid hx
      have HA := Lib.hid d13
      clear r1 q1 d13 hx hH
      have j0 : (0 : Int) ≤ (k : Int) := by omega
      have j1 : (k : Int) < (ws.length : Int) := by omega
      go_wp2_with (go_at_call 16; go_must (refine (HE.out _ _ _ _ _ _ HHX.out HA.out).mono ?_); rintro e w2 ⟨rfl, hb2⟩)
      go_roundg (ws.length - (k + 1))
      case measure => omega
      case rel => exact ⟨k + 1, by omega, rfl, by go_num, hbw.trans (hb2.mono hbw.size)⟩
    · clear hH
      have hHT := HT.out
      go_wp2_with (go_at_call 15; go_must (refine (stands_t hs (t := bs n) (by simpa [bs] using HT.out)).mono ?_); rintro e w2 ⟨rfl, rfl⟩)
      go_ret
      exact ⟨rfl, HB0.out.trans (hbw.mono (by omega))⟩
mutual
theorem there_w {s : ByteArray} (hs : s.size ≤ 1000000) : ∀ x : Wd, There s x
  | .mk _ ws _ => there_word hs (there_ws hs ws)
theorem there_ws {s : ByteArray} (hs : s.size ≤ 1000000) : ∀ l : List Wd, ∀ x ∈ l, There s x
  | [], x, h => by cases h
  | y :: ys, x, h => by
    rcases List.mem_cons.1 h with e | h
    · rw [e]; exact there_w hs y
    · exact there_ws hs ys x h
end
end Go.Proofs.Ytelpkldlkpoioaa.Law11A
