/- Of no lists at all each of gristmillkit's flat.. says yes. (Printed by nil_flats.py.) -/
import Derived.Test.YtnoadpildbbleaaGreatFlat
namespace Go.Proofs.YtnoadpildbbleaaGreat.FlatNil
open Go.RowKit Go.Proofs.YtnoadpildbbleaaGreat.Heap

theorem rowLimbs : (Tryz.prog.info? 130).map (fun i => (i.zero, i.size, i.bytes)) = some (some (.slice none 0 0), 1, 24) := by kernel_rfl
set_option maxRecDepth 100000 in
theorem nilLimbs (w : World) : Calls Tryz.prog 32 #[.slice none 0 0] w fun e w' => e = .returned (.bool true) ∧ Below w.heap.size w w' := by
  obtain ⟨r0, hr0, hrz0, hrz1, hrz2⟩ := info_parts rowLimbs
  go_enter Tryz.func32, Tryz.ntmps32
  go_wp2
  go_loopg [3] 0 (fun gk i wr => gk = 0 ∧ i = .int .i64 0 ∧ wr = w)
  case atStart => exact ⟨rfl, rfl, rfl⟩
  case round =>
    obtain ⟨rfl, rfl, rfl⟩ := hrel
    go_wp2_with (at_make; go_must (refine wpList_make_row _ rfl _ _ _ rfl 130 r0 (.slice none 0 0) Tryz.underlying51 hr0 hrz0 hrz1 rfl .i64 .i64 0 rfl rfl (by omega) (by omega) ?_))
    have hb := (Below.refl wr.heap.size wr).alloc (Nat.le_refl _) (.cells (madeCells #[.slice none 0 0] 0) 130)
    generalize wr.alloc (.cells (madeCells #[.slice none 0 0] 0) 130) = W at *
    go_loopg [6] 0 (fun gk i w2 => gk = 0 ∧ i = .int .i64 0 ∧ w2 = W)
    case atStart => exact ⟨rfl, rfl, rfl⟩
    case round =>
      obtain ⟨rfl, rfl, rfl⟩ := hrel
      go_wp2
      go_loopg [9] 0 (fun gk i w3 => gk = 0 ∧ i = .int .i64 0 ∧ w3 = wr)
      case atStart => exact ⟨rfl, rfl, rfl⟩
      case round =>
        obtain ⟨rfl, rfl, rfl⟩ := hrel
        go_wp2
        go_loopg [11] 0 (fun gk i w3 => gk = 0 ∧ i = .int .i64 0 ∧ w3 = wr)
        case atStart => exact ⟨rfl, rfl, rfl⟩
        case round =>
          obtain ⟨rfl, rfl, rfl⟩ := hrel
          go_wp2
          go_loopg [14] 0 (fun gk i w3 => gk = 0 ∧ i = .int .i64 0 ∧ w3 = wr)
          case atStart => exact ⟨rfl, rfl, rfl⟩
          case round =>
            obtain ⟨rfl, rfl, rfl⟩ := hrel
            go_wp2
            go_ret
            exact ⟨rfl, hb⟩

theorem rowWords : (Tryz.prog.info? 133).map (fun i => (i.zero, i.size, i.bytes)) = some (some (.slice none 0 0), 1, 24) := by kernel_rfl
set_option maxRecDepth 100000 in
theorem nilWords (w : World) : Calls Tryz.prog 33 #[.slice none 0 0] w fun e w' => e = .returned (.bool true) ∧ Below w.heap.size w w' := by
  obtain ⟨r0, hr0, hrz0, hrz1, hrz2⟩ := info_parts rowWords
  go_enter Tryz.func33, Tryz.ntmps33
  go_wp2
  go_loopg [3] 0 (fun gk i wr => gk = 0 ∧ i = .int .i64 0 ∧ wr = w)
  case atStart => exact ⟨rfl, rfl, rfl⟩
  case round =>
    obtain ⟨rfl, rfl, rfl⟩ := hrel
    go_wp2_with (at_make; go_must (refine wpList_make_row _ rfl _ _ _ rfl 133 r0 (.slice none 0 0) Tryz.underlying52 hr0 hrz0 hrz1 rfl .i64 .i64 0 rfl rfl (by omega) (by omega) ?_))
    have hb := (Below.refl wr.heap.size wr).alloc (Nat.le_refl _) (.cells (madeCells #[.slice none 0 0] 0) 133)
    generalize wr.alloc (.cells (madeCells #[.slice none 0 0] 0) 133) = W at *
    go_loopg [6] 0 (fun gk i w2 => gk = 0 ∧ i = .int .i64 0 ∧ w2 = W)
    case atStart => exact ⟨rfl, rfl, rfl⟩
    case round =>
      obtain ⟨rfl, rfl, rfl⟩ := hrel
      go_wp2
      go_loopg [9] 0 (fun gk i w3 => gk = 0 ∧ i = .int .i64 0 ∧ w3 = wr)
      case atStart => exact ⟨rfl, rfl, rfl⟩
      case round =>
        obtain ⟨rfl, rfl, rfl⟩ := hrel
        go_wp2
        go_loopg [11] 0 (fun gk i w3 => gk = 0 ∧ i = .int .i64 0 ∧ w3 = wr)
        case atStart => exact ⟨rfl, rfl, rfl⟩
        case round =>
          obtain ⟨rfl, rfl, rfl⟩ := hrel
          go_wp2
          go_loopg [14] 0 (fun gk i w3 => gk = 0 ∧ i = .int .i64 0 ∧ w3 = wr)
          case atStart => exact ⟨rfl, rfl, rfl⟩
          case round =>
            obtain ⟨rfl, rfl, rfl⟩ := hrel
            go_wp2
            go_ret
            exact ⟨rfl, hb⟩

theorem rowInts : (Tryz.prog.info? 135).map (fun i => (i.zero, i.size, i.bytes)) = some (some (.slice none 0 0), 1, 24) := by kernel_rfl
set_option maxRecDepth 100000 in
theorem nilInts (w : World) : Calls Tryz.prog 34 #[.slice none 0 0] w fun e w' => e = .returned (.bool true) ∧ Below w.heap.size w w' := by
  obtain ⟨r0, hr0, hrz0, hrz1, hrz2⟩ := info_parts rowInts
  go_enter Tryz.func34, Tryz.ntmps34
  go_wp2
  go_loopg [3] 0 (fun gk i wr => gk = 0 ∧ i = .int .i64 0 ∧ wr = w)
  case atStart => exact ⟨rfl, rfl, rfl⟩
  case round =>
    obtain ⟨rfl, rfl, rfl⟩ := hrel
    go_wp2_with (at_make; go_must (refine wpList_make_row _ rfl _ _ _ rfl 135 r0 (.slice none 0 0) Tryz.underlying53 hr0 hrz0 hrz1 rfl .i64 .i64 0 rfl rfl (by omega) (by omega) ?_))
    have hb := (Below.refl wr.heap.size wr).alloc (Nat.le_refl _) (.cells (madeCells #[.slice none 0 0] 0) 135)
    generalize wr.alloc (.cells (madeCells #[.slice none 0 0] 0) 135) = W at *
    go_loopg [6] 0 (fun gk i w2 => gk = 0 ∧ i = .int .i64 0 ∧ w2 = W)
    case atStart => exact ⟨rfl, rfl, rfl⟩
    case round =>
      obtain ⟨rfl, rfl, rfl⟩ := hrel
      go_wp2
      go_loopg [9] 0 (fun gk i w3 => gk = 0 ∧ i = .int .i64 0 ∧ w3 = wr)
      case atStart => exact ⟨rfl, rfl, rfl⟩
      case round =>
        obtain ⟨rfl, rfl, rfl⟩ := hrel
        go_wp2
        go_loopg [11] 0 (fun gk i w3 => gk = 0 ∧ i = .int .i64 0 ∧ w3 = wr)
        case atStart => exact ⟨rfl, rfl, rfl⟩
        case round =>
          obtain ⟨rfl, rfl, rfl⟩ := hrel
          go_wp2
          go_loopg [14] 0 (fun gk i w3 => gk = 0 ∧ i = .int .i64 0 ∧ w3 = wr)
          case atStart => exact ⟨rfl, rfl, rfl⟩
          case round =>
            obtain ⟨rfl, rfl, rfl⟩ := hrel
            go_wp2
            go_ret
            exact ⟨rfl, hb⟩

theorem rowLongs : (Tryz.prog.info? 136).map (fun i => (i.zero, i.size, i.bytes)) = some (some (.slice none 0 0), 1, 24) := by kernel_rfl
set_option maxRecDepth 100000 in
theorem nilLongs (w : World) : Calls Tryz.prog 35 #[.slice none 0 0] w fun e w' => e = .returned (.bool true) ∧ Below w.heap.size w w' := by
  obtain ⟨r0, hr0, hrz0, hrz1, hrz2⟩ := info_parts rowLongs
  go_enter Tryz.func35, Tryz.ntmps35
  go_wp2
  go_loopg [3] 0 (fun gk i wr => gk = 0 ∧ i = .int .i64 0 ∧ wr = w)
  case atStart => exact ⟨rfl, rfl, rfl⟩
  case round =>
    obtain ⟨rfl, rfl, rfl⟩ := hrel
    go_wp2_with (at_make; go_must (refine wpList_make_row _ rfl _ _ _ rfl 136 r0 (.slice none 0 0) Tryz.underlying54 hr0 hrz0 hrz1 rfl .i64 .i64 0 rfl rfl (by omega) (by omega) ?_))
    have hb := (Below.refl wr.heap.size wr).alloc (Nat.le_refl _) (.cells (madeCells #[.slice none 0 0] 0) 136)
    generalize wr.alloc (.cells (madeCells #[.slice none 0 0] 0) 136) = W at *
    go_loopg [6] 0 (fun gk i w2 => gk = 0 ∧ i = .int .i64 0 ∧ w2 = W)
    case atStart => exact ⟨rfl, rfl, rfl⟩
    case round =>
      obtain ⟨rfl, rfl, rfl⟩ := hrel
      go_wp2
      go_loopg [9] 0 (fun gk i w3 => gk = 0 ∧ i = .int .i64 0 ∧ w3 = wr)
      case atStart => exact ⟨rfl, rfl, rfl⟩
      case round =>
        obtain ⟨rfl, rfl, rfl⟩ := hrel
        go_wp2
        go_loopg [11] 0 (fun gk i w3 => gk = 0 ∧ i = .int .i64 0 ∧ w3 = wr)
        case atStart => exact ⟨rfl, rfl, rfl⟩
        case round =>
          obtain ⟨rfl, rfl, rfl⟩ := hrel
          go_wp2
          go_loopg [14] 0 (fun gk i w3 => gk = 0 ∧ i = .int .i64 0 ∧ w3 = wr)
          case atStart => exact ⟨rfl, rfl, rfl⟩
          case round =>
            obtain ⟨rfl, rfl, rfl⟩ := hrel
            go_wp2
            go_ret
            exact ⟨rfl, hb⟩

theorem rowTexts : (Tryz.prog.info? 93).map (fun i => (i.zero, i.size, i.bytes)) = some (some (.slice none 0 0), 1, 24) := by kernel_rfl
set_option maxRecDepth 100000 in
theorem nilTexts (w : World) : Calls Tryz.prog 36 #[.slice none 0 0] w fun e w' => e = .returned (.bool true) ∧ Below w.heap.size w w' := by
  obtain ⟨r0, hr0, hrz0, hrz1, hrz2⟩ := info_parts rowTexts
  go_enter Tryz.func36, Tryz.ntmps36
  go_wp2
  go_loopg [3] 0 (fun gk i wr => gk = 0 ∧ i = .int .i64 0 ∧ wr = w)
  case atStart => exact ⟨rfl, rfl, rfl⟩
  case round =>
    obtain ⟨rfl, rfl, rfl⟩ := hrel
    go_wp2_with (at_make; go_must (refine wpList_make_row _ rfl _ _ _ rfl 93 r0 (.slice none 0 0) Tryz.underlying55 hr0 hrz0 hrz1 rfl .i64 .i64 0 rfl rfl (by omega) (by omega) ?_))
    have hb := (Below.refl wr.heap.size wr).alloc (Nat.le_refl _) (.cells (madeCells #[.slice none 0 0] 0) 93)
    generalize wr.alloc (.cells (madeCells #[.slice none 0 0] 0) 93) = W at *
    go_loopg [6] 0 (fun gk i w2 => gk = 0 ∧ i = .int .i64 0 ∧ w2 = W)
    case atStart => exact ⟨rfl, rfl, rfl⟩
    case round =>
      obtain ⟨rfl, rfl, rfl⟩ := hrel
      go_wp2
      go_loopg [9] 0 (fun gk i w3 => gk = 0 ∧ i = .int .i64 0 ∧ w3 = wr)
      case atStart => exact ⟨rfl, rfl, rfl⟩
      case round =>
        obtain ⟨rfl, rfl, rfl⟩ := hrel
        go_wp2
        go_loopg [11] 0 (fun gk i w3 => gk = 0 ∧ i = .int .i64 0 ∧ w3 = wr)
        case atStart => exact ⟨rfl, rfl, rfl⟩
        case round =>
          obtain ⟨rfl, rfl, rfl⟩ := hrel
          go_wp2
          go_loopg [14] 0 (fun gk i w3 => gk = 0 ∧ i = .int .i64 0 ∧ w3 = wr)
          case atStart => exact ⟨rfl, rfl, rfl⟩
          case round =>
            obtain ⟨rfl, rfl, rfl⟩ := hrel
            go_wp2
            go_ret
            exact ⟨rfl, hb⟩

theorem rowBytes : (Tryz.prog.info? 90).map (fun i => (i.zero, i.size, i.bytes)) = some (some (.slice none 0 0), 1, 24) := by kernel_rfl
set_option maxRecDepth 100000 in
theorem nilBytes (w : World) : Calls Tryz.prog 37 #[.slice none 0 0] w fun e w' => e = .returned (.bool true) ∧ Below w.heap.size w w' := by
  obtain ⟨r0, hr0, hrz0, hrz1, hrz2⟩ := info_parts rowBytes
  go_enter Tryz.func37, Tryz.ntmps37
  go_wp2
  go_loopg [3] 0 (fun gk i wr => gk = 0 ∧ i = .int .i64 0 ∧ wr = w)
  case atStart => exact ⟨rfl, rfl, rfl⟩
  case round =>
    obtain ⟨rfl, rfl, rfl⟩ := hrel
    go_wp2_with (at_make; go_must (refine wpList_make_row _ rfl _ _ _ rfl 90 r0 (.slice none 0 0) Tryz.underlying56 hr0 hrz0 hrz1 rfl .i64 .i64 0 rfl rfl (by omega) (by omega) ?_))
    have hb := (Below.refl wr.heap.size wr).alloc (Nat.le_refl _) (.cells (madeCells #[.slice none 0 0] 0) 90)
    generalize wr.alloc (.cells (madeCells #[.slice none 0 0] 0) 90) = W at *
    go_loopg [6] 0 (fun gk i w2 => gk = 0 ∧ i = .int .i64 0 ∧ w2 = W)
    case atStart => exact ⟨rfl, rfl, rfl⟩
    case round =>
      obtain ⟨rfl, rfl, rfl⟩ := hrel
      go_wp2
      go_loopg [9] 0 (fun gk i w3 => gk = 0 ∧ i = .int .i64 0 ∧ w3 = wr)
      case atStart => exact ⟨rfl, rfl, rfl⟩
      case round =>
        obtain ⟨rfl, rfl, rfl⟩ := hrel
        go_wp2
        go_loopg [11] 0 (fun gk i w3 => gk = 0 ∧ i = .int .i64 0 ∧ w3 = wr)
        case atStart => exact ⟨rfl, rfl, rfl⟩
        case round =>
          obtain ⟨rfl, rfl, rfl⟩ := hrel
          go_wp2
          go_loopg [14] 0 (fun gk i w3 => gk = 0 ∧ i = .int .i64 0 ∧ w3 = wr)
          case atStart => exact ⟨rfl, rfl, rfl⟩
          case round =>
            obtain ⟨rfl, rfl, rfl⟩ := hrel
            go_wp2
            go_ret
            exact ⟨rfl, hb⟩

theorem rowTokens : (Tryz.prog.info? 23).map (fun i => (i.zero, i.size, i.bytes)) = some (some (.slice none 0 0), 1, 24) := by kernel_rfl
set_option maxRecDepth 100000 in
theorem nilTokens (w : World) : Calls Tryz.prog 38 #[.slice none 0 0] w fun e w' => e = .returned (.bool true) ∧ Below w.heap.size w w' := by
  obtain ⟨r0, hr0, hrz0, hrz1, hrz2⟩ := info_parts rowTokens
  go_enter Tryz.func38, Tryz.ntmps38
  go_wp2
  go_loopg [3] 0 (fun gk i wr => gk = 0 ∧ i = .int .i64 0 ∧ wr = w)
  case atStart => exact ⟨rfl, rfl, rfl⟩
  case round =>
    obtain ⟨rfl, rfl, rfl⟩ := hrel
    go_wp2_with (at_make; go_must (refine wpList_make_row _ rfl _ _ _ rfl 23 r0 (.slice none 0 0) Tryz.underlying31 hr0 hrz0 hrz1 rfl .i64 .i64 0 rfl rfl (by omega) (by omega) ?_))
    have hb := (Below.refl wr.heap.size wr).alloc (Nat.le_refl _) (.cells (madeCells #[.slice none 0 0] 0) 23)
    generalize wr.alloc (.cells (madeCells #[.slice none 0 0] 0) 23) = W at *
    go_loopg [6] 0 (fun gk i w2 => gk = 0 ∧ i = .int .i64 0 ∧ w2 = W)
    case atStart => exact ⟨rfl, rfl, rfl⟩
    case round =>
      obtain ⟨rfl, rfl, rfl⟩ := hrel
      go_wp2
      go_loopg [9] 0 (fun gk i w3 => gk = 0 ∧ i = .int .i64 0 ∧ w3 = wr)
      case atStart => exact ⟨rfl, rfl, rfl⟩
      case round =>
        obtain ⟨rfl, rfl, rfl⟩ := hrel
        go_wp2
        go_loopg [11] 0 (fun gk i w3 => gk = 0 ∧ i = .int .i64 0 ∧ w3 = wr)
        case atStart => exact ⟨rfl, rfl, rfl⟩
        case round =>
          obtain ⟨rfl, rfl, rfl⟩ := hrel
          go_wp2
          go_loopg [14] 0 (fun gk i w3 => gk = 0 ∧ i = .int .i64 0 ∧ w3 = wr)
          case atStart => exact ⟨rfl, rfl, rfl⟩
          case round =>
            obtain ⟨rfl, rfl, rfl⟩ := hrel
            go_wp2
            go_ret
            exact ⟨rfl, hb⟩

theorem rowFaults : (Tryz.prog.info? 140).map (fun i => (i.zero, i.size, i.bytes)) = some (some (.slice none 0 0), 1, 24) := by kernel_rfl
set_option maxRecDepth 100000 in
theorem nilFaults (w : World) : Calls Tryz.prog 39 #[.slice none 0 0] w fun e w' => e = .returned (.bool true) ∧ Below w.heap.size w w' := by
  obtain ⟨r0, hr0, hrz0, hrz1, hrz2⟩ := info_parts rowFaults
  go_enter Tryz.func39, Tryz.ntmps39
  go_wp2
  go_loopg [3] 0 (fun gk i wr => gk = 0 ∧ i = .int .i64 0 ∧ wr = w)
  case atStart => exact ⟨rfl, rfl, rfl⟩
  case round =>
    obtain ⟨rfl, rfl, rfl⟩ := hrel
    go_wp2_with (at_make; go_must (refine wpList_make_row _ rfl _ _ _ rfl 140 r0 (.slice none 0 0) Tryz.underlying57 hr0 hrz0 hrz1 rfl .i64 .i64 0 rfl rfl (by omega) (by omega) ?_))
    have hb := (Below.refl wr.heap.size wr).alloc (Nat.le_refl _) (.cells (madeCells #[.slice none 0 0] 0) 140)
    generalize wr.alloc (.cells (madeCells #[.slice none 0 0] 0) 140) = W at *
    go_loopg [6] 0 (fun gk i w2 => gk = 0 ∧ i = .int .i64 0 ∧ w2 = W)
    case atStart => exact ⟨rfl, rfl, rfl⟩
    case round =>
      obtain ⟨rfl, rfl, rfl⟩ := hrel
      go_wp2
      go_loopg [9] 0 (fun gk i w3 => gk = 0 ∧ i = .int .i64 0 ∧ w3 = wr)
      case atStart => exact ⟨rfl, rfl, rfl⟩
      case round =>
        obtain ⟨rfl, rfl, rfl⟩ := hrel
        go_wp2
        go_loopg [11] 0 (fun gk i w3 => gk = 0 ∧ i = .int .i64 0 ∧ w3 = wr)
        case atStart => exact ⟨rfl, rfl, rfl⟩
        case round =>
          obtain ⟨rfl, rfl, rfl⟩ := hrel
          go_wp2
          go_loopg [14] 0 (fun gk i w3 => gk = 0 ∧ i = .int .i64 0 ∧ w3 = wr)
          case atStart => exact ⟨rfl, rfl, rfl⟩
          case round =>
            obtain ⟨rfl, rfl, rfl⟩ := hrel
            go_wp2
            go_ret
            exact ⟨rfl, hb⟩

theorem rowNodes : (Tryz.prog.info? 142).map (fun i => (i.zero, i.size, i.bytes)) = some (some (.slice none 0 0), 1, 24) := by kernel_rfl
set_option maxRecDepth 100000 in
theorem nilNodes (w : World) : Calls Tryz.prog 40 #[.slice none 0 0] w fun e w' => e = .returned (.bool true) ∧ Below w.heap.size w w' := by
  obtain ⟨r0, hr0, hrz0, hrz1, hrz2⟩ := info_parts rowNodes
  go_enter Tryz.func40, Tryz.ntmps40
  go_wp2
  go_loopg [3] 0 (fun gk i wr => gk = 0 ∧ i = .int .i64 0 ∧ wr = w)
  case atStart => exact ⟨rfl, rfl, rfl⟩
  case round =>
    obtain ⟨rfl, rfl, rfl⟩ := hrel
    go_wp2_with (at_make; go_must (refine wpList_make_row _ rfl _ _ _ rfl 142 r0 (.slice none 0 0) Tryz.underlying58 hr0 hrz0 hrz1 rfl .i64 .i64 0 rfl rfl (by omega) (by omega) ?_))
    have hb := (Below.refl wr.heap.size wr).alloc (Nat.le_refl _) (.cells (madeCells #[.slice none 0 0] 0) 142)
    generalize wr.alloc (.cells (madeCells #[.slice none 0 0] 0) 142) = W at *
    go_loopg [6] 0 (fun gk i w2 => gk = 0 ∧ i = .int .i64 0 ∧ w2 = W)
    case atStart => exact ⟨rfl, rfl, rfl⟩
    case round =>
      obtain ⟨rfl, rfl, rfl⟩ := hrel
      go_wp2
      go_loopg [9] 0 (fun gk i w3 => gk = 0 ∧ i = .int .i64 0 ∧ w3 = wr)
      case atStart => exact ⟨rfl, rfl, rfl⟩
      case round =>
        obtain ⟨rfl, rfl, rfl⟩ := hrel
        go_wp2
        go_loopg [11] 0 (fun gk i w3 => gk = 0 ∧ i = .int .i64 0 ∧ w3 = wr)
        case atStart => exact ⟨rfl, rfl, rfl⟩
        case round =>
          obtain ⟨rfl, rfl, rfl⟩ := hrel
          go_wp2
          go_loopg [14] 0 (fun gk i w3 => gk = 0 ∧ i = .int .i64 0 ∧ w3 = wr)
          case atStart => exact ⟨rfl, rfl, rfl⟩
          case round =>
            obtain ⟨rfl, rfl, rfl⟩ := hrel
            go_wp2
            go_ret
            exact ⟨rfl, hb⟩

theorem rowTypes : (Tryz.prog.info? 148).map (fun i => (i.zero, i.size, i.bytes)) = some (some (.slice none 0 0), 1, 24) := by kernel_rfl
set_option maxRecDepth 100000 in
theorem nilTypes (w : World) : Calls Tryz.prog 41 #[.slice none 0 0] w fun e w' => e = .returned (.bool true) ∧ Below w.heap.size w w' := by
  obtain ⟨r0, hr0, hrz0, hrz1, hrz2⟩ := info_parts rowTypes
  go_enter Tryz.func41, Tryz.ntmps41
  go_wp2
  go_loopg [3] 0 (fun gk i wr => gk = 0 ∧ i = .int .i64 0 ∧ wr = w)
  case atStart => exact ⟨rfl, rfl, rfl⟩
  case round =>
    obtain ⟨rfl, rfl, rfl⟩ := hrel
    go_wp2_with (at_make; go_must (refine wpList_make_row _ rfl _ _ _ rfl 148 r0 (.slice none 0 0) Tryz.underlying59 hr0 hrz0 hrz1 rfl .i64 .i64 0 rfl rfl (by omega) (by omega) ?_))
    have hb := (Below.refl wr.heap.size wr).alloc (Nat.le_refl _) (.cells (madeCells #[.slice none 0 0] 0) 148)
    generalize wr.alloc (.cells (madeCells #[.slice none 0 0] 0) 148) = W at *
    go_loopg [6] 0 (fun gk i w2 => gk = 0 ∧ i = .int .i64 0 ∧ w2 = W)
    case atStart => exact ⟨rfl, rfl, rfl⟩
    case round =>
      obtain ⟨rfl, rfl, rfl⟩ := hrel
      go_wp2
      go_loopg [9] 0 (fun gk i w3 => gk = 0 ∧ i = .int .i64 0 ∧ w3 = wr)
      case atStart => exact ⟨rfl, rfl, rfl⟩
      case round =>
        obtain ⟨rfl, rfl, rfl⟩ := hrel
        go_wp2
        go_loopg [11] 0 (fun gk i w3 => gk = 0 ∧ i = .int .i64 0 ∧ w3 = wr)
        case atStart => exact ⟨rfl, rfl, rfl⟩
        case round =>
          obtain ⟨rfl, rfl, rfl⟩ := hrel
          go_wp2
          go_loopg [14] 0 (fun gk i w3 => gk = 0 ∧ i = .int .i64 0 ∧ w3 = wr)
          case atStart => exact ⟨rfl, rfl, rfl⟩
          case round =>
            obtain ⟨rfl, rfl, rfl⟩ := hrel
            go_wp2
            go_ret
            exact ⟨rfl, hb⟩

theorem rowValues : (Tryz.prog.info? 154).map (fun i => (i.zero, i.size, i.bytes)) = some (some (.slice none 0 0), 1, 24) := by kernel_rfl
set_option maxRecDepth 100000 in
theorem nilValues (w : World) : Calls Tryz.prog 42 #[.slice none 0 0] w fun e w' => e = .returned (.bool true) ∧ Below w.heap.size w w' := by
  obtain ⟨r0, hr0, hrz0, hrz1, hrz2⟩ := info_parts rowValues
  go_enter Tryz.func42, Tryz.ntmps42
  go_wp2
  go_loopg [3] 0 (fun gk i wr => gk = 0 ∧ i = .int .i64 0 ∧ wr = w)
  case atStart => exact ⟨rfl, rfl, rfl⟩
  case round =>
    obtain ⟨rfl, rfl, rfl⟩ := hrel
    go_wp2_with (at_make; go_must (refine wpList_make_row _ rfl _ _ _ rfl 154 r0 (.slice none 0 0) Tryz.underlying60 hr0 hrz0 hrz1 rfl .i64 .i64 0 rfl rfl (by omega) (by omega) ?_))
    have hb := (Below.refl wr.heap.size wr).alloc (Nat.le_refl _) (.cells (madeCells #[.slice none 0 0] 0) 154)
    generalize wr.alloc (.cells (madeCells #[.slice none 0 0] 0) 154) = W at *
    go_loopg [6] 0 (fun gk i w2 => gk = 0 ∧ i = .int .i64 0 ∧ w2 = W)
    case atStart => exact ⟨rfl, rfl, rfl⟩
    case round =>
      obtain ⟨rfl, rfl, rfl⟩ := hrel
      go_wp2
      go_loopg [9] 0 (fun gk i w3 => gk = 0 ∧ i = .int .i64 0 ∧ w3 = wr)
      case atStart => exact ⟨rfl, rfl, rfl⟩
      case round =>
        obtain ⟨rfl, rfl, rfl⟩ := hrel
        go_wp2
        go_loopg [11] 0 (fun gk i w3 => gk = 0 ∧ i = .int .i64 0 ∧ w3 = wr)
        case atStart => exact ⟨rfl, rfl, rfl⟩
        case round =>
          obtain ⟨rfl, rfl, rfl⟩ := hrel
          go_wp2
          go_loopg [14] 0 (fun gk i w3 => gk = 0 ∧ i = .int .i64 0 ∧ w3 = wr)
          case atStart => exact ⟨rfl, rfl, rfl⟩
          case round =>
            obtain ⟨rfl, rfl, rfl⟩ := hrel
            go_wp2
            go_ret
            exact ⟨rfl, hb⟩

theorem rowOutcomes : (Tryz.prog.info? 159).map (fun i => (i.zero, i.size, i.bytes)) = some (some (.slice none 0 0), 1, 24) := by kernel_rfl
set_option maxRecDepth 100000 in
theorem nilOutcomes (w : World) : Calls Tryz.prog 43 #[.slice none 0 0] w fun e w' => e = .returned (.bool true) ∧ Below w.heap.size w w' := by
  obtain ⟨r0, hr0, hrz0, hrz1, hrz2⟩ := info_parts rowOutcomes
  go_enter Tryz.func43, Tryz.ntmps43
  go_wp2
  go_loopg [3] 0 (fun gk i wr => gk = 0 ∧ i = .int .i64 0 ∧ wr = w)
  case atStart => exact ⟨rfl, rfl, rfl⟩
  case round =>
    obtain ⟨rfl, rfl, rfl⟩ := hrel
    go_wp2_with (at_make; go_must (refine wpList_make_row _ rfl _ _ _ rfl 159 r0 (.slice none 0 0) Tryz.underlying61 hr0 hrz0 hrz1 rfl .i64 .i64 0 rfl rfl (by omega) (by omega) ?_))
    have hb := (Below.refl wr.heap.size wr).alloc (Nat.le_refl _) (.cells (madeCells #[.slice none 0 0] 0) 159)
    generalize wr.alloc (.cells (madeCells #[.slice none 0 0] 0) 159) = W at *
    go_loopg [6] 0 (fun gk i w2 => gk = 0 ∧ i = .int .i64 0 ∧ w2 = W)
    case atStart => exact ⟨rfl, rfl, rfl⟩
    case round =>
      obtain ⟨rfl, rfl, rfl⟩ := hrel
      go_wp2
      go_loopg [9] 0 (fun gk i w3 => gk = 0 ∧ i = .int .i64 0 ∧ w3 = wr)
      case atStart => exact ⟨rfl, rfl, rfl⟩
      case round =>
        obtain ⟨rfl, rfl, rfl⟩ := hrel
        go_wp2
        go_loopg [11] 0 (fun gk i w3 => gk = 0 ∧ i = .int .i64 0 ∧ w3 = wr)
        case atStart => exact ⟨rfl, rfl, rfl⟩
        case round =>
          obtain ⟨rfl, rfl, rfl⟩ := hrel
          go_wp2
          go_loopg [14] 0 (fun gk i w3 => gk = 0 ∧ i = .int .i64 0 ∧ w3 = wr)
          case atStart => exact ⟨rfl, rfl, rfl⟩
          case round =>
            obtain ⟨rfl, rfl, rfl⟩ := hrel
            go_wp2
            go_ret
            exact ⟨rfl, hb⟩

theorem rowWordRow : (Tryz.prog.info? 164).map (fun i => (i.zero, i.size, i.bytes)) = some (some (.slice none 0 0), 1, 24) := by kernel_rfl
set_option maxRecDepth 100000 in
theorem nilWordRow (w : World) : Calls Tryz.prog 44 #[.slice none 0 0] w fun e w' => e = .returned (.bool true) ∧ Below w.heap.size w w' := by
  obtain ⟨r0, hr0, hrz0, hrz1, hrz2⟩ := info_parts rowWordRow
  go_enter Tryz.func44, Tryz.ntmps44
  go_wp2
  go_loopg [3] 0 (fun gk i wr => gk = 0 ∧ i = .int .i64 0 ∧ wr = w)
  case atStart => exact ⟨rfl, rfl, rfl⟩
  case round =>
    obtain ⟨rfl, rfl, rfl⟩ := hrel
    go_wp2_with (at_make; go_must (refine wpList_make_row _ rfl _ _ _ rfl 164 r0 (.slice none 0 0) Tryz.underlying62 hr0 hrz0 hrz1 rfl .i64 .i64 0 rfl rfl (by omega) (by omega) ?_))
    have hb := (Below.refl wr.heap.size wr).alloc (Nat.le_refl _) (.cells (madeCells #[.slice none 0 0] 0) 164)
    generalize wr.alloc (.cells (madeCells #[.slice none 0 0] 0) 164) = W at *
    go_loopg [6] 0 (fun gk i w2 => gk = 0 ∧ i = .int .i64 0 ∧ w2 = W)
    case atStart => exact ⟨rfl, rfl, rfl⟩
    case round =>
      obtain ⟨rfl, rfl, rfl⟩ := hrel
      go_wp2
      go_loopg [9] 0 (fun gk i w3 => gk = 0 ∧ i = .int .i64 0 ∧ w3 = wr)
      case atStart => exact ⟨rfl, rfl, rfl⟩
      case round =>
        obtain ⟨rfl, rfl, rfl⟩ := hrel
        go_wp2
        go_loopg [11] 0 (fun gk i w3 => gk = 0 ∧ i = .int .i64 0 ∧ w3 = wr)
        case atStart => exact ⟨rfl, rfl, rfl⟩
        case round =>
          obtain ⟨rfl, rfl, rfl⟩ := hrel
          go_wp2
          go_loopg [14] 0 (fun gk i w3 => gk = 0 ∧ i = .int .i64 0 ∧ w3 = wr)
          case atStart => exact ⟨rfl, rfl, rfl⟩
          case round =>
            obtain ⟨rfl, rfl, rfl⟩ := hrel
            go_wp2
            go_ret
            exact ⟨rfl, hb⟩

theorem rowAlts : (Tryz.prog.info? 169).map (fun i => (i.zero, i.size, i.bytes)) = some (some (.slice none 0 0), 1, 24) := by kernel_rfl
set_option maxRecDepth 100000 in
theorem nilAlts (w : World) : Calls Tryz.prog 45 #[.slice none 0 0] w fun e w' => e = .returned (.bool true) ∧ Below w.heap.size w w' := by
  obtain ⟨r0, hr0, hrz0, hrz1, hrz2⟩ := info_parts rowAlts
  go_enter Tryz.func45, Tryz.ntmps45
  go_wp2
  go_loopg [3] 0 (fun gk i wr => gk = 0 ∧ i = .int .i64 0 ∧ wr = w)
  case atStart => exact ⟨rfl, rfl, rfl⟩
  case round =>
    obtain ⟨rfl, rfl, rfl⟩ := hrel
    go_wp2_with (at_make; go_must (refine wpList_make_row _ rfl _ _ _ rfl 169 r0 (.slice none 0 0) Tryz.underlying63 hr0 hrz0 hrz1 rfl .i64 .i64 0 rfl rfl (by omega) (by omega) ?_))
    have hb := (Below.refl wr.heap.size wr).alloc (Nat.le_refl _) (.cells (madeCells #[.slice none 0 0] 0) 169)
    generalize wr.alloc (.cells (madeCells #[.slice none 0 0] 0) 169) = W at *
    go_loopg [6] 0 (fun gk i w2 => gk = 0 ∧ i = .int .i64 0 ∧ w2 = W)
    case atStart => exact ⟨rfl, rfl, rfl⟩
    case round =>
      obtain ⟨rfl, rfl, rfl⟩ := hrel
      go_wp2
      go_loopg [9] 0 (fun gk i w3 => gk = 0 ∧ i = .int .i64 0 ∧ w3 = wr)
      case atStart => exact ⟨rfl, rfl, rfl⟩
      case round =>
        obtain ⟨rfl, rfl, rfl⟩ := hrel
        go_wp2
        go_loopg [11] 0 (fun gk i w3 => gk = 0 ∧ i = .int .i64 0 ∧ w3 = wr)
        case atStart => exact ⟨rfl, rfl, rfl⟩
        case round =>
          obtain ⟨rfl, rfl, rfl⟩ := hrel
          go_wp2
          go_loopg [14] 0 (fun gk i w3 => gk = 0 ∧ i = .int .i64 0 ∧ w3 = wr)
          case atStart => exact ⟨rfl, rfl, rfl⟩
          case round =>
            obtain ⟨rfl, rfl, rfl⟩ := hrel
            go_wp2
            go_ret
            exact ⟨rfl, hb⟩

theorem rowRules : (Tryz.prog.info? 174).map (fun i => (i.zero, i.size, i.bytes)) = some (some (.slice none 0 0), 1, 24) := by kernel_rfl
set_option maxRecDepth 100000 in
theorem nilRules (w : World) : Calls Tryz.prog 46 #[.slice none 0 0] w fun e w' => e = .returned (.bool true) ∧ Below w.heap.size w w' := by
  obtain ⟨r0, hr0, hrz0, hrz1, hrz2⟩ := info_parts rowRules
  go_enter Tryz.func46, Tryz.ntmps46
  go_wp2
  go_loopg [3] 0 (fun gk i wr => gk = 0 ∧ i = .int .i64 0 ∧ wr = w)
  case atStart => exact ⟨rfl, rfl, rfl⟩
  case round =>
    obtain ⟨rfl, rfl, rfl⟩ := hrel
    go_wp2_with (at_make; go_must (refine wpList_make_row _ rfl _ _ _ rfl 174 r0 (.slice none 0 0) Tryz.underlying64 hr0 hrz0 hrz1 rfl .i64 .i64 0 rfl rfl (by omega) (by omega) ?_))
    have hb := (Below.refl wr.heap.size wr).alloc (Nat.le_refl _) (.cells (madeCells #[.slice none 0 0] 0) 174)
    generalize wr.alloc (.cells (madeCells #[.slice none 0 0] 0) 174) = W at *
    go_loopg [6] 0 (fun gk i w2 => gk = 0 ∧ i = .int .i64 0 ∧ w2 = W)
    case atStart => exact ⟨rfl, rfl, rfl⟩
    case round =>
      obtain ⟨rfl, rfl, rfl⟩ := hrel
      go_wp2
      go_loopg [9] 0 (fun gk i w3 => gk = 0 ∧ i = .int .i64 0 ∧ w3 = wr)
      case atStart => exact ⟨rfl, rfl, rfl⟩
      case round =>
        obtain ⟨rfl, rfl, rfl⟩ := hrel
        go_wp2
        go_loopg [11] 0 (fun gk i w3 => gk = 0 ∧ i = .int .i64 0 ∧ w3 = wr)
        case atStart => exact ⟨rfl, rfl, rfl⟩
        case round =>
          obtain ⟨rfl, rfl, rfl⟩ := hrel
          go_wp2
          go_loopg [14] 0 (fun gk i w3 => gk = 0 ∧ i = .int .i64 0 ∧ w3 = wr)
          case atStart => exact ⟨rfl, rfl, rfl⟩
          case round =>
            obtain ⟨rfl, rfl, rfl⟩ := hrel
            go_wp2
            go_ret
            exact ⟨rfl, hb⟩

theorem rowDecls : (Tryz.prog.info? 179).map (fun i => (i.zero, i.size, i.bytes)) = some (some (.slice none 0 0), 1, 24) := by kernel_rfl
set_option maxRecDepth 100000 in
theorem nilDecls (w : World) : Calls Tryz.prog 47 #[.slice none 0 0] w fun e w' => e = .returned (.bool true) ∧ Below w.heap.size w w' := by
  obtain ⟨r0, hr0, hrz0, hrz1, hrz2⟩ := info_parts rowDecls
  go_enter Tryz.func47, Tryz.ntmps47
  go_wp2
  go_loopg [3] 0 (fun gk i wr => gk = 0 ∧ i = .int .i64 0 ∧ wr = w)
  case atStart => exact ⟨rfl, rfl, rfl⟩
  case round =>
    obtain ⟨rfl, rfl, rfl⟩ := hrel
    go_wp2_with (at_make; go_must (refine wpList_make_row _ rfl _ _ _ rfl 179 r0 (.slice none 0 0) Tryz.underlying65 hr0 hrz0 hrz1 rfl .i64 .i64 0 rfl rfl (by omega) (by omega) ?_))
    have hb := (Below.refl wr.heap.size wr).alloc (Nat.le_refl _) (.cells (madeCells #[.slice none 0 0] 0) 179)
    generalize wr.alloc (.cells (madeCells #[.slice none 0 0] 0) 179) = W at *
    go_loopg [6] 0 (fun gk i w2 => gk = 0 ∧ i = .int .i64 0 ∧ w2 = W)
    case atStart => exact ⟨rfl, rfl, rfl⟩
    case round =>
      obtain ⟨rfl, rfl, rfl⟩ := hrel
      go_wp2
      go_loopg [9] 0 (fun gk i w3 => gk = 0 ∧ i = .int .i64 0 ∧ w3 = wr)
      case atStart => exact ⟨rfl, rfl, rfl⟩
      case round =>
        obtain ⟨rfl, rfl, rfl⟩ := hrel
        go_wp2
        go_loopg [11] 0 (fun gk i w3 => gk = 0 ∧ i = .int .i64 0 ∧ w3 = wr)
        case atStart => exact ⟨rfl, rfl, rfl⟩
        case round =>
          obtain ⟨rfl, rfl, rfl⟩ := hrel
          go_wp2
          go_loopg [14] 0 (fun gk i w3 => gk = 0 ∧ i = .int .i64 0 ∧ w3 = wr)
          case atStart => exact ⟨rfl, rfl, rfl⟩
          case round =>
            obtain ⟨rfl, rfl, rfl⟩ := hrel
            go_wp2
            go_ret
            exact ⟨rfl, hb⟩

theorem rowSources : (Tryz.prog.info? 184).map (fun i => (i.zero, i.size, i.bytes)) = some (some (.slice none 0 0), 1, 24) := by kernel_rfl
set_option maxRecDepth 100000 in
theorem nilSources (w : World) : Calls Tryz.prog 48 #[.slice none 0 0] w fun e w' => e = .returned (.bool true) ∧ Below w.heap.size w w' := by
  obtain ⟨r0, hr0, hrz0, hrz1, hrz2⟩ := info_parts rowSources
  go_enter Tryz.func48, Tryz.ntmps48
  go_wp2
  go_loopg [3] 0 (fun gk i wr => gk = 0 ∧ i = .int .i64 0 ∧ wr = w)
  case atStart => exact ⟨rfl, rfl, rfl⟩
  case round =>
    obtain ⟨rfl, rfl, rfl⟩ := hrel
    go_wp2_with (at_make; go_must (refine wpList_make_row _ rfl _ _ _ rfl 184 r0 (.slice none 0 0) Tryz.underlying66 hr0 hrz0 hrz1 rfl .i64 .i64 0 rfl rfl (by omega) (by omega) ?_))
    have hb := (Below.refl wr.heap.size wr).alloc (Nat.le_refl _) (.cells (madeCells #[.slice none 0 0] 0) 184)
    generalize wr.alloc (.cells (madeCells #[.slice none 0 0] 0) 184) = W at *
    go_loopg [6] 0 (fun gk i w2 => gk = 0 ∧ i = .int .i64 0 ∧ w2 = W)
    case atStart => exact ⟨rfl, rfl, rfl⟩
    case round =>
      obtain ⟨rfl, rfl, rfl⟩ := hrel
      go_wp2
      go_loopg [9] 0 (fun gk i w3 => gk = 0 ∧ i = .int .i64 0 ∧ w3 = wr)
      case atStart => exact ⟨rfl, rfl, rfl⟩
      case round =>
        obtain ⟨rfl, rfl, rfl⟩ := hrel
        go_wp2
        go_loopg [11] 0 (fun gk i w3 => gk = 0 ∧ i = .int .i64 0 ∧ w3 = wr)
        case atStart => exact ⟨rfl, rfl, rfl⟩
        case round =>
          obtain ⟨rfl, rfl, rfl⟩ := hrel
          go_wp2
          go_loopg [14] 0 (fun gk i w3 => gk = 0 ∧ i = .int .i64 0 ∧ w3 = wr)
          case atStart => exact ⟨rfl, rfl, rfl⟩
          case round =>
            obtain ⟨rfl, rfl, rfl⟩ := hrel
            go_wp2
            go_ret
            exact ⟨rfl, hb⟩

theorem rowProds : (Tryz.prog.info? 189).map (fun i => (i.zero, i.size, i.bytes)) = some (some (.slice none 0 0), 1, 24) := by kernel_rfl
set_option maxRecDepth 100000 in
theorem nilProds (w : World) : Calls Tryz.prog 49 #[.slice none 0 0] w fun e w' => e = .returned (.bool true) ∧ Below w.heap.size w w' := by
  obtain ⟨r0, hr0, hrz0, hrz1, hrz2⟩ := info_parts rowProds
  go_enter Tryz.func49, Tryz.ntmps49
  go_wp2
  go_loopg [3] 0 (fun gk i wr => gk = 0 ∧ i = .int .i64 0 ∧ wr = w)
  case atStart => exact ⟨rfl, rfl, rfl⟩
  case round =>
    obtain ⟨rfl, rfl, rfl⟩ := hrel
    go_wp2_with (at_make; go_must (refine wpList_make_row _ rfl _ _ _ rfl 189 r0 (.slice none 0 0) Tryz.underlying67 hr0 hrz0 hrz1 rfl .i64 .i64 0 rfl rfl (by omega) (by omega) ?_))
    have hb := (Below.refl wr.heap.size wr).alloc (Nat.le_refl _) (.cells (madeCells #[.slice none 0 0] 0) 189)
    generalize wr.alloc (.cells (madeCells #[.slice none 0 0] 0) 189) = W at *
    go_loopg [6] 0 (fun gk i w2 => gk = 0 ∧ i = .int .i64 0 ∧ w2 = W)
    case atStart => exact ⟨rfl, rfl, rfl⟩
    case round =>
      obtain ⟨rfl, rfl, rfl⟩ := hrel
      go_wp2
      go_loopg [9] 0 (fun gk i w3 => gk = 0 ∧ i = .int .i64 0 ∧ w3 = wr)
      case atStart => exact ⟨rfl, rfl, rfl⟩
      case round =>
        obtain ⟨rfl, rfl, rfl⟩ := hrel
        go_wp2
        go_loopg [11] 0 (fun gk i w3 => gk = 0 ∧ i = .int .i64 0 ∧ w3 = wr)
        case atStart => exact ⟨rfl, rfl, rfl⟩
        case round =>
          obtain ⟨rfl, rfl, rfl⟩ := hrel
          go_wp2
          go_loopg [14] 0 (fun gk i w3 => gk = 0 ∧ i = .int .i64 0 ∧ w3 = wr)
          case atStart => exact ⟨rfl, rfl, rfl⟩
          case round =>
            obtain ⟨rfl, rfl, rfl⟩ := hrel
            go_wp2
            go_ret
            exact ⟨rfl, hb⟩

theorem rowSymbols : (Tryz.prog.info? 194).map (fun i => (i.zero, i.size, i.bytes)) = some (some (.slice none 0 0), 1, 24) := by kernel_rfl
set_option maxRecDepth 100000 in
theorem nilSymbols (w : World) : Calls Tryz.prog 50 #[.slice none 0 0] w fun e w' => e = .returned (.bool true) ∧ Below w.heap.size w w' := by
  obtain ⟨r0, hr0, hrz0, hrz1, hrz2⟩ := info_parts rowSymbols
  go_enter Tryz.func50, Tryz.ntmps50
  go_wp2
  go_loopg [3] 0 (fun gk i wr => gk = 0 ∧ i = .int .i64 0 ∧ wr = w)
  case atStart => exact ⟨rfl, rfl, rfl⟩
  case round =>
    obtain ⟨rfl, rfl, rfl⟩ := hrel
    go_wp2_with (at_make; go_must (refine wpList_make_row _ rfl _ _ _ rfl 194 r0 (.slice none 0 0) Tryz.underlying68 hr0 hrz0 hrz1 rfl .i64 .i64 0 rfl rfl (by omega) (by omega) ?_))
    have hb := (Below.refl wr.heap.size wr).alloc (Nat.le_refl _) (.cells (madeCells #[.slice none 0 0] 0) 194)
    generalize wr.alloc (.cells (madeCells #[.slice none 0 0] 0) 194) = W at *
    go_loopg [6] 0 (fun gk i w2 => gk = 0 ∧ i = .int .i64 0 ∧ w2 = W)
    case atStart => exact ⟨rfl, rfl, rfl⟩
    case round =>
      obtain ⟨rfl, rfl, rfl⟩ := hrel
      go_wp2
      go_loopg [9] 0 (fun gk i w3 => gk = 0 ∧ i = .int .i64 0 ∧ w3 = wr)
      case atStart => exact ⟨rfl, rfl, rfl⟩
      case round =>
        obtain ⟨rfl, rfl, rfl⟩ := hrel
        go_wp2
        go_loopg [11] 0 (fun gk i w3 => gk = 0 ∧ i = .int .i64 0 ∧ w3 = wr)
        case atStart => exact ⟨rfl, rfl, rfl⟩
        case round =>
          obtain ⟨rfl, rfl, rfl⟩ := hrel
          go_wp2
          go_loopg [14] 0 (fun gk i w3 => gk = 0 ∧ i = .int .i64 0 ∧ w3 = wr)
          case atStart => exact ⟨rfl, rfl, rfl⟩
          case round =>
            obtain ⟨rfl, rfl, rfl⟩ := hrel
            go_wp2
            go_ret
            exact ⟨rfl, hb⟩

theorem rowGrammars : (Tryz.prog.info? 199).map (fun i => (i.zero, i.size, i.bytes)) = some (some (.slice none 0 0), 1, 24) := by kernel_rfl
set_option maxRecDepth 100000 in
theorem nilGrammars (w : World) : Calls Tryz.prog 51 #[.slice none 0 0] w fun e w' => e = .returned (.bool true) ∧ Below w.heap.size w w' := by
  obtain ⟨r0, hr0, hrz0, hrz1, hrz2⟩ := info_parts rowGrammars
  go_enter Tryz.func51, Tryz.ntmps51
  go_wp2
  go_loopg [3] 0 (fun gk i wr => gk = 0 ∧ i = .int .i64 0 ∧ wr = w)
  case atStart => exact ⟨rfl, rfl, rfl⟩
  case round =>
    obtain ⟨rfl, rfl, rfl⟩ := hrel
    go_wp2_with (at_make; go_must (refine wpList_make_row _ rfl _ _ _ rfl 199 r0 (.slice none 0 0) Tryz.underlying69 hr0 hrz0 hrz1 rfl .i64 .i64 0 rfl rfl (by omega) (by omega) ?_))
    have hb := (Below.refl wr.heap.size wr).alloc (Nat.le_refl _) (.cells (madeCells #[.slice none 0 0] 0) 199)
    generalize wr.alloc (.cells (madeCells #[.slice none 0 0] 0) 199) = W at *
    go_loopg [6] 0 (fun gk i w2 => gk = 0 ∧ i = .int .i64 0 ∧ w2 = W)
    case atStart => exact ⟨rfl, rfl, rfl⟩
    case round =>
      obtain ⟨rfl, rfl, rfl⟩ := hrel
      go_wp2
      go_loopg [9] 0 (fun gk i w3 => gk = 0 ∧ i = .int .i64 0 ∧ w3 = wr)
      case atStart => exact ⟨rfl, rfl, rfl⟩
      case round =>
        obtain ⟨rfl, rfl, rfl⟩ := hrel
        go_wp2
        go_loopg [11] 0 (fun gk i w3 => gk = 0 ∧ i = .int .i64 0 ∧ w3 = wr)
        case atStart => exact ⟨rfl, rfl, rfl⟩
        case round =>
          obtain ⟨rfl, rfl, rfl⟩ := hrel
          go_wp2
          go_loopg [14] 0 (fun gk i w3 => gk = 0 ∧ i = .int .i64 0 ∧ w3 = wr)
          case atStart => exact ⟨rfl, rfl, rfl⟩
          case round =>
            obtain ⟨rfl, rfl, rfl⟩ := hrel
            go_wp2
            go_ret
            exact ⟨rfl, hb⟩

theorem rowItems : (Tryz.prog.info? 204).map (fun i => (i.zero, i.size, i.bytes)) = some (some (.slice none 0 0), 1, 24) := by kernel_rfl
set_option maxRecDepth 100000 in
theorem nilItems (w : World) : Calls Tryz.prog 52 #[.slice none 0 0] w fun e w' => e = .returned (.bool true) ∧ Below w.heap.size w w' := by
  obtain ⟨r0, hr0, hrz0, hrz1, hrz2⟩ := info_parts rowItems
  go_enter Tryz.func52, Tryz.ntmps52
  go_wp2
  go_loopg [3] 0 (fun gk i wr => gk = 0 ∧ i = .int .i64 0 ∧ wr = w)
  case atStart => exact ⟨rfl, rfl, rfl⟩
  case round =>
    obtain ⟨rfl, rfl, rfl⟩ := hrel
    go_wp2_with (at_make; go_must (refine wpList_make_row _ rfl _ _ _ rfl 204 r0 (.slice none 0 0) Tryz.underlying70 hr0 hrz0 hrz1 rfl .i64 .i64 0 rfl rfl (by omega) (by omega) ?_))
    have hb := (Below.refl wr.heap.size wr).alloc (Nat.le_refl _) (.cells (madeCells #[.slice none 0 0] 0) 204)
    generalize wr.alloc (.cells (madeCells #[.slice none 0 0] 0) 204) = W at *
    go_loopg [6] 0 (fun gk i w2 => gk = 0 ∧ i = .int .i64 0 ∧ w2 = W)
    case atStart => exact ⟨rfl, rfl, rfl⟩
    case round =>
      obtain ⟨rfl, rfl, rfl⟩ := hrel
      go_wp2
      go_loopg [9] 0 (fun gk i w3 => gk = 0 ∧ i = .int .i64 0 ∧ w3 = wr)
      case atStart => exact ⟨rfl, rfl, rfl⟩
      case round =>
        obtain ⟨rfl, rfl, rfl⟩ := hrel
        go_wp2
        go_loopg [11] 0 (fun gk i w3 => gk = 0 ∧ i = .int .i64 0 ∧ w3 = wr)
        case atStart => exact ⟨rfl, rfl, rfl⟩
        case round =>
          obtain ⟨rfl, rfl, rfl⟩ := hrel
          go_wp2
          go_loopg [14] 0 (fun gk i w3 => gk = 0 ∧ i = .int .i64 0 ∧ w3 = wr)
          case atStart => exact ⟨rfl, rfl, rfl⟩
          case round =>
            obtain ⟨rfl, rfl, rfl⟩ := hrel
            go_wp2
            go_ret
            exact ⟨rfl, hb⟩

theorem rowEdges : (Tryz.prog.info? 208).map (fun i => (i.zero, i.size, i.bytes)) = some (some (.slice none 0 0), 1, 24) := by kernel_rfl
set_option maxRecDepth 100000 in
theorem nilEdges (w : World) : Calls Tryz.prog 53 #[.slice none 0 0] w fun e w' => e = .returned (.bool true) ∧ Below w.heap.size w w' := by
  obtain ⟨r0, hr0, hrz0, hrz1, hrz2⟩ := info_parts rowEdges
  go_enter Tryz.func53, Tryz.ntmps53
  go_wp2
  go_loopg [3] 0 (fun gk i wr => gk = 0 ∧ i = .int .i64 0 ∧ wr = w)
  case atStart => exact ⟨rfl, rfl, rfl⟩
  case round =>
    obtain ⟨rfl, rfl, rfl⟩ := hrel
    go_wp2_with (at_make; go_must (refine wpList_make_row _ rfl _ _ _ rfl 208 r0 (.slice none 0 0) Tryz.underlying71 hr0 hrz0 hrz1 rfl .i64 .i64 0 rfl rfl (by omega) (by omega) ?_))
    have hb := (Below.refl wr.heap.size wr).alloc (Nat.le_refl _) (.cells (madeCells #[.slice none 0 0] 0) 208)
    generalize wr.alloc (.cells (madeCells #[.slice none 0 0] 0) 208) = W at *
    go_loopg [6] 0 (fun gk i w2 => gk = 0 ∧ i = .int .i64 0 ∧ w2 = W)
    case atStart => exact ⟨rfl, rfl, rfl⟩
    case round =>
      obtain ⟨rfl, rfl, rfl⟩ := hrel
      go_wp2
      go_loopg [9] 0 (fun gk i w3 => gk = 0 ∧ i = .int .i64 0 ∧ w3 = wr)
      case atStart => exact ⟨rfl, rfl, rfl⟩
      case round =>
        obtain ⟨rfl, rfl, rfl⟩ := hrel
        go_wp2
        go_loopg [11] 0 (fun gk i w3 => gk = 0 ∧ i = .int .i64 0 ∧ w3 = wr)
        case atStart => exact ⟨rfl, rfl, rfl⟩
        case round =>
          obtain ⟨rfl, rfl, rfl⟩ := hrel
          go_wp2
          go_loopg [14] 0 (fun gk i w3 => gk = 0 ∧ i = .int .i64 0 ∧ w3 = wr)
          case atStart => exact ⟨rfl, rfl, rfl⟩
          case round =>
            obtain ⟨rfl, rfl, rfl⟩ := hrel
            go_wp2
            go_ret
            exact ⟨rfl, hb⟩

theorem rowStates : (Tryz.prog.info? 212).map (fun i => (i.zero, i.size, i.bytes)) = some (some (.slice none 0 0), 1, 24) := by kernel_rfl
set_option maxRecDepth 100000 in
theorem nilStates (w : World) : Calls Tryz.prog 54 #[.slice none 0 0] w fun e w' => e = .returned (.bool true) ∧ Below w.heap.size w w' := by
  obtain ⟨r0, hr0, hrz0, hrz1, hrz2⟩ := info_parts rowStates
  go_enter Tryz.func54, Tryz.ntmps54
  go_wp2
  go_loopg [3] 0 (fun gk i wr => gk = 0 ∧ i = .int .i64 0 ∧ wr = w)
  case atStart => exact ⟨rfl, rfl, rfl⟩
  case round =>
    obtain ⟨rfl, rfl, rfl⟩ := hrel
    go_wp2_with (at_make; go_must (refine wpList_make_row _ rfl _ _ _ rfl 212 r0 (.slice none 0 0) Tryz.underlying72 hr0 hrz0 hrz1 rfl .i64 .i64 0 rfl rfl (by omega) (by omega) ?_))
    have hb := (Below.refl wr.heap.size wr).alloc (Nat.le_refl _) (.cells (madeCells #[.slice none 0 0] 0) 212)
    generalize wr.alloc (.cells (madeCells #[.slice none 0 0] 0) 212) = W at *
    go_loopg [6] 0 (fun gk i w2 => gk = 0 ∧ i = .int .i64 0 ∧ w2 = W)
    case atStart => exact ⟨rfl, rfl, rfl⟩
    case round =>
      obtain ⟨rfl, rfl, rfl⟩ := hrel
      go_wp2
      go_loopg [9] 0 (fun gk i w3 => gk = 0 ∧ i = .int .i64 0 ∧ w3 = wr)
      case atStart => exact ⟨rfl, rfl, rfl⟩
      case round =>
        obtain ⟨rfl, rfl, rfl⟩ := hrel
        go_wp2
        go_loopg [11] 0 (fun gk i w3 => gk = 0 ∧ i = .int .i64 0 ∧ w3 = wr)
        case atStart => exact ⟨rfl, rfl, rfl⟩
        case round =>
          obtain ⟨rfl, rfl, rfl⟩ := hrel
          go_wp2
          go_loopg [14] 0 (fun gk i w3 => gk = 0 ∧ i = .int .i64 0 ∧ w3 = wr)
          case atStart => exact ⟨rfl, rfl, rfl⟩
          case round =>
            obtain ⟨rfl, rfl, rfl⟩ := hrel
            go_wp2
            go_ret
            exact ⟨rfl, hb⟩

theorem rowAheads : (Tryz.prog.info? 217).map (fun i => (i.zero, i.size, i.bytes)) = some (some (.slice none 0 0), 1, 24) := by kernel_rfl
set_option maxRecDepth 100000 in
theorem nilAheads (w : World) : Calls Tryz.prog 55 #[.slice none 0 0] w fun e w' => e = .returned (.bool true) ∧ Below w.heap.size w w' := by
  obtain ⟨r0, hr0, hrz0, hrz1, hrz2⟩ := info_parts rowAheads
  go_enter Tryz.func55, Tryz.ntmps55
  go_wp2
  go_loopg [3] 0 (fun gk i wr => gk = 0 ∧ i = .int .i64 0 ∧ wr = w)
  case atStart => exact ⟨rfl, rfl, rfl⟩
  case round =>
    obtain ⟨rfl, rfl, rfl⟩ := hrel
    go_wp2_with (at_make; go_must (refine wpList_make_row _ rfl _ _ _ rfl 217 r0 (.slice none 0 0) Tryz.underlying73 hr0 hrz0 hrz1 rfl .i64 .i64 0 rfl rfl (by omega) (by omega) ?_))
    have hb := (Below.refl wr.heap.size wr).alloc (Nat.le_refl _) (.cells (madeCells #[.slice none 0 0] 0) 217)
    generalize wr.alloc (.cells (madeCells #[.slice none 0 0] 0) 217) = W at *
    go_loopg [6] 0 (fun gk i w2 => gk = 0 ∧ i = .int .i64 0 ∧ w2 = W)
    case atStart => exact ⟨rfl, rfl, rfl⟩
    case round =>
      obtain ⟨rfl, rfl, rfl⟩ := hrel
      go_wp2
      go_loopg [9] 0 (fun gk i w3 => gk = 0 ∧ i = .int .i64 0 ∧ w3 = wr)
      case atStart => exact ⟨rfl, rfl, rfl⟩
      case round =>
        obtain ⟨rfl, rfl, rfl⟩ := hrel
        go_wp2
        go_loopg [11] 0 (fun gk i w3 => gk = 0 ∧ i = .int .i64 0 ∧ w3 = wr)
        case atStart => exact ⟨rfl, rfl, rfl⟩
        case round =>
          obtain ⟨rfl, rfl, rfl⟩ := hrel
          go_wp2
          go_loopg [14] 0 (fun gk i w3 => gk = 0 ∧ i = .int .i64 0 ∧ w3 = wr)
          case atStart => exact ⟨rfl, rfl, rfl⟩
          case round =>
            obtain ⟨rfl, rfl, rfl⟩ := hrel
            go_wp2
            go_ret
            exact ⟨rfl, hb⟩

theorem rowActs : (Tryz.prog.info? 222).map (fun i => (i.zero, i.size, i.bytes)) = some (some (.slice none 0 0), 1, 24) := by kernel_rfl
set_option maxRecDepth 100000 in
theorem nilActs (w : World) : Calls Tryz.prog 56 #[.slice none 0 0] w fun e w' => e = .returned (.bool true) ∧ Below w.heap.size w w' := by
  obtain ⟨r0, hr0, hrz0, hrz1, hrz2⟩ := info_parts rowActs
  go_enter Tryz.func56, Tryz.ntmps56
  go_wp2
  go_loopg [3] 0 (fun gk i wr => gk = 0 ∧ i = .int .i64 0 ∧ wr = w)
  case atStart => exact ⟨rfl, rfl, rfl⟩
  case round =>
    obtain ⟨rfl, rfl, rfl⟩ := hrel
    go_wp2_with (at_make; go_must (refine wpList_make_row _ rfl _ _ _ rfl 222 r0 (.slice none 0 0) Tryz.underlying74 hr0 hrz0 hrz1 rfl .i64 .i64 0 rfl rfl (by omega) (by omega) ?_))
    have hb := (Below.refl wr.heap.size wr).alloc (Nat.le_refl _) (.cells (madeCells #[.slice none 0 0] 0) 222)
    generalize wr.alloc (.cells (madeCells #[.slice none 0 0] 0) 222) = W at *
    go_loopg [6] 0 (fun gk i w2 => gk = 0 ∧ i = .int .i64 0 ∧ w2 = W)
    case atStart => exact ⟨rfl, rfl, rfl⟩
    case round =>
      obtain ⟨rfl, rfl, rfl⟩ := hrel
      go_wp2
      go_loopg [9] 0 (fun gk i w3 => gk = 0 ∧ i = .int .i64 0 ∧ w3 = wr)
      case atStart => exact ⟨rfl, rfl, rfl⟩
      case round =>
        obtain ⟨rfl, rfl, rfl⟩ := hrel
        go_wp2
        go_loopg [11] 0 (fun gk i w3 => gk = 0 ∧ i = .int .i64 0 ∧ w3 = wr)
        case atStart => exact ⟨rfl, rfl, rfl⟩
        case round =>
          obtain ⟨rfl, rfl, rfl⟩ := hrel
          go_wp2
          go_loopg [14] 0 (fun gk i w3 => gk = 0 ∧ i = .int .i64 0 ∧ w3 = wr)
          case atStart => exact ⟨rfl, rfl, rfl⟩
          case round =>
            obtain ⟨rfl, rfl, rfl⟩ := hrel
            go_wp2
            go_ret
            exact ⟨rfl, hb⟩

theorem rowClashes : (Tryz.prog.info? 227).map (fun i => (i.zero, i.size, i.bytes)) = some (some (.slice none 0 0), 1, 24) := by kernel_rfl
set_option maxRecDepth 100000 in
theorem nilClashes (w : World) : Calls Tryz.prog 57 #[.slice none 0 0] w fun e w' => e = .returned (.bool true) ∧ Below w.heap.size w w' := by
  obtain ⟨r0, hr0, hrz0, hrz1, hrz2⟩ := info_parts rowClashes
  go_enter Tryz.func57, Tryz.ntmps57
  go_wp2
  go_loopg [3] 0 (fun gk i wr => gk = 0 ∧ i = .int .i64 0 ∧ wr = w)
  case atStart => exact ⟨rfl, rfl, rfl⟩
  case round =>
    obtain ⟨rfl, rfl, rfl⟩ := hrel
    go_wp2_with (at_make; go_must (refine wpList_make_row _ rfl _ _ _ rfl 227 r0 (.slice none 0 0) Tryz.underlying75 hr0 hrz0 hrz1 rfl .i64 .i64 0 rfl rfl (by omega) (by omega) ?_))
    have hb := (Below.refl wr.heap.size wr).alloc (Nat.le_refl _) (.cells (madeCells #[.slice none 0 0] 0) 227)
    generalize wr.alloc (.cells (madeCells #[.slice none 0 0] 0) 227) = W at *
    go_loopg [6] 0 (fun gk i w2 => gk = 0 ∧ i = .int .i64 0 ∧ w2 = W)
    case atStart => exact ⟨rfl, rfl, rfl⟩
    case round =>
      obtain ⟨rfl, rfl, rfl⟩ := hrel
      go_wp2
      go_loopg [9] 0 (fun gk i w3 => gk = 0 ∧ i = .int .i64 0 ∧ w3 = wr)
      case atStart => exact ⟨rfl, rfl, rfl⟩
      case round =>
        obtain ⟨rfl, rfl, rfl⟩ := hrel
        go_wp2
        go_loopg [11] 0 (fun gk i w3 => gk = 0 ∧ i = .int .i64 0 ∧ w3 = wr)
        case atStart => exact ⟨rfl, rfl, rfl⟩
        case round =>
          obtain ⟨rfl, rfl, rfl⟩ := hrel
          go_wp2
          go_loopg [14] 0 (fun gk i w3 => gk = 0 ∧ i = .int .i64 0 ∧ w3 = wr)
          case atStart => exact ⟨rfl, rfl, rfl⟩
          case round =>
            obtain ⟨rfl, rfl, rfl⟩ := hrel
            go_wp2
            go_ret
            exact ⟨rfl, hb⟩

theorem rowPackedRow : (Tryz.prog.info? 231).map (fun i => (i.zero, i.size, i.bytes)) = some (some (.slice none 0 0), 1, 24) := by kernel_rfl
set_option maxRecDepth 100000 in
theorem nilPackedRow (w : World) : Calls Tryz.prog 58 #[.slice none 0 0] w fun e w' => e = .returned (.bool true) ∧ Below w.heap.size w w' := by
  obtain ⟨r0, hr0, hrz0, hrz1, hrz2⟩ := info_parts rowPackedRow
  go_enter Tryz.func58, Tryz.ntmps58
  go_wp2
  go_loopg [3] 0 (fun gk i wr => gk = 0 ∧ i = .int .i64 0 ∧ wr = w)
  case atStart => exact ⟨rfl, rfl, rfl⟩
  case round =>
    obtain ⟨rfl, rfl, rfl⟩ := hrel
    go_wp2_with (at_make; go_must (refine wpList_make_row _ rfl _ _ _ rfl 231 r0 (.slice none 0 0) Tryz.underlying76 hr0 hrz0 hrz1 rfl .i64 .i64 0 rfl rfl (by omega) (by omega) ?_))
    have hb := (Below.refl wr.heap.size wr).alloc (Nat.le_refl _) (.cells (madeCells #[.slice none 0 0] 0) 231)
    generalize wr.alloc (.cells (madeCells #[.slice none 0 0] 0) 231) = W at *
    go_loopg [6] 0 (fun gk i w2 => gk = 0 ∧ i = .int .i64 0 ∧ w2 = W)
    case atStart => exact ⟨rfl, rfl, rfl⟩
    case round =>
      obtain ⟨rfl, rfl, rfl⟩ := hrel
      go_wp2
      go_loopg [9] 0 (fun gk i w3 => gk = 0 ∧ i = .int .i64 0 ∧ w3 = wr)
      case atStart => exact ⟨rfl, rfl, rfl⟩
      case round =>
        obtain ⟨rfl, rfl, rfl⟩ := hrel
        go_wp2
        go_loopg [11] 0 (fun gk i w3 => gk = 0 ∧ i = .int .i64 0 ∧ w3 = wr)
        case atStart => exact ⟨rfl, rfl, rfl⟩
        case round =>
          obtain ⟨rfl, rfl, rfl⟩ := hrel
          go_wp2
          go_loopg [14] 0 (fun gk i w3 => gk = 0 ∧ i = .int .i64 0 ∧ w3 = wr)
          case atStart => exact ⟨rfl, rfl, rfl⟩
          case round =>
            obtain ⟨rfl, rfl, rfl⟩ := hrel
            go_wp2
            go_ret
            exact ⟨rfl, hb⟩

theorem rowTrees : (Tryz.prog.info? 236).map (fun i => (i.zero, i.size, i.bytes)) = some (some (.slice none 0 0), 1, 24) := by kernel_rfl
set_option maxRecDepth 100000 in
theorem nilTrees (w : World) : Calls Tryz.prog 59 #[.slice none 0 0] w fun e w' => e = .returned (.bool true) ∧ Below w.heap.size w w' := by
  obtain ⟨r0, hr0, hrz0, hrz1, hrz2⟩ := info_parts rowTrees
  go_enter Tryz.func59, Tryz.ntmps59
  go_wp2
  go_loopg [3] 0 (fun gk i wr => gk = 0 ∧ i = .int .i64 0 ∧ wr = w)
  case atStart => exact ⟨rfl, rfl, rfl⟩
  case round =>
    obtain ⟨rfl, rfl, rfl⟩ := hrel
    go_wp2_with (at_make; go_must (refine wpList_make_row _ rfl _ _ _ rfl 236 r0 (.slice none 0 0) Tryz.underlying77 hr0 hrz0 hrz1 rfl .i64 .i64 0 rfl rfl (by omega) (by omega) ?_))
    have hb := (Below.refl wr.heap.size wr).alloc (Nat.le_refl _) (.cells (madeCells #[.slice none 0 0] 0) 236)
    generalize wr.alloc (.cells (madeCells #[.slice none 0 0] 0) 236) = W at *
    go_loopg [6] 0 (fun gk i w2 => gk = 0 ∧ i = .int .i64 0 ∧ w2 = W)
    case atStart => exact ⟨rfl, rfl, rfl⟩
    case round =>
      obtain ⟨rfl, rfl, rfl⟩ := hrel
      go_wp2
      go_loopg [9] 0 (fun gk i w3 => gk = 0 ∧ i = .int .i64 0 ∧ w3 = wr)
      case atStart => exact ⟨rfl, rfl, rfl⟩
      case round =>
        obtain ⟨rfl, rfl, rfl⟩ := hrel
        go_wp2
        go_loopg [11] 0 (fun gk i w3 => gk = 0 ∧ i = .int .i64 0 ∧ w3 = wr)
        case atStart => exact ⟨rfl, rfl, rfl⟩
        case round =>
          obtain ⟨rfl, rfl, rfl⟩ := hrel
          go_wp2
          go_loopg [14] 0 (fun gk i w3 => gk = 0 ∧ i = .int .i64 0 ∧ w3 = wr)
          case atStart => exact ⟨rfl, rfl, rfl⟩
          case round =>
            obtain ⟨rfl, rfl, rfl⟩ := hrel
            go_wp2
            go_ret
            exact ⟨rfl, hb⟩

theorem rowToks : (Tryz.prog.info? 241).map (fun i => (i.zero, i.size, i.bytes)) = some (some (.slice none 0 0), 1, 24) := by kernel_rfl
set_option maxRecDepth 100000 in
theorem nilToks (w : World) : Calls Tryz.prog 60 #[.slice none 0 0] w fun e w' => e = .returned (.bool true) ∧ Below w.heap.size w w' := by
  obtain ⟨r0, hr0, hrz0, hrz1, hrz2⟩ := info_parts rowToks
  go_enter Tryz.func60, Tryz.ntmps60
  go_wp2
  go_loopg [3] 0 (fun gk i wr => gk = 0 ∧ i = .int .i64 0 ∧ wr = w)
  case atStart => exact ⟨rfl, rfl, rfl⟩
  case round =>
    obtain ⟨rfl, rfl, rfl⟩ := hrel
    go_wp2_with (at_make; go_must (refine wpList_make_row _ rfl _ _ _ rfl 241 r0 (.slice none 0 0) Tryz.underlying78 hr0 hrz0 hrz1 rfl .i64 .i64 0 rfl rfl (by omega) (by omega) ?_))
    have hb := (Below.refl wr.heap.size wr).alloc (Nat.le_refl _) (.cells (madeCells #[.slice none 0 0] 0) 241)
    generalize wr.alloc (.cells (madeCells #[.slice none 0 0] 0) 241) = W at *
    go_loopg [6] 0 (fun gk i w2 => gk = 0 ∧ i = .int .i64 0 ∧ w2 = W)
    case atStart => exact ⟨rfl, rfl, rfl⟩
    case round =>
      obtain ⟨rfl, rfl, rfl⟩ := hrel
      go_wp2
      go_loopg [9] 0 (fun gk i w3 => gk = 0 ∧ i = .int .i64 0 ∧ w3 = wr)
      case atStart => exact ⟨rfl, rfl, rfl⟩
      case round =>
        obtain ⟨rfl, rfl, rfl⟩ := hrel
        go_wp2
        go_loopg [11] 0 (fun gk i w3 => gk = 0 ∧ i = .int .i64 0 ∧ w3 = wr)
        case atStart => exact ⟨rfl, rfl, rfl⟩
        case round =>
          obtain ⟨rfl, rfl, rfl⟩ := hrel
          go_wp2
          go_loopg [14] 0 (fun gk i w3 => gk = 0 ∧ i = .int .i64 0 ∧ w3 = wr)
          case atStart => exact ⟨rfl, rfl, rfl⟩
          case round =>
            obtain ⟨rfl, rfl, rfl⟩ := hrel
            go_wp2
            go_ret
            exact ⟨rfl, hb⟩

theorem rowParsedRow : (Tryz.prog.info? 246).map (fun i => (i.zero, i.size, i.bytes)) = some (some (.slice none 0 0), 1, 24) := by kernel_rfl
set_option maxRecDepth 100000 in
theorem nilParsedRow (w : World) : Calls Tryz.prog 61 #[.slice none 0 0] w fun e w' => e = .returned (.bool true) ∧ Below w.heap.size w w' := by
  obtain ⟨r0, hr0, hrz0, hrz1, hrz2⟩ := info_parts rowParsedRow
  go_enter Tryz.func61, Tryz.ntmps61
  go_wp2
  go_loopg [3] 0 (fun gk i wr => gk = 0 ∧ i = .int .i64 0 ∧ wr = w)
  case atStart => exact ⟨rfl, rfl, rfl⟩
  case round =>
    obtain ⟨rfl, rfl, rfl⟩ := hrel
    go_wp2_with (at_make; go_must (refine wpList_make_row _ rfl _ _ _ rfl 246 r0 (.slice none 0 0) Tryz.underlying79 hr0 hrz0 hrz1 rfl .i64 .i64 0 rfl rfl (by omega) (by omega) ?_))
    have hb := (Below.refl wr.heap.size wr).alloc (Nat.le_refl _) (.cells (madeCells #[.slice none 0 0] 0) 246)
    generalize wr.alloc (.cells (madeCells #[.slice none 0 0] 0) 246) = W at *
    go_loopg [6] 0 (fun gk i w2 => gk = 0 ∧ i = .int .i64 0 ∧ w2 = W)
    case atStart => exact ⟨rfl, rfl, rfl⟩
    case round =>
      obtain ⟨rfl, rfl, rfl⟩ := hrel
      go_wp2
      go_loopg [9] 0 (fun gk i w3 => gk = 0 ∧ i = .int .i64 0 ∧ w3 = wr)
      case atStart => exact ⟨rfl, rfl, rfl⟩
      case round =>
        obtain ⟨rfl, rfl, rfl⟩ := hrel
        go_wp2
        go_loopg [11] 0 (fun gk i w3 => gk = 0 ∧ i = .int .i64 0 ∧ w3 = wr)
        case atStart => exact ⟨rfl, rfl, rfl⟩
        case round =>
          obtain ⟨rfl, rfl, rfl⟩ := hrel
          go_wp2
          go_loopg [14] 0 (fun gk i w3 => gk = 0 ∧ i = .int .i64 0 ∧ w3 = wr)
          case atStart => exact ⟨rfl, rfl, rfl⟩
          case round =>
            obtain ⟨rfl, rfl, rfl⟩ := hrel
            go_wp2
            go_ret
            exact ⟨rfl, hb⟩

theorem rowNotices : (Tryz.prog.info? 251).map (fun i => (i.zero, i.size, i.bytes)) = some (some (.slice none 0 0), 1, 24) := by kernel_rfl
set_option maxRecDepth 100000 in
theorem nilNotices (w : World) : Calls Tryz.prog 62 #[.slice none 0 0] w fun e w' => e = .returned (.bool true) ∧ Below w.heap.size w w' := by
  obtain ⟨r0, hr0, hrz0, hrz1, hrz2⟩ := info_parts rowNotices
  go_enter Tryz.func62, Tryz.ntmps62
  go_wp2
  go_loopg [3] 0 (fun gk i wr => gk = 0 ∧ i = .int .i64 0 ∧ wr = w)
  case atStart => exact ⟨rfl, rfl, rfl⟩
  case round =>
    obtain ⟨rfl, rfl, rfl⟩ := hrel
    go_wp2_with (at_make; go_must (refine wpList_make_row _ rfl _ _ _ rfl 251 r0 (.slice none 0 0) Tryz.underlying80 hr0 hrz0 hrz1 rfl .i64 .i64 0 rfl rfl (by omega) (by omega) ?_))
    have hb := (Below.refl wr.heap.size wr).alloc (Nat.le_refl _) (.cells (madeCells #[.slice none 0 0] 0) 251)
    generalize wr.alloc (.cells (madeCells #[.slice none 0 0] 0) 251) = W at *
    go_loopg [6] 0 (fun gk i w2 => gk = 0 ∧ i = .int .i64 0 ∧ w2 = W)
    case atStart => exact ⟨rfl, rfl, rfl⟩
    case round =>
      obtain ⟨rfl, rfl, rfl⟩ := hrel
      go_wp2
      go_loopg [9] 0 (fun gk i w3 => gk = 0 ∧ i = .int .i64 0 ∧ w3 = wr)
      case atStart => exact ⟨rfl, rfl, rfl⟩
      case round =>
        obtain ⟨rfl, rfl, rfl⟩ := hrel
        go_wp2
        go_loopg [11] 0 (fun gk i w3 => gk = 0 ∧ i = .int .i64 0 ∧ w3 = wr)
        case atStart => exact ⟨rfl, rfl, rfl⟩
        case round =>
          obtain ⟨rfl, rfl, rfl⟩ := hrel
          go_wp2
          go_loopg [14] 0 (fun gk i w3 => gk = 0 ∧ i = .int .i64 0 ∧ w3 = wr)
          case atStart => exact ⟨rfl, rfl, rfl⟩
          case round =>
            obtain ⟨rfl, rfl, rfl⟩ := hrel
            go_wp2
            go_ret
            exact ⟨rfl, hb⟩

end Go.Proofs.YtnoadpildbbleaaGreat.FlatNil
