/- Of no lists at all each of gristmillkit's flat.. says yes. (Printed by nil_flats.py.) -/
import Derived.Test.YtfecjoheabkloaaGreatDoorFlat
namespace Go.Proofs.YtfecjoheabkloaaGreatDoor.FlatNil
open Go.RowKit Go.Proofs.YtfecjoheabkloaaGreatDoor.Heap

theorem rowLimbs : (Tryz.prog.info? 166).map (fun i => (i.zero, i.size, i.bytes)) = some (some (.slice none 0 0), 1, 24) := by kernel_rfl
set_option maxRecDepth 100000 in
theorem nilLimbs (w : World) : Calls Tryz.prog 54 #[.slice none 0 0] w fun e w' => e = .returned (.bool true) ∧ Below w.heap.size w w' := by
  obtain ⟨r0, hr0, hrz0, hrz1, hrz2⟩ := info_parts rowLimbs
  go_enter Tryz.func54, Tryz.ntmps54
  go_wp2
  go_loopg [3] 0 (fun gk i wr => gk = 0 ∧ i = .int .i64 0 ∧ wr = w)
  case atStart => exact ⟨rfl, rfl, rfl⟩
  case round =>
    obtain ⟨rfl, rfl, rfl⟩ := hrel
    go_wp2_with (at_make; go_must (refine wpList_make_row _ rfl _ _ _ rfl 166 r0 (.slice none 0 0) Tryz.underlying73 hr0 hrz0 hrz1 rfl .i64 .i64 0 rfl rfl (by omega) (by omega) ?_))
    have hb := (Below.refl wr.heap.size wr).alloc (Nat.le_refl _) (.cells (madeCells #[.slice none 0 0] 0) 166)
    generalize wr.alloc (.cells (madeCells #[.slice none 0 0] 0) 166) = W at *
    go_loopg [6] 0 (fun gk i w2 => gk = 0 ∧ i = .int .i64 0 ∧ w2 = W)
    case atStart => exact ⟨rfl, rfl, rfl⟩
    case round =>
      obtain ⟨rfl, rfl, rfl⟩ := hrel
      go_wp2
      go_loopg [9] 0 (fun gk i w3 => gk = 0 ∧ i = .int .i64 0 ∧ w3 = wr)
      case atStart => exact ⟨rfl, rfl, rfl⟩
      case round =>
        obtain ⟨rfl, rfl, rfl⟩ := hrel
        go_wp2
        go_loopg [11] 0 (fun gk i w3 => gk = 0 ∧ i = .int .i64 0 ∧ w3 = wr)
        case atStart => exact ⟨rfl, rfl, rfl⟩
        case round =>
          obtain ⟨rfl, rfl, rfl⟩ := hrel
          go_wp2
          go_loopg [14] 0 (fun gk i w3 => gk = 0 ∧ i = .int .i64 0 ∧ w3 = wr)
          case atStart => exact ⟨rfl, rfl, rfl⟩
          case round =>
            obtain ⟨rfl, rfl, rfl⟩ := hrel
            go_wp2
            go_ret
            exact ⟨rfl, hb⟩

theorem rowWords : (Tryz.prog.info? 168).map (fun i => (i.zero, i.size, i.bytes)) = some (some (.slice none 0 0), 1, 24) := by kernel_rfl
set_option maxRecDepth 100000 in
theorem nilWords (w : World) : Calls Tryz.prog 55 #[.slice none 0 0] w fun e w' => e = .returned (.bool true) ∧ Below w.heap.size w w' := by
  obtain ⟨r0, hr0, hrz0, hrz1, hrz2⟩ := info_parts rowWords
  go_enter Tryz.func55, Tryz.ntmps55
  go_wp2
  go_loopg [3] 0 (fun gk i wr => gk = 0 ∧ i = .int .i64 0 ∧ wr = w)
  case atStart => exact ⟨rfl, rfl, rfl⟩
  case round =>
    obtain ⟨rfl, rfl, rfl⟩ := hrel
    go_wp2_with (at_make; go_must (refine wpList_make_row _ rfl _ _ _ rfl 168 r0 (.slice none 0 0) Tryz.underlying74 hr0 hrz0 hrz1 rfl .i64 .i64 0 rfl rfl (by omega) (by omega) ?_))
    have hb := (Below.refl wr.heap.size wr).alloc (Nat.le_refl _) (.cells (madeCells #[.slice none 0 0] 0) 168)
    generalize wr.alloc (.cells (madeCells #[.slice none 0 0] 0) 168) = W at *
    go_loopg [6] 0 (fun gk i w2 => gk = 0 ∧ i = .int .i64 0 ∧ w2 = W)
    case atStart => exact ⟨rfl, rfl, rfl⟩
    case round =>
      obtain ⟨rfl, rfl, rfl⟩ := hrel
      go_wp2
      go_loopg [9] 0 (fun gk i w3 => gk = 0 ∧ i = .int .i64 0 ∧ w3 = wr)
      case atStart => exact ⟨rfl, rfl, rfl⟩
      case round =>
        obtain ⟨rfl, rfl, rfl⟩ := hrel
        go_wp2
        go_loopg [11] 0 (fun gk i w3 => gk = 0 ∧ i = .int .i64 0 ∧ w3 = wr)
        case atStart => exact ⟨rfl, rfl, rfl⟩
        case round =>
          obtain ⟨rfl, rfl, rfl⟩ := hrel
          go_wp2
          go_loopg [14] 0 (fun gk i w3 => gk = 0 ∧ i = .int .i64 0 ∧ w3 = wr)
          case atStart => exact ⟨rfl, rfl, rfl⟩
          case round =>
            obtain ⟨rfl, rfl, rfl⟩ := hrel
            go_wp2
            go_ret
            exact ⟨rfl, hb⟩

theorem rowInts : (Tryz.prog.info? 169).map (fun i => (i.zero, i.size, i.bytes)) = some (some (.slice none 0 0), 1, 24) := by kernel_rfl
set_option maxRecDepth 100000 in
theorem nilInts (w : World) : Calls Tryz.prog 56 #[.slice none 0 0] w fun e w' => e = .returned (.bool true) ∧ Below w.heap.size w w' := by
  obtain ⟨r0, hr0, hrz0, hrz1, hrz2⟩ := info_parts rowInts
  go_enter Tryz.func56, Tryz.ntmps56
  go_wp2
  go_loopg [3] 0 (fun gk i wr => gk = 0 ∧ i = .int .i64 0 ∧ wr = w)
  case atStart => exact ⟨rfl, rfl, rfl⟩
  case round =>
    obtain ⟨rfl, rfl, rfl⟩ := hrel
    go_wp2_with (at_make; go_must (refine wpList_make_row _ rfl _ _ _ rfl 169 r0 (.slice none 0 0) Tryz.underlying75 hr0 hrz0 hrz1 rfl .i64 .i64 0 rfl rfl (by omega) (by omega) ?_))
    have hb := (Below.refl wr.heap.size wr).alloc (Nat.le_refl _) (.cells (madeCells #[.slice none 0 0] 0) 169)
    generalize wr.alloc (.cells (madeCells #[.slice none 0 0] 0) 169) = W at *
    go_loopg [6] 0 (fun gk i w2 => gk = 0 ∧ i = .int .i64 0 ∧ w2 = W)
    case atStart => exact ⟨rfl, rfl, rfl⟩
    case round =>
      obtain ⟨rfl, rfl, rfl⟩ := hrel
      go_wp2
      go_loopg [9] 0 (fun gk i w3 => gk = 0 ∧ i = .int .i64 0 ∧ w3 = wr)
      case atStart => exact ⟨rfl, rfl, rfl⟩
      case round =>
        obtain ⟨rfl, rfl, rfl⟩ := hrel
        go_wp2
        go_loopg [11] 0 (fun gk i w3 => gk = 0 ∧ i = .int .i64 0 ∧ w3 = wr)
        case atStart => exact ⟨rfl, rfl, rfl⟩
        case round =>
          obtain ⟨rfl, rfl, rfl⟩ := hrel
          go_wp2
          go_loopg [14] 0 (fun gk i w3 => gk = 0 ∧ i = .int .i64 0 ∧ w3 = wr)
          case atStart => exact ⟨rfl, rfl, rfl⟩
          case round =>
            obtain ⟨rfl, rfl, rfl⟩ := hrel
            go_wp2
            go_ret
            exact ⟨rfl, hb⟩

theorem rowLongs : (Tryz.prog.info? 170).map (fun i => (i.zero, i.size, i.bytes)) = some (some (.slice none 0 0), 1, 24) := by kernel_rfl
set_option maxRecDepth 100000 in
theorem nilLongs (w : World) : Calls Tryz.prog 57 #[.slice none 0 0] w fun e w' => e = .returned (.bool true) ∧ Below w.heap.size w w' := by
  obtain ⟨r0, hr0, hrz0, hrz1, hrz2⟩ := info_parts rowLongs
  go_enter Tryz.func57, Tryz.ntmps57
  go_wp2
  go_loopg [3] 0 (fun gk i wr => gk = 0 ∧ i = .int .i64 0 ∧ wr = w)
  case atStart => exact ⟨rfl, rfl, rfl⟩
  case round =>
    obtain ⟨rfl, rfl, rfl⟩ := hrel
    go_wp2_with (at_make; go_must (refine wpList_make_row _ rfl _ _ _ rfl 170 r0 (.slice none 0 0) Tryz.underlying76 hr0 hrz0 hrz1 rfl .i64 .i64 0 rfl rfl (by omega) (by omega) ?_))
    have hb := (Below.refl wr.heap.size wr).alloc (Nat.le_refl _) (.cells (madeCells #[.slice none 0 0] 0) 170)
    generalize wr.alloc (.cells (madeCells #[.slice none 0 0] 0) 170) = W at *
    go_loopg [6] 0 (fun gk i w2 => gk = 0 ∧ i = .int .i64 0 ∧ w2 = W)
    case atStart => exact ⟨rfl, rfl, rfl⟩
    case round =>
      obtain ⟨rfl, rfl, rfl⟩ := hrel
      go_wp2
      go_loopg [9] 0 (fun gk i w3 => gk = 0 ∧ i = .int .i64 0 ∧ w3 = wr)
      case atStart => exact ⟨rfl, rfl, rfl⟩
      case round =>
        obtain ⟨rfl, rfl, rfl⟩ := hrel
        go_wp2
        go_loopg [11] 0 (fun gk i w3 => gk = 0 ∧ i = .int .i64 0 ∧ w3 = wr)
        case atStart => exact ⟨rfl, rfl, rfl⟩
        case round =>
          obtain ⟨rfl, rfl, rfl⟩ := hrel
          go_wp2
          go_loopg [14] 0 (fun gk i w3 => gk = 0 ∧ i = .int .i64 0 ∧ w3 = wr)
          case atStart => exact ⟨rfl, rfl, rfl⟩
          case round =>
            obtain ⟨rfl, rfl, rfl⟩ := hrel
            go_wp2
            go_ret
            exact ⟨rfl, hb⟩

theorem rowTexts : (Tryz.prog.info? 23).map (fun i => (i.zero, i.size, i.bytes)) = some (some (.slice none 0 0), 1, 24) := by kernel_rfl
set_option maxRecDepth 100000 in
theorem nilTexts (w : World) : Calls Tryz.prog 58 #[.slice none 0 0] w fun e w' => e = .returned (.bool true) ∧ Below w.heap.size w w' := by
  obtain ⟨r0, hr0, hrz0, hrz1, hrz2⟩ := info_parts rowTexts
  go_enter Tryz.func58, Tryz.ntmps58
  go_wp2
  go_loopg [3] 0 (fun gk i wr => gk = 0 ∧ i = .int .i64 0 ∧ wr = w)
  case atStart => exact ⟨rfl, rfl, rfl⟩
  case round =>
    obtain ⟨rfl, rfl, rfl⟩ := hrel
    go_wp2_with (at_make; go_must (refine wpList_make_row _ rfl _ _ _ rfl 23 r0 (.slice none 0 0) Tryz.underlying77 hr0 hrz0 hrz1 rfl .i64 .i64 0 rfl rfl (by omega) (by omega) ?_))
    have hb := (Below.refl wr.heap.size wr).alloc (Nat.le_refl _) (.cells (madeCells #[.slice none 0 0] 0) 23)
    generalize wr.alloc (.cells (madeCells #[.slice none 0 0] 0) 23) = W at *
    go_loopg [6] 0 (fun gk i w2 => gk = 0 ∧ i = .int .i64 0 ∧ w2 = W)
    case atStart => exact ⟨rfl, rfl, rfl⟩
    case round =>
      obtain ⟨rfl, rfl, rfl⟩ := hrel
      go_wp2
      go_loopg [9] 0 (fun gk i w3 => gk = 0 ∧ i = .int .i64 0 ∧ w3 = wr)
      case atStart => exact ⟨rfl, rfl, rfl⟩
      case round =>
        obtain ⟨rfl, rfl, rfl⟩ := hrel
        go_wp2
        go_loopg [11] 0 (fun gk i w3 => gk = 0 ∧ i = .int .i64 0 ∧ w3 = wr)
        case atStart => exact ⟨rfl, rfl, rfl⟩
        case round =>
          obtain ⟨rfl, rfl, rfl⟩ := hrel
          go_wp2
          go_loopg [14] 0 (fun gk i w3 => gk = 0 ∧ i = .int .i64 0 ∧ w3 = wr)
          case atStart => exact ⟨rfl, rfl, rfl⟩
          case round =>
            obtain ⟨rfl, rfl, rfl⟩ := hrel
            go_wp2
            go_ret
            exact ⟨rfl, hb⟩

theorem rowBytes : (Tryz.prog.info? 22).map (fun i => (i.zero, i.size, i.bytes)) = some (some (.slice none 0 0), 1, 24) := by kernel_rfl
set_option maxRecDepth 100000 in
theorem nilBytes (w : World) : Calls Tryz.prog 59 #[.slice none 0 0] w fun e w' => e = .returned (.bool true) ∧ Below w.heap.size w w' := by
  obtain ⟨r0, hr0, hrz0, hrz1, hrz2⟩ := info_parts rowBytes
  go_enter Tryz.func59, Tryz.ntmps59
  go_wp2
  go_loopg [3] 0 (fun gk i wr => gk = 0 ∧ i = .int .i64 0 ∧ wr = w)
  case atStart => exact ⟨rfl, rfl, rfl⟩
  case round =>
    obtain ⟨rfl, rfl, rfl⟩ := hrel
    go_wp2_with (at_make; go_must (refine wpList_make_row _ rfl _ _ _ rfl 22 r0 (.slice none 0 0) Tryz.underlying78 hr0 hrz0 hrz1 rfl .i64 .i64 0 rfl rfl (by omega) (by omega) ?_))
    have hb := (Below.refl wr.heap.size wr).alloc (Nat.le_refl _) (.cells (madeCells #[.slice none 0 0] 0) 22)
    generalize wr.alloc (.cells (madeCells #[.slice none 0 0] 0) 22) = W at *
    go_loopg [6] 0 (fun gk i w2 => gk = 0 ∧ i = .int .i64 0 ∧ w2 = W)
    case atStart => exact ⟨rfl, rfl, rfl⟩
    case round =>
      obtain ⟨rfl, rfl, rfl⟩ := hrel
      go_wp2
      go_loopg [9] 0 (fun gk i w3 => gk = 0 ∧ i = .int .i64 0 ∧ w3 = wr)
      case atStart => exact ⟨rfl, rfl, rfl⟩
      case round =>
        obtain ⟨rfl, rfl, rfl⟩ := hrel
        go_wp2
        go_loopg [11] 0 (fun gk i w3 => gk = 0 ∧ i = .int .i64 0 ∧ w3 = wr)
        case atStart => exact ⟨rfl, rfl, rfl⟩
        case round =>
          obtain ⟨rfl, rfl, rfl⟩ := hrel
          go_wp2
          go_loopg [14] 0 (fun gk i w3 => gk = 0 ∧ i = .int .i64 0 ∧ w3 = wr)
          case atStart => exact ⟨rfl, rfl, rfl⟩
          case round =>
            obtain ⟨rfl, rfl, rfl⟩ := hrel
            go_wp2
            go_ret
            exact ⟨rfl, hb⟩

theorem rowTokens : (Tryz.prog.info? 29).map (fun i => (i.zero, i.size, i.bytes)) = some (some (.slice none 0 0), 1, 24) := by kernel_rfl
set_option maxRecDepth 100000 in
theorem nilTokens (w : World) : Calls Tryz.prog 60 #[.slice none 0 0] w fun e w' => e = .returned (.bool true) ∧ Below w.heap.size w w' := by
  obtain ⟨r0, hr0, hrz0, hrz1, hrz2⟩ := info_parts rowTokens
  go_enter Tryz.func60, Tryz.ntmps60
  go_wp2
  go_loopg [3] 0 (fun gk i wr => gk = 0 ∧ i = .int .i64 0 ∧ wr = w)
  case atStart => exact ⟨rfl, rfl, rfl⟩
  case round =>
    obtain ⟨rfl, rfl, rfl⟩ := hrel
    go_wp2_with (at_make; go_must (refine wpList_make_row _ rfl _ _ _ rfl 29 r0 (.slice none 0 0) Tryz.underlying37 hr0 hrz0 hrz1 rfl .i64 .i64 0 rfl rfl (by omega) (by omega) ?_))
    have hb := (Below.refl wr.heap.size wr).alloc (Nat.le_refl _) (.cells (madeCells #[.slice none 0 0] 0) 29)
    generalize wr.alloc (.cells (madeCells #[.slice none 0 0] 0) 29) = W at *
    go_loopg [6] 0 (fun gk i w2 => gk = 0 ∧ i = .int .i64 0 ∧ w2 = W)
    case atStart => exact ⟨rfl, rfl, rfl⟩
    case round =>
      obtain ⟨rfl, rfl, rfl⟩ := hrel
      go_wp2
      go_loopg [9] 0 (fun gk i w3 => gk = 0 ∧ i = .int .i64 0 ∧ w3 = wr)
      case atStart => exact ⟨rfl, rfl, rfl⟩
      case round =>
        obtain ⟨rfl, rfl, rfl⟩ := hrel
        go_wp2
        go_loopg [11] 0 (fun gk i w3 => gk = 0 ∧ i = .int .i64 0 ∧ w3 = wr)
        case atStart => exact ⟨rfl, rfl, rfl⟩
        case round =>
          obtain ⟨rfl, rfl, rfl⟩ := hrel
          go_wp2
          go_loopg [14] 0 (fun gk i w3 => gk = 0 ∧ i = .int .i64 0 ∧ w3 = wr)
          case atStart => exact ⟨rfl, rfl, rfl⟩
          case round =>
            obtain ⟨rfl, rfl, rfl⟩ := hrel
            go_wp2
            go_ret
            exact ⟨rfl, hb⟩

theorem rowFaults : (Tryz.prog.info? 174).map (fun i => (i.zero, i.size, i.bytes)) = some (some (.slice none 0 0), 1, 24) := by kernel_rfl
set_option maxRecDepth 100000 in
theorem nilFaults (w : World) : Calls Tryz.prog 61 #[.slice none 0 0] w fun e w' => e = .returned (.bool true) ∧ Below w.heap.size w w' := by
  obtain ⟨r0, hr0, hrz0, hrz1, hrz2⟩ := info_parts rowFaults
  go_enter Tryz.func61, Tryz.ntmps61
  go_wp2
  go_loopg [3] 0 (fun gk i wr => gk = 0 ∧ i = .int .i64 0 ∧ wr = w)
  case atStart => exact ⟨rfl, rfl, rfl⟩
  case round =>
    obtain ⟨rfl, rfl, rfl⟩ := hrel
    go_wp2_with (at_make; go_must (refine wpList_make_row _ rfl _ _ _ rfl 174 r0 (.slice none 0 0) Tryz.underlying79 hr0 hrz0 hrz1 rfl .i64 .i64 0 rfl rfl (by omega) (by omega) ?_))
    have hb := (Below.refl wr.heap.size wr).alloc (Nat.le_refl _) (.cells (madeCells #[.slice none 0 0] 0) 174)
    generalize wr.alloc (.cells (madeCells #[.slice none 0 0] 0) 174) = W at *
    go_loopg [6] 0 (fun gk i w2 => gk = 0 ∧ i = .int .i64 0 ∧ w2 = W)
    case atStart => exact ⟨rfl, rfl, rfl⟩
    case round =>
      obtain ⟨rfl, rfl, rfl⟩ := hrel
      go_wp2
      go_loopg [9] 0 (fun gk i w3 => gk = 0 ∧ i = .int .i64 0 ∧ w3 = wr)
      case atStart => exact ⟨rfl, rfl, rfl⟩
      case round =>
        obtain ⟨rfl, rfl, rfl⟩ := hrel
        go_wp2
        go_loopg [11] 0 (fun gk i w3 => gk = 0 ∧ i = .int .i64 0 ∧ w3 = wr)
        case atStart => exact ⟨rfl, rfl, rfl⟩
        case round =>
          obtain ⟨rfl, rfl, rfl⟩ := hrel
          go_wp2
          go_loopg [14] 0 (fun gk i w3 => gk = 0 ∧ i = .int .i64 0 ∧ w3 = wr)
          case atStart => exact ⟨rfl, rfl, rfl⟩
          case round =>
            obtain ⟨rfl, rfl, rfl⟩ := hrel
            go_wp2
            go_ret
            exact ⟨rfl, hb⟩

theorem rowNodes : (Tryz.prog.info? 176).map (fun i => (i.zero, i.size, i.bytes)) = some (some (.slice none 0 0), 1, 24) := by kernel_rfl
set_option maxRecDepth 100000 in
theorem nilNodes (w : World) : Calls Tryz.prog 62 #[.slice none 0 0] w fun e w' => e = .returned (.bool true) ∧ Below w.heap.size w w' := by
  obtain ⟨r0, hr0, hrz0, hrz1, hrz2⟩ := info_parts rowNodes
  go_enter Tryz.func62, Tryz.ntmps62
  go_wp2
  go_loopg [3] 0 (fun gk i wr => gk = 0 ∧ i = .int .i64 0 ∧ wr = w)
  case atStart => exact ⟨rfl, rfl, rfl⟩
  case round =>
    obtain ⟨rfl, rfl, rfl⟩ := hrel
    go_wp2_with (at_make; go_must (refine wpList_make_row _ rfl _ _ _ rfl 176 r0 (.slice none 0 0) Tryz.underlying80 hr0 hrz0 hrz1 rfl .i64 .i64 0 rfl rfl (by omega) (by omega) ?_))
    have hb := (Below.refl wr.heap.size wr).alloc (Nat.le_refl _) (.cells (madeCells #[.slice none 0 0] 0) 176)
    generalize wr.alloc (.cells (madeCells #[.slice none 0 0] 0) 176) = W at *
    go_loopg [6] 0 (fun gk i w2 => gk = 0 ∧ i = .int .i64 0 ∧ w2 = W)
    case atStart => exact ⟨rfl, rfl, rfl⟩
    case round =>
      obtain ⟨rfl, rfl, rfl⟩ := hrel
      go_wp2
      go_loopg [9] 0 (fun gk i w3 => gk = 0 ∧ i = .int .i64 0 ∧ w3 = wr)
      case atStart => exact ⟨rfl, rfl, rfl⟩
      case round =>
        obtain ⟨rfl, rfl, rfl⟩ := hrel
        go_wp2
        go_loopg [11] 0 (fun gk i w3 => gk = 0 ∧ i = .int .i64 0 ∧ w3 = wr)
        case atStart => exact ⟨rfl, rfl, rfl⟩
        case round =>
          obtain ⟨rfl, rfl, rfl⟩ := hrel
          go_wp2
          go_loopg [14] 0 (fun gk i w3 => gk = 0 ∧ i = .int .i64 0 ∧ w3 = wr)
          case atStart => exact ⟨rfl, rfl, rfl⟩
          case round =>
            obtain ⟨rfl, rfl, rfl⟩ := hrel
            go_wp2
            go_ret
            exact ⟨rfl, hb⟩

theorem rowTypes : (Tryz.prog.info? 182).map (fun i => (i.zero, i.size, i.bytes)) = some (some (.slice none 0 0), 1, 24) := by kernel_rfl
set_option maxRecDepth 100000 in
theorem nilTypes (w : World) : Calls Tryz.prog 63 #[.slice none 0 0] w fun e w' => e = .returned (.bool true) ∧ Below w.heap.size w w' := by
  obtain ⟨r0, hr0, hrz0, hrz1, hrz2⟩ := info_parts rowTypes
  go_enter Tryz.func63, Tryz.ntmps63
  go_wp2
  go_loopg [3] 0 (fun gk i wr => gk = 0 ∧ i = .int .i64 0 ∧ wr = w)
  case atStart => exact ⟨rfl, rfl, rfl⟩
  case round =>
    obtain ⟨rfl, rfl, rfl⟩ := hrel
    go_wp2_with (at_make; go_must (refine wpList_make_row _ rfl _ _ _ rfl 182 r0 (.slice none 0 0) Tryz.underlying81 hr0 hrz0 hrz1 rfl .i64 .i64 0 rfl rfl (by omega) (by omega) ?_))
    have hb := (Below.refl wr.heap.size wr).alloc (Nat.le_refl _) (.cells (madeCells #[.slice none 0 0] 0) 182)
    generalize wr.alloc (.cells (madeCells #[.slice none 0 0] 0) 182) = W at *
    go_loopg [6] 0 (fun gk i w2 => gk = 0 ∧ i = .int .i64 0 ∧ w2 = W)
    case atStart => exact ⟨rfl, rfl, rfl⟩
    case round =>
      obtain ⟨rfl, rfl, rfl⟩ := hrel
      go_wp2
      go_loopg [9] 0 (fun gk i w3 => gk = 0 ∧ i = .int .i64 0 ∧ w3 = wr)
      case atStart => exact ⟨rfl, rfl, rfl⟩
      case round =>
        obtain ⟨rfl, rfl, rfl⟩ := hrel
        go_wp2
        go_loopg [11] 0 (fun gk i w3 => gk = 0 ∧ i = .int .i64 0 ∧ w3 = wr)
        case atStart => exact ⟨rfl, rfl, rfl⟩
        case round =>
          obtain ⟨rfl, rfl, rfl⟩ := hrel
          go_wp2
          go_loopg [14] 0 (fun gk i w3 => gk = 0 ∧ i = .int .i64 0 ∧ w3 = wr)
          case atStart => exact ⟨rfl, rfl, rfl⟩
          case round =>
            obtain ⟨rfl, rfl, rfl⟩ := hrel
            go_wp2
            go_ret
            exact ⟨rfl, hb⟩

theorem rowValues : (Tryz.prog.info? 188).map (fun i => (i.zero, i.size, i.bytes)) = some (some (.slice none 0 0), 1, 24) := by kernel_rfl
set_option maxRecDepth 100000 in
theorem nilValues (w : World) : Calls Tryz.prog 64 #[.slice none 0 0] w fun e w' => e = .returned (.bool true) ∧ Below w.heap.size w w' := by
  obtain ⟨r0, hr0, hrz0, hrz1, hrz2⟩ := info_parts rowValues
  go_enter Tryz.func64, Tryz.ntmps64
  go_wp2
  go_loopg [3] 0 (fun gk i wr => gk = 0 ∧ i = .int .i64 0 ∧ wr = w)
  case atStart => exact ⟨rfl, rfl, rfl⟩
  case round =>
    obtain ⟨rfl, rfl, rfl⟩ := hrel
    go_wp2_with (at_make; go_must (refine wpList_make_row _ rfl _ _ _ rfl 188 r0 (.slice none 0 0) Tryz.underlying82 hr0 hrz0 hrz1 rfl .i64 .i64 0 rfl rfl (by omega) (by omega) ?_))
    have hb := (Below.refl wr.heap.size wr).alloc (Nat.le_refl _) (.cells (madeCells #[.slice none 0 0] 0) 188)
    generalize wr.alloc (.cells (madeCells #[.slice none 0 0] 0) 188) = W at *
    go_loopg [6] 0 (fun gk i w2 => gk = 0 ∧ i = .int .i64 0 ∧ w2 = W)
    case atStart => exact ⟨rfl, rfl, rfl⟩
    case round =>
      obtain ⟨rfl, rfl, rfl⟩ := hrel
      go_wp2
      go_loopg [9] 0 (fun gk i w3 => gk = 0 ∧ i = .int .i64 0 ∧ w3 = wr)
      case atStart => exact ⟨rfl, rfl, rfl⟩
      case round =>
        obtain ⟨rfl, rfl, rfl⟩ := hrel
        go_wp2
        go_loopg [11] 0 (fun gk i w3 => gk = 0 ∧ i = .int .i64 0 ∧ w3 = wr)
        case atStart => exact ⟨rfl, rfl, rfl⟩
        case round =>
          obtain ⟨rfl, rfl, rfl⟩ := hrel
          go_wp2
          go_loopg [14] 0 (fun gk i w3 => gk = 0 ∧ i = .int .i64 0 ∧ w3 = wr)
          case atStart => exact ⟨rfl, rfl, rfl⟩
          case round =>
            obtain ⟨rfl, rfl, rfl⟩ := hrel
            go_wp2
            go_ret
            exact ⟨rfl, hb⟩

theorem rowOutcomes : (Tryz.prog.info? 193).map (fun i => (i.zero, i.size, i.bytes)) = some (some (.slice none 0 0), 1, 24) := by kernel_rfl
set_option maxRecDepth 100000 in
theorem nilOutcomes (w : World) : Calls Tryz.prog 65 #[.slice none 0 0] w fun e w' => e = .returned (.bool true) ∧ Below w.heap.size w w' := by
  obtain ⟨r0, hr0, hrz0, hrz1, hrz2⟩ := info_parts rowOutcomes
  go_enter Tryz.func65, Tryz.ntmps65
  go_wp2
  go_loopg [3] 0 (fun gk i wr => gk = 0 ∧ i = .int .i64 0 ∧ wr = w)
  case atStart => exact ⟨rfl, rfl, rfl⟩
  case round =>
    obtain ⟨rfl, rfl, rfl⟩ := hrel
    go_wp2_with (at_make; go_must (refine wpList_make_row _ rfl _ _ _ rfl 193 r0 (.slice none 0 0) Tryz.underlying83 hr0 hrz0 hrz1 rfl .i64 .i64 0 rfl rfl (by omega) (by omega) ?_))
    have hb := (Below.refl wr.heap.size wr).alloc (Nat.le_refl _) (.cells (madeCells #[.slice none 0 0] 0) 193)
    generalize wr.alloc (.cells (madeCells #[.slice none 0 0] 0) 193) = W at *
    go_loopg [6] 0 (fun gk i w2 => gk = 0 ∧ i = .int .i64 0 ∧ w2 = W)
    case atStart => exact ⟨rfl, rfl, rfl⟩
    case round =>
      obtain ⟨rfl, rfl, rfl⟩ := hrel
      go_wp2
      go_loopg [9] 0 (fun gk i w3 => gk = 0 ∧ i = .int .i64 0 ∧ w3 = wr)
      case atStart => exact ⟨rfl, rfl, rfl⟩
      case round =>
        obtain ⟨rfl, rfl, rfl⟩ := hrel
        go_wp2
        go_loopg [11] 0 (fun gk i w3 => gk = 0 ∧ i = .int .i64 0 ∧ w3 = wr)
        case atStart => exact ⟨rfl, rfl, rfl⟩
        case round =>
          obtain ⟨rfl, rfl, rfl⟩ := hrel
          go_wp2
          go_loopg [14] 0 (fun gk i w3 => gk = 0 ∧ i = .int .i64 0 ∧ w3 = wr)
          case atStart => exact ⟨rfl, rfl, rfl⟩
          case round =>
            obtain ⟨rfl, rfl, rfl⟩ := hrel
            go_wp2
            go_ret
            exact ⟨rfl, hb⟩

theorem rowWordRow : (Tryz.prog.info? 198).map (fun i => (i.zero, i.size, i.bytes)) = some (some (.slice none 0 0), 1, 24) := by kernel_rfl
set_option maxRecDepth 100000 in
theorem nilWordRow (w : World) : Calls Tryz.prog 66 #[.slice none 0 0] w fun e w' => e = .returned (.bool true) ∧ Below w.heap.size w w' := by
  obtain ⟨r0, hr0, hrz0, hrz1, hrz2⟩ := info_parts rowWordRow
  go_enter Tryz.func66, Tryz.ntmps66
  go_wp2
  go_loopg [3] 0 (fun gk i wr => gk = 0 ∧ i = .int .i64 0 ∧ wr = w)
  case atStart => exact ⟨rfl, rfl, rfl⟩
  case round =>
    obtain ⟨rfl, rfl, rfl⟩ := hrel
    go_wp2_with (at_make; go_must (refine wpList_make_row _ rfl _ _ _ rfl 198 r0 (.slice none 0 0) Tryz.underlying84 hr0 hrz0 hrz1 rfl .i64 .i64 0 rfl rfl (by omega) (by omega) ?_))
    have hb := (Below.refl wr.heap.size wr).alloc (Nat.le_refl _) (.cells (madeCells #[.slice none 0 0] 0) 198)
    generalize wr.alloc (.cells (madeCells #[.slice none 0 0] 0) 198) = W at *
    go_loopg [6] 0 (fun gk i w2 => gk = 0 ∧ i = .int .i64 0 ∧ w2 = W)
    case atStart => exact ⟨rfl, rfl, rfl⟩
    case round =>
      obtain ⟨rfl, rfl, rfl⟩ := hrel
      go_wp2
      go_loopg [9] 0 (fun gk i w3 => gk = 0 ∧ i = .int .i64 0 ∧ w3 = wr)
      case atStart => exact ⟨rfl, rfl, rfl⟩
      case round =>
        obtain ⟨rfl, rfl, rfl⟩ := hrel
        go_wp2
        go_loopg [11] 0 (fun gk i w3 => gk = 0 ∧ i = .int .i64 0 ∧ w3 = wr)
        case atStart => exact ⟨rfl, rfl, rfl⟩
        case round =>
          obtain ⟨rfl, rfl, rfl⟩ := hrel
          go_wp2
          go_loopg [14] 0 (fun gk i w3 => gk = 0 ∧ i = .int .i64 0 ∧ w3 = wr)
          case atStart => exact ⟨rfl, rfl, rfl⟩
          case round =>
            obtain ⟨rfl, rfl, rfl⟩ := hrel
            go_wp2
            go_ret
            exact ⟨rfl, hb⟩

theorem rowAlts : (Tryz.prog.info? 203).map (fun i => (i.zero, i.size, i.bytes)) = some (some (.slice none 0 0), 1, 24) := by kernel_rfl
set_option maxRecDepth 100000 in
theorem nilAlts (w : World) : Calls Tryz.prog 67 #[.slice none 0 0] w fun e w' => e = .returned (.bool true) ∧ Below w.heap.size w w' := by
  obtain ⟨r0, hr0, hrz0, hrz1, hrz2⟩ := info_parts rowAlts
  go_enter Tryz.func67, Tryz.ntmps67
  go_wp2
  go_loopg [3] 0 (fun gk i wr => gk = 0 ∧ i = .int .i64 0 ∧ wr = w)
  case atStart => exact ⟨rfl, rfl, rfl⟩
  case round =>
    obtain ⟨rfl, rfl, rfl⟩ := hrel
    go_wp2_with (at_make; go_must (refine wpList_make_row _ rfl _ _ _ rfl 203 r0 (.slice none 0 0) Tryz.underlying85 hr0 hrz0 hrz1 rfl .i64 .i64 0 rfl rfl (by omega) (by omega) ?_))
    have hb := (Below.refl wr.heap.size wr).alloc (Nat.le_refl _) (.cells (madeCells #[.slice none 0 0] 0) 203)
    generalize wr.alloc (.cells (madeCells #[.slice none 0 0] 0) 203) = W at *
    go_loopg [6] 0 (fun gk i w2 => gk = 0 ∧ i = .int .i64 0 ∧ w2 = W)
    case atStart => exact ⟨rfl, rfl, rfl⟩
    case round =>
      obtain ⟨rfl, rfl, rfl⟩ := hrel
      go_wp2
      go_loopg [9] 0 (fun gk i w3 => gk = 0 ∧ i = .int .i64 0 ∧ w3 = wr)
      case atStart => exact ⟨rfl, rfl, rfl⟩
      case round =>
        obtain ⟨rfl, rfl, rfl⟩ := hrel
        go_wp2
        go_loopg [11] 0 (fun gk i w3 => gk = 0 ∧ i = .int .i64 0 ∧ w3 = wr)
        case atStart => exact ⟨rfl, rfl, rfl⟩
        case round =>
          obtain ⟨rfl, rfl, rfl⟩ := hrel
          go_wp2
          go_loopg [14] 0 (fun gk i w3 => gk = 0 ∧ i = .int .i64 0 ∧ w3 = wr)
          case atStart => exact ⟨rfl, rfl, rfl⟩
          case round =>
            obtain ⟨rfl, rfl, rfl⟩ := hrel
            go_wp2
            go_ret
            exact ⟨rfl, hb⟩

theorem rowRules : (Tryz.prog.info? 208).map (fun i => (i.zero, i.size, i.bytes)) = some (some (.slice none 0 0), 1, 24) := by kernel_rfl
set_option maxRecDepth 100000 in
theorem nilRules (w : World) : Calls Tryz.prog 68 #[.slice none 0 0] w fun e w' => e = .returned (.bool true) ∧ Below w.heap.size w w' := by
  obtain ⟨r0, hr0, hrz0, hrz1, hrz2⟩ := info_parts rowRules
  go_enter Tryz.func68, Tryz.ntmps68
  go_wp2
  go_loopg [3] 0 (fun gk i wr => gk = 0 ∧ i = .int .i64 0 ∧ wr = w)
  case atStart => exact ⟨rfl, rfl, rfl⟩
  case round =>
    obtain ⟨rfl, rfl, rfl⟩ := hrel
    go_wp2_with (at_make; go_must (refine wpList_make_row _ rfl _ _ _ rfl 208 r0 (.slice none 0 0) Tryz.underlying86 hr0 hrz0 hrz1 rfl .i64 .i64 0 rfl rfl (by omega) (by omega) ?_))
    have hb := (Below.refl wr.heap.size wr).alloc (Nat.le_refl _) (.cells (madeCells #[.slice none 0 0] 0) 208)
    generalize wr.alloc (.cells (madeCells #[.slice none 0 0] 0) 208) = W at *
    go_loopg [6] 0 (fun gk i w2 => gk = 0 ∧ i = .int .i64 0 ∧ w2 = W)
    case atStart => exact ⟨rfl, rfl, rfl⟩
    case round =>
      obtain ⟨rfl, rfl, rfl⟩ := hrel
      go_wp2
      go_loopg [9] 0 (fun gk i w3 => gk = 0 ∧ i = .int .i64 0 ∧ w3 = wr)
      case atStart => exact ⟨rfl, rfl, rfl⟩
      case round =>
        obtain ⟨rfl, rfl, rfl⟩ := hrel
        go_wp2
        go_loopg [11] 0 (fun gk i w3 => gk = 0 ∧ i = .int .i64 0 ∧ w3 = wr)
        case atStart => exact ⟨rfl, rfl, rfl⟩
        case round =>
          obtain ⟨rfl, rfl, rfl⟩ := hrel
          go_wp2
          go_loopg [14] 0 (fun gk i w3 => gk = 0 ∧ i = .int .i64 0 ∧ w3 = wr)
          case atStart => exact ⟨rfl, rfl, rfl⟩
          case round =>
            obtain ⟨rfl, rfl, rfl⟩ := hrel
            go_wp2
            go_ret
            exact ⟨rfl, hb⟩

theorem rowDecls : (Tryz.prog.info? 213).map (fun i => (i.zero, i.size, i.bytes)) = some (some (.slice none 0 0), 1, 24) := by kernel_rfl
set_option maxRecDepth 100000 in
theorem nilDecls (w : World) : Calls Tryz.prog 69 #[.slice none 0 0] w fun e w' => e = .returned (.bool true) ∧ Below w.heap.size w w' := by
  obtain ⟨r0, hr0, hrz0, hrz1, hrz2⟩ := info_parts rowDecls
  go_enter Tryz.func69, Tryz.ntmps69
  go_wp2
  go_loopg [3] 0 (fun gk i wr => gk = 0 ∧ i = .int .i64 0 ∧ wr = w)
  case atStart => exact ⟨rfl, rfl, rfl⟩
  case round =>
    obtain ⟨rfl, rfl, rfl⟩ := hrel
    go_wp2_with (at_make; go_must (refine wpList_make_row _ rfl _ _ _ rfl 213 r0 (.slice none 0 0) Tryz.underlying87 hr0 hrz0 hrz1 rfl .i64 .i64 0 rfl rfl (by omega) (by omega) ?_))
    have hb := (Below.refl wr.heap.size wr).alloc (Nat.le_refl _) (.cells (madeCells #[.slice none 0 0] 0) 213)
    generalize wr.alloc (.cells (madeCells #[.slice none 0 0] 0) 213) = W at *
    go_loopg [6] 0 (fun gk i w2 => gk = 0 ∧ i = .int .i64 0 ∧ w2 = W)
    case atStart => exact ⟨rfl, rfl, rfl⟩
    case round =>
      obtain ⟨rfl, rfl, rfl⟩ := hrel
      go_wp2
      go_loopg [9] 0 (fun gk i w3 => gk = 0 ∧ i = .int .i64 0 ∧ w3 = wr)
      case atStart => exact ⟨rfl, rfl, rfl⟩
      case round =>
        obtain ⟨rfl, rfl, rfl⟩ := hrel
        go_wp2
        go_loopg [11] 0 (fun gk i w3 => gk = 0 ∧ i = .int .i64 0 ∧ w3 = wr)
        case atStart => exact ⟨rfl, rfl, rfl⟩
        case round =>
          obtain ⟨rfl, rfl, rfl⟩ := hrel
          go_wp2
          go_loopg [14] 0 (fun gk i w3 => gk = 0 ∧ i = .int .i64 0 ∧ w3 = wr)
          case atStart => exact ⟨rfl, rfl, rfl⟩
          case round =>
            obtain ⟨rfl, rfl, rfl⟩ := hrel
            go_wp2
            go_ret
            exact ⟨rfl, hb⟩

theorem rowSources : (Tryz.prog.info? 218).map (fun i => (i.zero, i.size, i.bytes)) = some (some (.slice none 0 0), 1, 24) := by kernel_rfl
set_option maxRecDepth 100000 in
theorem nilSources (w : World) : Calls Tryz.prog 70 #[.slice none 0 0] w fun e w' => e = .returned (.bool true) ∧ Below w.heap.size w w' := by
  obtain ⟨r0, hr0, hrz0, hrz1, hrz2⟩ := info_parts rowSources
  go_enter Tryz.func70, Tryz.ntmps70
  go_wp2
  go_loopg [3] 0 (fun gk i wr => gk = 0 ∧ i = .int .i64 0 ∧ wr = w)
  case atStart => exact ⟨rfl, rfl, rfl⟩
  case round =>
    obtain ⟨rfl, rfl, rfl⟩ := hrel
    go_wp2_with (at_make; go_must (refine wpList_make_row _ rfl _ _ _ rfl 218 r0 (.slice none 0 0) Tryz.underlying88 hr0 hrz0 hrz1 rfl .i64 .i64 0 rfl rfl (by omega) (by omega) ?_))
    have hb := (Below.refl wr.heap.size wr).alloc (Nat.le_refl _) (.cells (madeCells #[.slice none 0 0] 0) 218)
    generalize wr.alloc (.cells (madeCells #[.slice none 0 0] 0) 218) = W at *
    go_loopg [6] 0 (fun gk i w2 => gk = 0 ∧ i = .int .i64 0 ∧ w2 = W)
    case atStart => exact ⟨rfl, rfl, rfl⟩
    case round =>
      obtain ⟨rfl, rfl, rfl⟩ := hrel
      go_wp2
      go_loopg [9] 0 (fun gk i w3 => gk = 0 ∧ i = .int .i64 0 ∧ w3 = wr)
      case atStart => exact ⟨rfl, rfl, rfl⟩
      case round =>
        obtain ⟨rfl, rfl, rfl⟩ := hrel
        go_wp2
        go_loopg [11] 0 (fun gk i w3 => gk = 0 ∧ i = .int .i64 0 ∧ w3 = wr)
        case atStart => exact ⟨rfl, rfl, rfl⟩
        case round =>
          obtain ⟨rfl, rfl, rfl⟩ := hrel
          go_wp2
          go_loopg [14] 0 (fun gk i w3 => gk = 0 ∧ i = .int .i64 0 ∧ w3 = wr)
          case atStart => exact ⟨rfl, rfl, rfl⟩
          case round =>
            obtain ⟨rfl, rfl, rfl⟩ := hrel
            go_wp2
            go_ret
            exact ⟨rfl, hb⟩

theorem rowProds : (Tryz.prog.info? 223).map (fun i => (i.zero, i.size, i.bytes)) = some (some (.slice none 0 0), 1, 24) := by kernel_rfl
set_option maxRecDepth 100000 in
theorem nilProds (w : World) : Calls Tryz.prog 71 #[.slice none 0 0] w fun e w' => e = .returned (.bool true) ∧ Below w.heap.size w w' := by
  obtain ⟨r0, hr0, hrz0, hrz1, hrz2⟩ := info_parts rowProds
  go_enter Tryz.func71, Tryz.ntmps71
  go_wp2
  go_loopg [3] 0 (fun gk i wr => gk = 0 ∧ i = .int .i64 0 ∧ wr = w)
  case atStart => exact ⟨rfl, rfl, rfl⟩
  case round =>
    obtain ⟨rfl, rfl, rfl⟩ := hrel
    go_wp2_with (at_make; go_must (refine wpList_make_row _ rfl _ _ _ rfl 223 r0 (.slice none 0 0) Tryz.underlying89 hr0 hrz0 hrz1 rfl .i64 .i64 0 rfl rfl (by omega) (by omega) ?_))
    have hb := (Below.refl wr.heap.size wr).alloc (Nat.le_refl _) (.cells (madeCells #[.slice none 0 0] 0) 223)
    generalize wr.alloc (.cells (madeCells #[.slice none 0 0] 0) 223) = W at *
    go_loopg [6] 0 (fun gk i w2 => gk = 0 ∧ i = .int .i64 0 ∧ w2 = W)
    case atStart => exact ⟨rfl, rfl, rfl⟩
    case round =>
      obtain ⟨rfl, rfl, rfl⟩ := hrel
      go_wp2
      go_loopg [9] 0 (fun gk i w3 => gk = 0 ∧ i = .int .i64 0 ∧ w3 = wr)
      case atStart => exact ⟨rfl, rfl, rfl⟩
      case round =>
        obtain ⟨rfl, rfl, rfl⟩ := hrel
        go_wp2
        go_loopg [11] 0 (fun gk i w3 => gk = 0 ∧ i = .int .i64 0 ∧ w3 = wr)
        case atStart => exact ⟨rfl, rfl, rfl⟩
        case round =>
          obtain ⟨rfl, rfl, rfl⟩ := hrel
          go_wp2
          go_loopg [14] 0 (fun gk i w3 => gk = 0 ∧ i = .int .i64 0 ∧ w3 = wr)
          case atStart => exact ⟨rfl, rfl, rfl⟩
          case round =>
            obtain ⟨rfl, rfl, rfl⟩ := hrel
            go_wp2
            go_ret
            exact ⟨rfl, hb⟩

theorem rowSymbols : (Tryz.prog.info? 228).map (fun i => (i.zero, i.size, i.bytes)) = some (some (.slice none 0 0), 1, 24) := by kernel_rfl
set_option maxRecDepth 100000 in
theorem nilSymbols (w : World) : Calls Tryz.prog 72 #[.slice none 0 0] w fun e w' => e = .returned (.bool true) ∧ Below w.heap.size w w' := by
  obtain ⟨r0, hr0, hrz0, hrz1, hrz2⟩ := info_parts rowSymbols
  go_enter Tryz.func72, Tryz.ntmps72
  go_wp2
  go_loopg [3] 0 (fun gk i wr => gk = 0 ∧ i = .int .i64 0 ∧ wr = w)
  case atStart => exact ⟨rfl, rfl, rfl⟩
  case round =>
    obtain ⟨rfl, rfl, rfl⟩ := hrel
    go_wp2_with (at_make; go_must (refine wpList_make_row _ rfl _ _ _ rfl 228 r0 (.slice none 0 0) Tryz.underlying90 hr0 hrz0 hrz1 rfl .i64 .i64 0 rfl rfl (by omega) (by omega) ?_))
    have hb := (Below.refl wr.heap.size wr).alloc (Nat.le_refl _) (.cells (madeCells #[.slice none 0 0] 0) 228)
    generalize wr.alloc (.cells (madeCells #[.slice none 0 0] 0) 228) = W at *
    go_loopg [6] 0 (fun gk i w2 => gk = 0 ∧ i = .int .i64 0 ∧ w2 = W)
    case atStart => exact ⟨rfl, rfl, rfl⟩
    case round =>
      obtain ⟨rfl, rfl, rfl⟩ := hrel
      go_wp2
      go_loopg [9] 0 (fun gk i w3 => gk = 0 ∧ i = .int .i64 0 ∧ w3 = wr)
      case atStart => exact ⟨rfl, rfl, rfl⟩
      case round =>
        obtain ⟨rfl, rfl, rfl⟩ := hrel
        go_wp2
        go_loopg [11] 0 (fun gk i w3 => gk = 0 ∧ i = .int .i64 0 ∧ w3 = wr)
        case atStart => exact ⟨rfl, rfl, rfl⟩
        case round =>
          obtain ⟨rfl, rfl, rfl⟩ := hrel
          go_wp2
          go_loopg [14] 0 (fun gk i w3 => gk = 0 ∧ i = .int .i64 0 ∧ w3 = wr)
          case atStart => exact ⟨rfl, rfl, rfl⟩
          case round =>
            obtain ⟨rfl, rfl, rfl⟩ := hrel
            go_wp2
            go_ret
            exact ⟨rfl, hb⟩

theorem rowGrammars : (Tryz.prog.info? 233).map (fun i => (i.zero, i.size, i.bytes)) = some (some (.slice none 0 0), 1, 24) := by kernel_rfl
set_option maxRecDepth 100000 in
theorem nilGrammars (w : World) : Calls Tryz.prog 73 #[.slice none 0 0] w fun e w' => e = .returned (.bool true) ∧ Below w.heap.size w w' := by
  obtain ⟨r0, hr0, hrz0, hrz1, hrz2⟩ := info_parts rowGrammars
  go_enter Tryz.func73, Tryz.ntmps73
  go_wp2
  go_loopg [3] 0 (fun gk i wr => gk = 0 ∧ i = .int .i64 0 ∧ wr = w)
  case atStart => exact ⟨rfl, rfl, rfl⟩
  case round =>
    obtain ⟨rfl, rfl, rfl⟩ := hrel
    go_wp2_with (at_make; go_must (refine wpList_make_row _ rfl _ _ _ rfl 233 r0 (.slice none 0 0) Tryz.underlying91 hr0 hrz0 hrz1 rfl .i64 .i64 0 rfl rfl (by omega) (by omega) ?_))
    have hb := (Below.refl wr.heap.size wr).alloc (Nat.le_refl _) (.cells (madeCells #[.slice none 0 0] 0) 233)
    generalize wr.alloc (.cells (madeCells #[.slice none 0 0] 0) 233) = W at *
    go_loopg [6] 0 (fun gk i w2 => gk = 0 ∧ i = .int .i64 0 ∧ w2 = W)
    case atStart => exact ⟨rfl, rfl, rfl⟩
    case round =>
      obtain ⟨rfl, rfl, rfl⟩ := hrel
      go_wp2
      go_loopg [9] 0 (fun gk i w3 => gk = 0 ∧ i = .int .i64 0 ∧ w3 = wr)
      case atStart => exact ⟨rfl, rfl, rfl⟩
      case round =>
        obtain ⟨rfl, rfl, rfl⟩ := hrel
        go_wp2
        go_loopg [11] 0 (fun gk i w3 => gk = 0 ∧ i = .int .i64 0 ∧ w3 = wr)
        case atStart => exact ⟨rfl, rfl, rfl⟩
        case round =>
          obtain ⟨rfl, rfl, rfl⟩ := hrel
          go_wp2
          go_loopg [14] 0 (fun gk i w3 => gk = 0 ∧ i = .int .i64 0 ∧ w3 = wr)
          case atStart => exact ⟨rfl, rfl, rfl⟩
          case round =>
            obtain ⟨rfl, rfl, rfl⟩ := hrel
            go_wp2
            go_ret
            exact ⟨rfl, hb⟩

theorem rowItems : (Tryz.prog.info? 238).map (fun i => (i.zero, i.size, i.bytes)) = some (some (.slice none 0 0), 1, 24) := by kernel_rfl
set_option maxRecDepth 100000 in
theorem nilItems (w : World) : Calls Tryz.prog 74 #[.slice none 0 0] w fun e w' => e = .returned (.bool true) ∧ Below w.heap.size w w' := by
  obtain ⟨r0, hr0, hrz0, hrz1, hrz2⟩ := info_parts rowItems
  go_enter Tryz.func74, Tryz.ntmps74
  go_wp2
  go_loopg [3] 0 (fun gk i wr => gk = 0 ∧ i = .int .i64 0 ∧ wr = w)
  case atStart => exact ⟨rfl, rfl, rfl⟩
  case round =>
    obtain ⟨rfl, rfl, rfl⟩ := hrel
    go_wp2_with (at_make; go_must (refine wpList_make_row _ rfl _ _ _ rfl 238 r0 (.slice none 0 0) Tryz.underlying92 hr0 hrz0 hrz1 rfl .i64 .i64 0 rfl rfl (by omega) (by omega) ?_))
    have hb := (Below.refl wr.heap.size wr).alloc (Nat.le_refl _) (.cells (madeCells #[.slice none 0 0] 0) 238)
    generalize wr.alloc (.cells (madeCells #[.slice none 0 0] 0) 238) = W at *
    go_loopg [6] 0 (fun gk i w2 => gk = 0 ∧ i = .int .i64 0 ∧ w2 = W)
    case atStart => exact ⟨rfl, rfl, rfl⟩
    case round =>
      obtain ⟨rfl, rfl, rfl⟩ := hrel
      go_wp2
      go_loopg [9] 0 (fun gk i w3 => gk = 0 ∧ i = .int .i64 0 ∧ w3 = wr)
      case atStart => exact ⟨rfl, rfl, rfl⟩
      case round =>
        obtain ⟨rfl, rfl, rfl⟩ := hrel
        go_wp2
        go_loopg [11] 0 (fun gk i w3 => gk = 0 ∧ i = .int .i64 0 ∧ w3 = wr)
        case atStart => exact ⟨rfl, rfl, rfl⟩
        case round =>
          obtain ⟨rfl, rfl, rfl⟩ := hrel
          go_wp2
          go_loopg [14] 0 (fun gk i w3 => gk = 0 ∧ i = .int .i64 0 ∧ w3 = wr)
          case atStart => exact ⟨rfl, rfl, rfl⟩
          case round =>
            obtain ⟨rfl, rfl, rfl⟩ := hrel
            go_wp2
            go_ret
            exact ⟨rfl, hb⟩

theorem rowEdges : (Tryz.prog.info? 242).map (fun i => (i.zero, i.size, i.bytes)) = some (some (.slice none 0 0), 1, 24) := by kernel_rfl
set_option maxRecDepth 100000 in
theorem nilEdges (w : World) : Calls Tryz.prog 75 #[.slice none 0 0] w fun e w' => e = .returned (.bool true) ∧ Below w.heap.size w w' := by
  obtain ⟨r0, hr0, hrz0, hrz1, hrz2⟩ := info_parts rowEdges
  go_enter Tryz.func75, Tryz.ntmps75
  go_wp2
  go_loopg [3] 0 (fun gk i wr => gk = 0 ∧ i = .int .i64 0 ∧ wr = w)
  case atStart => exact ⟨rfl, rfl, rfl⟩
  case round =>
    obtain ⟨rfl, rfl, rfl⟩ := hrel
    go_wp2_with (at_make; go_must (refine wpList_make_row _ rfl _ _ _ rfl 242 r0 (.slice none 0 0) Tryz.underlying93 hr0 hrz0 hrz1 rfl .i64 .i64 0 rfl rfl (by omega) (by omega) ?_))
    have hb := (Below.refl wr.heap.size wr).alloc (Nat.le_refl _) (.cells (madeCells #[.slice none 0 0] 0) 242)
    generalize wr.alloc (.cells (madeCells #[.slice none 0 0] 0) 242) = W at *
    go_loopg [6] 0 (fun gk i w2 => gk = 0 ∧ i = .int .i64 0 ∧ w2 = W)
    case atStart => exact ⟨rfl, rfl, rfl⟩
    case round =>
      obtain ⟨rfl, rfl, rfl⟩ := hrel
      go_wp2
      go_loopg [9] 0 (fun gk i w3 => gk = 0 ∧ i = .int .i64 0 ∧ w3 = wr)
      case atStart => exact ⟨rfl, rfl, rfl⟩
      case round =>
        obtain ⟨rfl, rfl, rfl⟩ := hrel
        go_wp2
        go_loopg [11] 0 (fun gk i w3 => gk = 0 ∧ i = .int .i64 0 ∧ w3 = wr)
        case atStart => exact ⟨rfl, rfl, rfl⟩
        case round =>
          obtain ⟨rfl, rfl, rfl⟩ := hrel
          go_wp2
          go_loopg [14] 0 (fun gk i w3 => gk = 0 ∧ i = .int .i64 0 ∧ w3 = wr)
          case atStart => exact ⟨rfl, rfl, rfl⟩
          case round =>
            obtain ⟨rfl, rfl, rfl⟩ := hrel
            go_wp2
            go_ret
            exact ⟨rfl, hb⟩

theorem rowStates : (Tryz.prog.info? 246).map (fun i => (i.zero, i.size, i.bytes)) = some (some (.slice none 0 0), 1, 24) := by kernel_rfl
set_option maxRecDepth 100000 in
theorem nilStates (w : World) : Calls Tryz.prog 76 #[.slice none 0 0] w fun e w' => e = .returned (.bool true) ∧ Below w.heap.size w w' := by
  obtain ⟨r0, hr0, hrz0, hrz1, hrz2⟩ := info_parts rowStates
  go_enter Tryz.func76, Tryz.ntmps76
  go_wp2
  go_loopg [3] 0 (fun gk i wr => gk = 0 ∧ i = .int .i64 0 ∧ wr = w)
  case atStart => exact ⟨rfl, rfl, rfl⟩
  case round =>
    obtain ⟨rfl, rfl, rfl⟩ := hrel
    go_wp2_with (at_make; go_must (refine wpList_make_row _ rfl _ _ _ rfl 246 r0 (.slice none 0 0) Tryz.underlying94 hr0 hrz0 hrz1 rfl .i64 .i64 0 rfl rfl (by omega) (by omega) ?_))
    have hb := (Below.refl wr.heap.size wr).alloc (Nat.le_refl _) (.cells (madeCells #[.slice none 0 0] 0) 246)
    generalize wr.alloc (.cells (madeCells #[.slice none 0 0] 0) 246) = W at *
    go_loopg [6] 0 (fun gk i w2 => gk = 0 ∧ i = .int .i64 0 ∧ w2 = W)
    case atStart => exact ⟨rfl, rfl, rfl⟩
    case round =>
      obtain ⟨rfl, rfl, rfl⟩ := hrel
      go_wp2
      go_loopg [9] 0 (fun gk i w3 => gk = 0 ∧ i = .int .i64 0 ∧ w3 = wr)
      case atStart => exact ⟨rfl, rfl, rfl⟩
      case round =>
        obtain ⟨rfl, rfl, rfl⟩ := hrel
        go_wp2
        go_loopg [11] 0 (fun gk i w3 => gk = 0 ∧ i = .int .i64 0 ∧ w3 = wr)
        case atStart => exact ⟨rfl, rfl, rfl⟩
        case round =>
          obtain ⟨rfl, rfl, rfl⟩ := hrel
          go_wp2
          go_loopg [14] 0 (fun gk i w3 => gk = 0 ∧ i = .int .i64 0 ∧ w3 = wr)
          case atStart => exact ⟨rfl, rfl, rfl⟩
          case round =>
            obtain ⟨rfl, rfl, rfl⟩ := hrel
            go_wp2
            go_ret
            exact ⟨rfl, hb⟩

theorem rowAheads : (Tryz.prog.info? 251).map (fun i => (i.zero, i.size, i.bytes)) = some (some (.slice none 0 0), 1, 24) := by kernel_rfl
set_option maxRecDepth 100000 in
theorem nilAheads (w : World) : Calls Tryz.prog 77 #[.slice none 0 0] w fun e w' => e = .returned (.bool true) ∧ Below w.heap.size w w' := by
  obtain ⟨r0, hr0, hrz0, hrz1, hrz2⟩ := info_parts rowAheads
  go_enter Tryz.func77, Tryz.ntmps77
  go_wp2
  go_loopg [3] 0 (fun gk i wr => gk = 0 ∧ i = .int .i64 0 ∧ wr = w)
  case atStart => exact ⟨rfl, rfl, rfl⟩
  case round =>
    obtain ⟨rfl, rfl, rfl⟩ := hrel
    go_wp2_with (at_make; go_must (refine wpList_make_row _ rfl _ _ _ rfl 251 r0 (.slice none 0 0) Tryz.underlying95 hr0 hrz0 hrz1 rfl .i64 .i64 0 rfl rfl (by omega) (by omega) ?_))
    have hb := (Below.refl wr.heap.size wr).alloc (Nat.le_refl _) (.cells (madeCells #[.slice none 0 0] 0) 251)
    generalize wr.alloc (.cells (madeCells #[.slice none 0 0] 0) 251) = W at *
    go_loopg [6] 0 (fun gk i w2 => gk = 0 ∧ i = .int .i64 0 ∧ w2 = W)
    case atStart => exact ⟨rfl, rfl, rfl⟩
    case round =>
      obtain ⟨rfl, rfl, rfl⟩ := hrel
      go_wp2
      go_loopg [9] 0 (fun gk i w3 => gk = 0 ∧ i = .int .i64 0 ∧ w3 = wr)
      case atStart => exact ⟨rfl, rfl, rfl⟩
      case round =>
        obtain ⟨rfl, rfl, rfl⟩ := hrel
        go_wp2
        go_loopg [11] 0 (fun gk i w3 => gk = 0 ∧ i = .int .i64 0 ∧ w3 = wr)
        case atStart => exact ⟨rfl, rfl, rfl⟩
        case round =>
          obtain ⟨rfl, rfl, rfl⟩ := hrel
          go_wp2
          go_loopg [14] 0 (fun gk i w3 => gk = 0 ∧ i = .int .i64 0 ∧ w3 = wr)
          case atStart => exact ⟨rfl, rfl, rfl⟩
          case round =>
            obtain ⟨rfl, rfl, rfl⟩ := hrel
            go_wp2
            go_ret
            exact ⟨rfl, hb⟩

theorem rowActs : (Tryz.prog.info? 256).map (fun i => (i.zero, i.size, i.bytes)) = some (some (.slice none 0 0), 1, 24) := by kernel_rfl
set_option maxRecDepth 100000 in
theorem nilActs (w : World) : Calls Tryz.prog 78 #[.slice none 0 0] w fun e w' => e = .returned (.bool true) ∧ Below w.heap.size w w' := by
  obtain ⟨r0, hr0, hrz0, hrz1, hrz2⟩ := info_parts rowActs
  go_enter Tryz.func78, Tryz.ntmps78
  go_wp2
  go_loopg [3] 0 (fun gk i wr => gk = 0 ∧ i = .int .i64 0 ∧ wr = w)
  case atStart => exact ⟨rfl, rfl, rfl⟩
  case round =>
    obtain ⟨rfl, rfl, rfl⟩ := hrel
    go_wp2_with (at_make; go_must (refine wpList_make_row _ rfl _ _ _ rfl 256 r0 (.slice none 0 0) Tryz.underlying96 hr0 hrz0 hrz1 rfl .i64 .i64 0 rfl rfl (by omega) (by omega) ?_))
    have hb := (Below.refl wr.heap.size wr).alloc (Nat.le_refl _) (.cells (madeCells #[.slice none 0 0] 0) 256)
    generalize wr.alloc (.cells (madeCells #[.slice none 0 0] 0) 256) = W at *
    go_loopg [6] 0 (fun gk i w2 => gk = 0 ∧ i = .int .i64 0 ∧ w2 = W)
    case atStart => exact ⟨rfl, rfl, rfl⟩
    case round =>
      obtain ⟨rfl, rfl, rfl⟩ := hrel
      go_wp2
      go_loopg [9] 0 (fun gk i w3 => gk = 0 ∧ i = .int .i64 0 ∧ w3 = wr)
      case atStart => exact ⟨rfl, rfl, rfl⟩
      case round =>
        obtain ⟨rfl, rfl, rfl⟩ := hrel
        go_wp2
        go_loopg [11] 0 (fun gk i w3 => gk = 0 ∧ i = .int .i64 0 ∧ w3 = wr)
        case atStart => exact ⟨rfl, rfl, rfl⟩
        case round =>
          obtain ⟨rfl, rfl, rfl⟩ := hrel
          go_wp2
          go_loopg [14] 0 (fun gk i w3 => gk = 0 ∧ i = .int .i64 0 ∧ w3 = wr)
          case atStart => exact ⟨rfl, rfl, rfl⟩
          case round =>
            obtain ⟨rfl, rfl, rfl⟩ := hrel
            go_wp2
            go_ret
            exact ⟨rfl, hb⟩

theorem rowClashes : (Tryz.prog.info? 261).map (fun i => (i.zero, i.size, i.bytes)) = some (some (.slice none 0 0), 1, 24) := by kernel_rfl
set_option maxRecDepth 100000 in
theorem nilClashes (w : World) : Calls Tryz.prog 79 #[.slice none 0 0] w fun e w' => e = .returned (.bool true) ∧ Below w.heap.size w w' := by
  obtain ⟨r0, hr0, hrz0, hrz1, hrz2⟩ := info_parts rowClashes
  go_enter Tryz.func79, Tryz.ntmps79
  go_wp2
  go_loopg [3] 0 (fun gk i wr => gk = 0 ∧ i = .int .i64 0 ∧ wr = w)
  case atStart => exact ⟨rfl, rfl, rfl⟩
  case round =>
    obtain ⟨rfl, rfl, rfl⟩ := hrel
    go_wp2_with (at_make; go_must (refine wpList_make_row _ rfl _ _ _ rfl 261 r0 (.slice none 0 0) Tryz.underlying97 hr0 hrz0 hrz1 rfl .i64 .i64 0 rfl rfl (by omega) (by omega) ?_))
    have hb := (Below.refl wr.heap.size wr).alloc (Nat.le_refl _) (.cells (madeCells #[.slice none 0 0] 0) 261)
    generalize wr.alloc (.cells (madeCells #[.slice none 0 0] 0) 261) = W at *
    go_loopg [6] 0 (fun gk i w2 => gk = 0 ∧ i = .int .i64 0 ∧ w2 = W)
    case atStart => exact ⟨rfl, rfl, rfl⟩
    case round =>
      obtain ⟨rfl, rfl, rfl⟩ := hrel
      go_wp2
      go_loopg [9] 0 (fun gk i w3 => gk = 0 ∧ i = .int .i64 0 ∧ w3 = wr)
      case atStart => exact ⟨rfl, rfl, rfl⟩
      case round =>
        obtain ⟨rfl, rfl, rfl⟩ := hrel
        go_wp2
        go_loopg [11] 0 (fun gk i w3 => gk = 0 ∧ i = .int .i64 0 ∧ w3 = wr)
        case atStart => exact ⟨rfl, rfl, rfl⟩
        case round =>
          obtain ⟨rfl, rfl, rfl⟩ := hrel
          go_wp2
          go_loopg [14] 0 (fun gk i w3 => gk = 0 ∧ i = .int .i64 0 ∧ w3 = wr)
          case atStart => exact ⟨rfl, rfl, rfl⟩
          case round =>
            obtain ⟨rfl, rfl, rfl⟩ := hrel
            go_wp2
            go_ret
            exact ⟨rfl, hb⟩

theorem rowPackedRow : (Tryz.prog.info? 265).map (fun i => (i.zero, i.size, i.bytes)) = some (some (.slice none 0 0), 1, 24) := by kernel_rfl
set_option maxRecDepth 100000 in
theorem nilPackedRow (w : World) : Calls Tryz.prog 80 #[.slice none 0 0] w fun e w' => e = .returned (.bool true) ∧ Below w.heap.size w w' := by
  obtain ⟨r0, hr0, hrz0, hrz1, hrz2⟩ := info_parts rowPackedRow
  go_enter Tryz.func80, Tryz.ntmps80
  go_wp2
  go_loopg [3] 0 (fun gk i wr => gk = 0 ∧ i = .int .i64 0 ∧ wr = w)
  case atStart => exact ⟨rfl, rfl, rfl⟩
  case round =>
    obtain ⟨rfl, rfl, rfl⟩ := hrel
    go_wp2_with (at_make; go_must (refine wpList_make_row _ rfl _ _ _ rfl 265 r0 (.slice none 0 0) Tryz.underlying98 hr0 hrz0 hrz1 rfl .i64 .i64 0 rfl rfl (by omega) (by omega) ?_))
    have hb := (Below.refl wr.heap.size wr).alloc (Nat.le_refl _) (.cells (madeCells #[.slice none 0 0] 0) 265)
    generalize wr.alloc (.cells (madeCells #[.slice none 0 0] 0) 265) = W at *
    go_loopg [6] 0 (fun gk i w2 => gk = 0 ∧ i = .int .i64 0 ∧ w2 = W)
    case atStart => exact ⟨rfl, rfl, rfl⟩
    case round =>
      obtain ⟨rfl, rfl, rfl⟩ := hrel
      go_wp2
      go_loopg [9] 0 (fun gk i w3 => gk = 0 ∧ i = .int .i64 0 ∧ w3 = wr)
      case atStart => exact ⟨rfl, rfl, rfl⟩
      case round =>
        obtain ⟨rfl, rfl, rfl⟩ := hrel
        go_wp2
        go_loopg [11] 0 (fun gk i w3 => gk = 0 ∧ i = .int .i64 0 ∧ w3 = wr)
        case atStart => exact ⟨rfl, rfl, rfl⟩
        case round =>
          obtain ⟨rfl, rfl, rfl⟩ := hrel
          go_wp2
          go_loopg [14] 0 (fun gk i w3 => gk = 0 ∧ i = .int .i64 0 ∧ w3 = wr)
          case atStart => exact ⟨rfl, rfl, rfl⟩
          case round =>
            obtain ⟨rfl, rfl, rfl⟩ := hrel
            go_wp2
            go_ret
            exact ⟨rfl, hb⟩

theorem rowTrees : (Tryz.prog.info? 270).map (fun i => (i.zero, i.size, i.bytes)) = some (some (.slice none 0 0), 1, 24) := by kernel_rfl
set_option maxRecDepth 100000 in
theorem nilTrees (w : World) : Calls Tryz.prog 81 #[.slice none 0 0] w fun e w' => e = .returned (.bool true) ∧ Below w.heap.size w w' := by
  obtain ⟨r0, hr0, hrz0, hrz1, hrz2⟩ := info_parts rowTrees
  go_enter Tryz.func81, Tryz.ntmps81
  go_wp2
  go_loopg [3] 0 (fun gk i wr => gk = 0 ∧ i = .int .i64 0 ∧ wr = w)
  case atStart => exact ⟨rfl, rfl, rfl⟩
  case round =>
    obtain ⟨rfl, rfl, rfl⟩ := hrel
    go_wp2_with (at_make; go_must (refine wpList_make_row _ rfl _ _ _ rfl 270 r0 (.slice none 0 0) Tryz.underlying99 hr0 hrz0 hrz1 rfl .i64 .i64 0 rfl rfl (by omega) (by omega) ?_))
    have hb := (Below.refl wr.heap.size wr).alloc (Nat.le_refl _) (.cells (madeCells #[.slice none 0 0] 0) 270)
    generalize wr.alloc (.cells (madeCells #[.slice none 0 0] 0) 270) = W at *
    go_loopg [6] 0 (fun gk i w2 => gk = 0 ∧ i = .int .i64 0 ∧ w2 = W)
    case atStart => exact ⟨rfl, rfl, rfl⟩
    case round =>
      obtain ⟨rfl, rfl, rfl⟩ := hrel
      go_wp2
      go_loopg [9] 0 (fun gk i w3 => gk = 0 ∧ i = .int .i64 0 ∧ w3 = wr)
      case atStart => exact ⟨rfl, rfl, rfl⟩
      case round =>
        obtain ⟨rfl, rfl, rfl⟩ := hrel
        go_wp2
        go_loopg [11] 0 (fun gk i w3 => gk = 0 ∧ i = .int .i64 0 ∧ w3 = wr)
        case atStart => exact ⟨rfl, rfl, rfl⟩
        case round =>
          obtain ⟨rfl, rfl, rfl⟩ := hrel
          go_wp2
          go_loopg [14] 0 (fun gk i w3 => gk = 0 ∧ i = .int .i64 0 ∧ w3 = wr)
          case atStart => exact ⟨rfl, rfl, rfl⟩
          case round =>
            obtain ⟨rfl, rfl, rfl⟩ := hrel
            go_wp2
            go_ret
            exact ⟨rfl, hb⟩

theorem rowToks : (Tryz.prog.info? 275).map (fun i => (i.zero, i.size, i.bytes)) = some (some (.slice none 0 0), 1, 24) := by kernel_rfl
set_option maxRecDepth 100000 in
theorem nilToks (w : World) : Calls Tryz.prog 82 #[.slice none 0 0] w fun e w' => e = .returned (.bool true) ∧ Below w.heap.size w w' := by
  obtain ⟨r0, hr0, hrz0, hrz1, hrz2⟩ := info_parts rowToks
  go_enter Tryz.func82, Tryz.ntmps82
  go_wp2
  go_loopg [3] 0 (fun gk i wr => gk = 0 ∧ i = .int .i64 0 ∧ wr = w)
  case atStart => exact ⟨rfl, rfl, rfl⟩
  case round =>
    obtain ⟨rfl, rfl, rfl⟩ := hrel
    go_wp2_with (at_make; go_must (refine wpList_make_row _ rfl _ _ _ rfl 275 r0 (.slice none 0 0) Tryz.underlying100 hr0 hrz0 hrz1 rfl .i64 .i64 0 rfl rfl (by omega) (by omega) ?_))
    have hb := (Below.refl wr.heap.size wr).alloc (Nat.le_refl _) (.cells (madeCells #[.slice none 0 0] 0) 275)
    generalize wr.alloc (.cells (madeCells #[.slice none 0 0] 0) 275) = W at *
    go_loopg [6] 0 (fun gk i w2 => gk = 0 ∧ i = .int .i64 0 ∧ w2 = W)
    case atStart => exact ⟨rfl, rfl, rfl⟩
    case round =>
      obtain ⟨rfl, rfl, rfl⟩ := hrel
      go_wp2
      go_loopg [9] 0 (fun gk i w3 => gk = 0 ∧ i = .int .i64 0 ∧ w3 = wr)
      case atStart => exact ⟨rfl, rfl, rfl⟩
      case round =>
        obtain ⟨rfl, rfl, rfl⟩ := hrel
        go_wp2
        go_loopg [11] 0 (fun gk i w3 => gk = 0 ∧ i = .int .i64 0 ∧ w3 = wr)
        case atStart => exact ⟨rfl, rfl, rfl⟩
        case round =>
          obtain ⟨rfl, rfl, rfl⟩ := hrel
          go_wp2
          go_loopg [14] 0 (fun gk i w3 => gk = 0 ∧ i = .int .i64 0 ∧ w3 = wr)
          case atStart => exact ⟨rfl, rfl, rfl⟩
          case round =>
            obtain ⟨rfl, rfl, rfl⟩ := hrel
            go_wp2
            go_ret
            exact ⟨rfl, hb⟩

theorem rowParsedRow : (Tryz.prog.info? 280).map (fun i => (i.zero, i.size, i.bytes)) = some (some (.slice none 0 0), 1, 24) := by kernel_rfl
set_option maxRecDepth 100000 in
theorem nilParsedRow (w : World) : Calls Tryz.prog 83 #[.slice none 0 0] w fun e w' => e = .returned (.bool true) ∧ Below w.heap.size w w' := by
  obtain ⟨r0, hr0, hrz0, hrz1, hrz2⟩ := info_parts rowParsedRow
  go_enter Tryz.func83, Tryz.ntmps83
  go_wp2
  go_loopg [3] 0 (fun gk i wr => gk = 0 ∧ i = .int .i64 0 ∧ wr = w)
  case atStart => exact ⟨rfl, rfl, rfl⟩
  case round =>
    obtain ⟨rfl, rfl, rfl⟩ := hrel
    go_wp2_with (at_make; go_must (refine wpList_make_row _ rfl _ _ _ rfl 280 r0 (.slice none 0 0) Tryz.underlying101 hr0 hrz0 hrz1 rfl .i64 .i64 0 rfl rfl (by omega) (by omega) ?_))
    have hb := (Below.refl wr.heap.size wr).alloc (Nat.le_refl _) (.cells (madeCells #[.slice none 0 0] 0) 280)
    generalize wr.alloc (.cells (madeCells #[.slice none 0 0] 0) 280) = W at *
    go_loopg [6] 0 (fun gk i w2 => gk = 0 ∧ i = .int .i64 0 ∧ w2 = W)
    case atStart => exact ⟨rfl, rfl, rfl⟩
    case round =>
      obtain ⟨rfl, rfl, rfl⟩ := hrel
      go_wp2
      go_loopg [9] 0 (fun gk i w3 => gk = 0 ∧ i = .int .i64 0 ∧ w3 = wr)
      case atStart => exact ⟨rfl, rfl, rfl⟩
      case round =>
        obtain ⟨rfl, rfl, rfl⟩ := hrel
        go_wp2
        go_loopg [11] 0 (fun gk i w3 => gk = 0 ∧ i = .int .i64 0 ∧ w3 = wr)
        case atStart => exact ⟨rfl, rfl, rfl⟩
        case round =>
          obtain ⟨rfl, rfl, rfl⟩ := hrel
          go_wp2
          go_loopg [14] 0 (fun gk i w3 => gk = 0 ∧ i = .int .i64 0 ∧ w3 = wr)
          case atStart => exact ⟨rfl, rfl, rfl⟩
          case round =>
            obtain ⟨rfl, rfl, rfl⟩ := hrel
            go_wp2
            go_ret
            exact ⟨rfl, hb⟩

theorem rowNotices : (Tryz.prog.info? 285).map (fun i => (i.zero, i.size, i.bytes)) = some (some (.slice none 0 0), 1, 24) := by kernel_rfl
set_option maxRecDepth 100000 in
theorem nilNotices (w : World) : Calls Tryz.prog 84 #[.slice none 0 0] w fun e w' => e = .returned (.bool true) ∧ Below w.heap.size w w' := by
  obtain ⟨r0, hr0, hrz0, hrz1, hrz2⟩ := info_parts rowNotices
  go_enter Tryz.func84, Tryz.ntmps84
  go_wp2
  go_loopg [3] 0 (fun gk i wr => gk = 0 ∧ i = .int .i64 0 ∧ wr = w)
  case atStart => exact ⟨rfl, rfl, rfl⟩
  case round =>
    obtain ⟨rfl, rfl, rfl⟩ := hrel
    go_wp2_with (at_make; go_must (refine wpList_make_row _ rfl _ _ _ rfl 285 r0 (.slice none 0 0) Tryz.underlying102 hr0 hrz0 hrz1 rfl .i64 .i64 0 rfl rfl (by omega) (by omega) ?_))
    have hb := (Below.refl wr.heap.size wr).alloc (Nat.le_refl _) (.cells (madeCells #[.slice none 0 0] 0) 285)
    generalize wr.alloc (.cells (madeCells #[.slice none 0 0] 0) 285) = W at *
    go_loopg [6] 0 (fun gk i w2 => gk = 0 ∧ i = .int .i64 0 ∧ w2 = W)
    case atStart => exact ⟨rfl, rfl, rfl⟩
    case round =>
      obtain ⟨rfl, rfl, rfl⟩ := hrel
      go_wp2
      go_loopg [9] 0 (fun gk i w3 => gk = 0 ∧ i = .int .i64 0 ∧ w3 = wr)
      case atStart => exact ⟨rfl, rfl, rfl⟩
      case round =>
        obtain ⟨rfl, rfl, rfl⟩ := hrel
        go_wp2
        go_loopg [11] 0 (fun gk i w3 => gk = 0 ∧ i = .int .i64 0 ∧ w3 = wr)
        case atStart => exact ⟨rfl, rfl, rfl⟩
        case round =>
          obtain ⟨rfl, rfl, rfl⟩ := hrel
          go_wp2
          go_loopg [14] 0 (fun gk i w3 => gk = 0 ∧ i = .int .i64 0 ∧ w3 = wr)
          case atStart => exact ⟨rfl, rfl, rfl⟩
          case round =>
            obtain ⟨rfl, rfl, rfl⟩ := hrel
            go_wp2
            go_ret
            exact ⟨rfl, hb⟩

end Go.Proofs.YtfecjoheabkloaaGreatDoor.FlatNil
