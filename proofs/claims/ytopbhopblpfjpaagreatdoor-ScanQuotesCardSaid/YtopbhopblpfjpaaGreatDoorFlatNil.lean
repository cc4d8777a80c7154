/- Of no lists at all each of gristmillkit's flat.. says yes. (Printed by nil_flats.py.) -/
import Derived.Test.YtopbhopblpfjpaaGreatDoorFlat
namespace Go.Proofs.YtopbhopblpfjpaaGreatDoor.FlatNil
open Go.RowKit Go.Proofs.YtopbhopblpfjpaaGreatDoor.Heap

theorem rowLimbs : (Tryz.prog.info? 139).map (fun i => (i.zero, i.size, i.bytes)) = some (some (.slice none 0 0), 1, 24) := by kernel_rfl
set_option maxRecDepth 100000 in
theorem nilLimbs (w : World) : Calls Tryz.prog 46 #[.slice none 0 0] w fun e w' => e = .returned (.bool true) ∧ Below w.heap.size w w' := by
  obtain ⟨r0, hr0, hrz0, hrz1, hrz2⟩ := info_parts rowLimbs
  go_enter Tryz.func46, Tryz.ntmps46
  go_wp2
  go_loopg [3] 0 (fun gk i wr => gk = 0 ∧ i = .int .i64 0 ∧ wr = w)
  case atStart => exact ⟨rfl, rfl, rfl⟩
  case round =>
    obtain ⟨rfl, rfl, rfl⟩ := hrel
    go_wp2_with (at_make; go_must (refine wpList_make_row _ rfl _ _ _ rfl 139 r0 (.slice none 0 0) Tryz.underlying55 hr0 hrz0 hrz1 rfl .i64 .i64 0 rfl rfl (by omega) (by omega) ?_))
    have hb := (Below.refl wr.heap.size wr).alloc (Nat.le_refl _) (.cells (madeCells #[.slice none 0 0] 0) 139)
    generalize wr.alloc (.cells (madeCells #[.slice none 0 0] 0) 139) = W at *
    go_loopg [6] 0 (fun gk i w2 => gk = 0 ∧ i = .int .i64 0 ∧ w2 = W)
    case atStart => exact ⟨rfl, rfl, rfl⟩
    case round =>
      obtain ⟨rfl, rfl, rfl⟩ := hrel
      go_wp2
      go_loopg [9] 0 (fun gk i w3 => gk = 0 ∧ i = .int .i64 0 ∧ w3 = wr)
      case atStart => exact ⟨rfl, rfl, rfl⟩
      case round =>
        obtain ⟨rfl, rfl, rfl⟩ := hrel
        go_wp2
        go_loopg [11] 0 (fun gk i w3 => gk = 0 ∧ i = .int .i64 0 ∧ w3 = wr)
        case atStart => exact ⟨rfl, rfl, rfl⟩
        case round =>
          obtain ⟨rfl, rfl, rfl⟩ := hrel
          go_wp2
          go_loopg [14] 0 (fun gk i w3 => gk = 0 ∧ i = .int .i64 0 ∧ w3 = wr)
          case atStart => exact ⟨rfl, rfl, rfl⟩
          case round =>
            obtain ⟨rfl, rfl, rfl⟩ := hrel
            go_wp2
            go_ret
            exact ⟨rfl, hb⟩

theorem rowWords : (Tryz.prog.info? 142).map (fun i => (i.zero, i.size, i.bytes)) = some (some (.slice none 0 0), 1, 24) := by kernel_rfl
set_option maxRecDepth 100000 in
theorem nilWords (w : World) : Calls Tryz.prog 47 #[.slice none 0 0] w fun e w' => e = .returned (.bool true) ∧ Below w.heap.size w w' := by
  obtain ⟨r0, hr0, hrz0, hrz1, hrz2⟩ := info_parts rowWords
  go_enter Tryz.func47, Tryz.ntmps47
  go_wp2
  go_loopg [3] 0 (fun gk i wr => gk = 0 ∧ i = .int .i64 0 ∧ wr = w)
  case atStart => exact ⟨rfl, rfl, rfl⟩
  case round =>
    obtain ⟨rfl, rfl, rfl⟩ := hrel
    go_wp2_with (at_make; go_must (refine wpList_make_row _ rfl _ _ _ rfl 142 r0 (.slice none 0 0) Tryz.underlying56 hr0 hrz0 hrz1 rfl .i64 .i64 0 rfl rfl (by omega) (by omega) ?_))
    have hb := (Below.refl wr.heap.size wr).alloc (Nat.le_refl _) (.cells (madeCells #[.slice none 0 0] 0) 142)
    generalize wr.alloc (.cells (madeCells #[.slice none 0 0] 0) 142) = W at *
    go_loopg [6] 0 (fun gk i w2 => gk = 0 ∧ i = .int .i64 0 ∧ w2 = W)
    case atStart => exact ⟨rfl, rfl, rfl⟩
    case round =>
      obtain ⟨rfl, rfl, rfl⟩ := hrel
      go_wp2
      go_loopg [9] 0 (fun gk i w3 => gk = 0 ∧ i = .int .i64 0 ∧ w3 = wr)
      case atStart => exact ⟨rfl, rfl, rfl⟩
      case round =>
        obtain ⟨rfl, rfl, rfl⟩ := hrel
        go_wp2
        go_loopg [11] 0 (fun gk i w3 => gk = 0 ∧ i = .int .i64 0 ∧ w3 = wr)
        case atStart => exact ⟨rfl, rfl, rfl⟩
        case round =>
          obtain ⟨rfl, rfl, rfl⟩ := hrel
          go_wp2
          go_loopg [14] 0 (fun gk i w3 => gk = 0 ∧ i = .int .i64 0 ∧ w3 = wr)
          case atStart => exact ⟨rfl, rfl, rfl⟩
          case round =>
            obtain ⟨rfl, rfl, rfl⟩ := hrel
            go_wp2
            go_ret
            exact ⟨rfl, hb⟩

theorem rowInts : (Tryz.prog.info? 144).map (fun i => (i.zero, i.size, i.bytes)) = some (some (.slice none 0 0), 1, 24) := by kernel_rfl
set_option maxRecDepth 100000 in
theorem nilInts (w : World) : Calls Tryz.prog 48 #[.slice none 0 0] w fun e w' => e = .returned (.bool true) ∧ Below w.heap.size w w' := by
  obtain ⟨r0, hr0, hrz0, hrz1, hrz2⟩ := info_parts rowInts
  go_enter Tryz.func48, Tryz.ntmps48
  go_wp2
  go_loopg [3] 0 (fun gk i wr => gk = 0 ∧ i = .int .i64 0 ∧ wr = w)
  case atStart => exact ⟨rfl, rfl, rfl⟩
  case round =>
    obtain ⟨rfl, rfl, rfl⟩ := hrel
    go_wp2_with (at_make; go_must (refine wpList_make_row _ rfl _ _ _ rfl 144 r0 (.slice none 0 0) Tryz.underlying57 hr0 hrz0 hrz1 rfl .i64 .i64 0 rfl rfl (by omega) (by omega) ?_))
    have hb := (Below.refl wr.heap.size wr).alloc (Nat.le_refl _) (.cells (madeCells #[.slice none 0 0] 0) 144)
    generalize wr.alloc (.cells (madeCells #[.slice none 0 0] 0) 144) = W at *
    go_loopg [6] 0 (fun gk i w2 => gk = 0 ∧ i = .int .i64 0 ∧ w2 = W)
    case atStart => exact ⟨rfl, rfl, rfl⟩
    case round =>
      obtain ⟨rfl, rfl, rfl⟩ := hrel
      go_wp2
      go_loopg [9] 0 (fun gk i w3 => gk = 0 ∧ i = .int .i64 0 ∧ w3 = wr)
      case atStart => exact ⟨rfl, rfl, rfl⟩
      case round =>
        obtain ⟨rfl, rfl, rfl⟩ := hrel
        go_wp2
        go_loopg [11] 0 (fun gk i w3 => gk = 0 ∧ i = .int .i64 0 ∧ w3 = wr)
        case atStart => exact ⟨rfl, rfl, rfl⟩
        case round =>
          obtain ⟨rfl, rfl, rfl⟩ := hrel
          go_wp2
          go_loopg [14] 0 (fun gk i w3 => gk = 0 ∧ i = .int .i64 0 ∧ w3 = wr)
          case atStart => exact ⟨rfl, rfl, rfl⟩
          case round =>
            obtain ⟨rfl, rfl, rfl⟩ := hrel
            go_wp2
            go_ret
            exact ⟨rfl, hb⟩

theorem rowLongs : (Tryz.prog.info? 145).map (fun i => (i.zero, i.size, i.bytes)) = some (some (.slice none 0 0), 1, 24) := by kernel_rfl
set_option maxRecDepth 100000 in
theorem nilLongs (w : World) : Calls Tryz.prog 49 #[.slice none 0 0] w fun e w' => e = .returned (.bool true) ∧ Below w.heap.size w w' := by
  obtain ⟨r0, hr0, hrz0, hrz1, hrz2⟩ := info_parts rowLongs
  go_enter Tryz.func49, Tryz.ntmps49
  go_wp2
  go_loopg [3] 0 (fun gk i wr => gk = 0 ∧ i = .int .i64 0 ∧ wr = w)
  case atStart => exact ⟨rfl, rfl, rfl⟩
  case round =>
    obtain ⟨rfl, rfl, rfl⟩ := hrel
    go_wp2_with (at_make; go_must (refine wpList_make_row _ rfl _ _ _ rfl 145 r0 (.slice none 0 0) Tryz.underlying58 hr0 hrz0 hrz1 rfl .i64 .i64 0 rfl rfl (by omega) (by omega) ?_))
    have hb := (Below.refl wr.heap.size wr).alloc (Nat.le_refl _) (.cells (madeCells #[.slice none 0 0] 0) 145)
    generalize wr.alloc (.cells (madeCells #[.slice none 0 0] 0) 145) = W at *
    go_loopg [6] 0 (fun gk i w2 => gk = 0 ∧ i = .int .i64 0 ∧ w2 = W)
    case atStart => exact ⟨rfl, rfl, rfl⟩
    case round =>
      obtain ⟨rfl, rfl, rfl⟩ := hrel
      go_wp2
      go_loopg [9] 0 (fun gk i w3 => gk = 0 ∧ i = .int .i64 0 ∧ w3 = wr)
      case atStart => exact ⟨rfl, rfl, rfl⟩
      case round =>
        obtain ⟨rfl, rfl, rfl⟩ := hrel
        go_wp2
        go_loopg [11] 0 (fun gk i w3 => gk = 0 ∧ i = .int .i64 0 ∧ w3 = wr)
        case atStart => exact ⟨rfl, rfl, rfl⟩
        case round =>
          obtain ⟨rfl, rfl, rfl⟩ := hrel
          go_wp2
          go_loopg [14] 0 (fun gk i w3 => gk = 0 ∧ i = .int .i64 0 ∧ w3 = wr)
          case atStart => exact ⟨rfl, rfl, rfl⟩
          case round =>
            obtain ⟨rfl, rfl, rfl⟩ := hrel
            go_wp2
            go_ret
            exact ⟨rfl, hb⟩

theorem rowTexts : (Tryz.prog.info? 35).map (fun i => (i.zero, i.size, i.bytes)) = some (some (.slice none 0 0), 1, 24) := by kernel_rfl
set_option maxRecDepth 100000 in
theorem nilTexts (w : World) : Calls Tryz.prog 50 #[.slice none 0 0] w fun e w' => e = .returned (.bool true) ∧ Below w.heap.size w w' := by
  obtain ⟨r0, hr0, hrz0, hrz1, hrz2⟩ := info_parts rowTexts
  go_enter Tryz.func50, Tryz.ntmps50
  go_wp2
  go_loopg [3] 0 (fun gk i wr => gk = 0 ∧ i = .int .i64 0 ∧ wr = w)
  case atStart => exact ⟨rfl, rfl, rfl⟩
  case round =>
    obtain ⟨rfl, rfl, rfl⟩ := hrel
    go_wp2_with (at_make; go_must (refine wpList_make_row _ rfl _ _ _ rfl 35 r0 (.slice none 0 0) Tryz.underlying38 hr0 hrz0 hrz1 rfl .i64 .i64 0 rfl rfl (by omega) (by omega) ?_))
    have hb := (Below.refl wr.heap.size wr).alloc (Nat.le_refl _) (.cells (madeCells #[.slice none 0 0] 0) 35)
    generalize wr.alloc (.cells (madeCells #[.slice none 0 0] 0) 35) = W at *
    go_loopg [6] 0 (fun gk i w2 => gk = 0 ∧ i = .int .i64 0 ∧ w2 = W)
    case atStart => exact ⟨rfl, rfl, rfl⟩
    case round =>
      obtain ⟨rfl, rfl, rfl⟩ := hrel
      go_wp2
      go_loopg [9] 0 (fun gk i w3 => gk = 0 ∧ i = .int .i64 0 ∧ w3 = wr)
      case atStart => exact ⟨rfl, rfl, rfl⟩
      case round =>
        obtain ⟨rfl, rfl, rfl⟩ := hrel
        go_wp2
        go_loopg [11] 0 (fun gk i w3 => gk = 0 ∧ i = .int .i64 0 ∧ w3 = wr)
        case atStart => exact ⟨rfl, rfl, rfl⟩
        case round =>
          obtain ⟨rfl, rfl, rfl⟩ := hrel
          go_wp2
          go_loopg [14] 0 (fun gk i w3 => gk = 0 ∧ i = .int .i64 0 ∧ w3 = wr)
          case atStart => exact ⟨rfl, rfl, rfl⟩
          case round =>
            obtain ⟨rfl, rfl, rfl⟩ := hrel
            go_wp2
            go_ret
            exact ⟨rfl, hb⟩

theorem rowBytes : (Tryz.prog.info? 89).map (fun i => (i.zero, i.size, i.bytes)) = some (some (.slice none 0 0), 1, 24) := by kernel_rfl
set_option maxRecDepth 100000 in
theorem nilBytes (w : World) : Calls Tryz.prog 51 #[.slice none 0 0] w fun e w' => e = .returned (.bool true) ∧ Below w.heap.size w w' := by
  obtain ⟨r0, hr0, hrz0, hrz1, hrz2⟩ := info_parts rowBytes
  go_enter Tryz.func51, Tryz.ntmps51
  go_wp2
  go_loopg [3] 0 (fun gk i wr => gk = 0 ∧ i = .int .i64 0 ∧ wr = w)
  case atStart => exact ⟨rfl, rfl, rfl⟩
  case round =>
    obtain ⟨rfl, rfl, rfl⟩ := hrel
    go_wp2_with (at_make; go_must (refine wpList_make_row _ rfl _ _ _ rfl 89 r0 (.slice none 0 0) Tryz.underlying59 hr0 hrz0 hrz1 rfl .i64 .i64 0 rfl rfl (by omega) (by omega) ?_))
    have hb := (Below.refl wr.heap.size wr).alloc (Nat.le_refl _) (.cells (madeCells #[.slice none 0 0] 0) 89)
    generalize wr.alloc (.cells (madeCells #[.slice none 0 0] 0) 89) = W at *
    go_loopg [6] 0 (fun gk i w2 => gk = 0 ∧ i = .int .i64 0 ∧ w2 = W)
    case atStart => exact ⟨rfl, rfl, rfl⟩
    case round =>
      obtain ⟨rfl, rfl, rfl⟩ := hrel
      go_wp2
      go_loopg [9] 0 (fun gk i w3 => gk = 0 ∧ i = .int .i64 0 ∧ w3 = wr)
      case atStart => exact ⟨rfl, rfl, rfl⟩
      case round =>
        obtain ⟨rfl, rfl, rfl⟩ := hrel
        go_wp2
        go_loopg [11] 0 (fun gk i w3 => gk = 0 ∧ i = .int .i64 0 ∧ w3 = wr)
        case atStart => exact ⟨rfl, rfl, rfl⟩
        case round =>
          obtain ⟨rfl, rfl, rfl⟩ := hrel
          go_wp2
          go_loopg [14] 0 (fun gk i w3 => gk = 0 ∧ i = .int .i64 0 ∧ w3 = wr)
          case atStart => exact ⟨rfl, rfl, rfl⟩
          case round =>
            obtain ⟨rfl, rfl, rfl⟩ := hrel
            go_wp2
            go_ret
            exact ⟨rfl, hb⟩

theorem rowTokens : (Tryz.prog.info? 23).map (fun i => (i.zero, i.size, i.bytes)) = some (some (.slice none 0 0), 1, 24) := by kernel_rfl
set_option maxRecDepth 100000 in
theorem nilTokens (w : World) : Calls Tryz.prog 52 #[.slice none 0 0] w fun e w' => e = .returned (.bool true) ∧ Below w.heap.size w w' := by
  obtain ⟨r0, hr0, hrz0, hrz1, hrz2⟩ := info_parts rowTokens
  go_enter Tryz.func52, Tryz.ntmps52
  go_wp2
  go_loopg [3] 0 (fun gk i wr => gk = 0 ∧ i = .int .i64 0 ∧ wr = w)
  case atStart => exact ⟨rfl, rfl, rfl⟩
  case round =>
    obtain ⟨rfl, rfl, rfl⟩ := hrel
    go_wp2_with (at_make; go_must (refine wpList_make_row _ rfl _ _ _ rfl 23 r0 (.slice none 0 0) Tryz.underlying31 hr0 hrz0 hrz1 rfl .i64 .i64 0 rfl rfl (by omega) (by omega) ?_))
    have hb := (Below.refl wr.heap.size wr).alloc (Nat.le_refl _) (.cells (madeCells #[.slice none 0 0] 0) 23)
    generalize wr.alloc (.cells (madeCells #[.slice none 0 0] 0) 23) = W at *
    go_loopg [6] 0 (fun gk i w2 => gk = 0 ∧ i = .int .i64 0 ∧ w2 = W)
    case atStart => exact ⟨rfl, rfl, rfl⟩
    case round =>
      obtain ⟨rfl, rfl, rfl⟩ := hrel
      go_wp2
      go_loopg [9] 0 (fun gk i w3 => gk = 0 ∧ i = .int .i64 0 ∧ w3 = wr)
      case atStart => exact ⟨rfl, rfl, rfl⟩
      case round =>
        obtain ⟨rfl, rfl, rfl⟩ := hrel
        go_wp2
        go_loopg [11] 0 (fun gk i w3 => gk = 0 ∧ i = .int .i64 0 ∧ w3 = wr)
        case atStart => exact ⟨rfl, rfl, rfl⟩
        case round =>
          obtain ⟨rfl, rfl, rfl⟩ := hrel
          go_wp2
          go_loopg [14] 0 (fun gk i w3 => gk = 0 ∧ i = .int .i64 0 ∧ w3 = wr)
          case atStart => exact ⟨rfl, rfl, rfl⟩
          case round =>
            obtain ⟨rfl, rfl, rfl⟩ := hrel
            go_wp2
            go_ret
            exact ⟨rfl, hb⟩

theorem rowFaults : (Tryz.prog.info? 149).map (fun i => (i.zero, i.size, i.bytes)) = some (some (.slice none 0 0), 1, 24) := by kernel_rfl
set_option maxRecDepth 100000 in
theorem nilFaults (w : World) : Calls Tryz.prog 53 #[.slice none 0 0] w fun e w' => e = .returned (.bool true) ∧ Below w.heap.size w w' := by
  obtain ⟨r0, hr0, hrz0, hrz1, hrz2⟩ := info_parts rowFaults
  go_enter Tryz.func53, Tryz.ntmps53
  go_wp2
  go_loopg [3] 0 (fun gk i wr => gk = 0 ∧ i = .int .i64 0 ∧ wr = w)
  case atStart => exact ⟨rfl, rfl, rfl⟩
  case round =>
    obtain ⟨rfl, rfl, rfl⟩ := hrel
    go_wp2_with (at_make; go_must (refine wpList_make_row _ rfl _ _ _ rfl 149 r0 (.slice none 0 0) Tryz.underlying60 hr0 hrz0 hrz1 rfl .i64 .i64 0 rfl rfl (by omega) (by omega) ?_))
    have hb := (Below.refl wr.heap.size wr).alloc (Nat.le_refl _) (.cells (madeCells #[.slice none 0 0] 0) 149)
    generalize wr.alloc (.cells (madeCells #[.slice none 0 0] 0) 149) = W at *
    go_loopg [6] 0 (fun gk i w2 => gk = 0 ∧ i = .int .i64 0 ∧ w2 = W)
    case atStart => exact ⟨rfl, rfl, rfl⟩
    case round =>
      obtain ⟨rfl, rfl, rfl⟩ := hrel
      go_wp2
      go_loopg [9] 0 (fun gk i w3 => gk = 0 ∧ i = .int .i64 0 ∧ w3 = wr)
      case atStart => exact ⟨rfl, rfl, rfl⟩
      case round =>
        obtain ⟨rfl, rfl, rfl⟩ := hrel
        go_wp2
        go_loopg [11] 0 (fun gk i w3 => gk = 0 ∧ i = .int .i64 0 ∧ w3 = wr)
        case atStart => exact ⟨rfl, rfl, rfl⟩
        case round =>
          obtain ⟨rfl, rfl, rfl⟩ := hrel
          go_wp2
          go_loopg [14] 0 (fun gk i w3 => gk = 0 ∧ i = .int .i64 0 ∧ w3 = wr)
          case atStart => exact ⟨rfl, rfl, rfl⟩
          case round =>
            obtain ⟨rfl, rfl, rfl⟩ := hrel
            go_wp2
            go_ret
            exact ⟨rfl, hb⟩

theorem rowNodes : (Tryz.prog.info? 151).map (fun i => (i.zero, i.size, i.bytes)) = some (some (.slice none 0 0), 1, 24) := by kernel_rfl
set_option maxRecDepth 100000 in
theorem nilNodes (w : World) : Calls Tryz.prog 54 #[.slice none 0 0] w fun e w' => e = .returned (.bool true) ∧ Below w.heap.size w w' := by
  obtain ⟨r0, hr0, hrz0, hrz1, hrz2⟩ := info_parts rowNodes
  go_enter Tryz.func54, Tryz.ntmps54
  go_wp2
  go_loopg [3] 0 (fun gk i wr => gk = 0 ∧ i = .int .i64 0 ∧ wr = w)
  case atStart => exact ⟨rfl, rfl, rfl⟩
  case round =>
    obtain ⟨rfl, rfl, rfl⟩ := hrel
    go_wp2_with (at_make; go_must (refine wpList_make_row _ rfl _ _ _ rfl 151 r0 (.slice none 0 0) Tryz.underlying61 hr0 hrz0 hrz1 rfl .i64 .i64 0 rfl rfl (by omega) (by omega) ?_))
    have hb := (Below.refl wr.heap.size wr).alloc (Nat.le_refl _) (.cells (madeCells #[.slice none 0 0] 0) 151)
    generalize wr.alloc (.cells (madeCells #[.slice none 0 0] 0) 151) = W at *
    go_loopg [6] 0 (fun gk i w2 => gk = 0 ∧ i = .int .i64 0 ∧ w2 = W)
    case atStart => exact ⟨rfl, rfl, rfl⟩
    case round =>
      obtain ⟨rfl, rfl, rfl⟩ := hrel
      go_wp2
      go_loopg [9] 0 (fun gk i w3 => gk = 0 ∧ i = .int .i64 0 ∧ w3 = wr)
      case atStart => exact ⟨rfl, rfl, rfl⟩
      case round =>
        obtain ⟨rfl, rfl, rfl⟩ := hrel
        go_wp2
        go_loopg [11] 0 (fun gk i w3 => gk = 0 ∧ i = .int .i64 0 ∧ w3 = wr)
        case atStart => exact ⟨rfl, rfl, rfl⟩
        case round =>
          obtain ⟨rfl, rfl, rfl⟩ := hrel
          go_wp2
          go_loopg [14] 0 (fun gk i w3 => gk = 0 ∧ i = .int .i64 0 ∧ w3 = wr)
          case atStart => exact ⟨rfl, rfl, rfl⟩
          case round =>
            obtain ⟨rfl, rfl, rfl⟩ := hrel
            go_wp2
            go_ret
            exact ⟨rfl, hb⟩

theorem rowTypes : (Tryz.prog.info? 157).map (fun i => (i.zero, i.size, i.bytes)) = some (some (.slice none 0 0), 1, 24) := by kernel_rfl
set_option maxRecDepth 100000 in
theorem nilTypes (w : World) : Calls Tryz.prog 55 #[.slice none 0 0] w fun e w' => e = .returned (.bool true) ∧ Below w.heap.size w w' := by
  obtain ⟨r0, hr0, hrz0, hrz1, hrz2⟩ := info_parts rowTypes
  go_enter Tryz.func55, Tryz.ntmps55
  go_wp2
  go_loopg [3] 0 (fun gk i wr => gk = 0 ∧ i = .int .i64 0 ∧ wr = w)
  case atStart => exact ⟨rfl, rfl, rfl⟩
  case round =>
    obtain ⟨rfl, rfl, rfl⟩ := hrel
    go_wp2_with (at_make; go_must (refine wpList_make_row _ rfl _ _ _ rfl 157 r0 (.slice none 0 0) Tryz.underlying62 hr0 hrz0 hrz1 rfl .i64 .i64 0 rfl rfl (by omega) (by omega) ?_))
    have hb := (Below.refl wr.heap.size wr).alloc (Nat.le_refl _) (.cells (madeCells #[.slice none 0 0] 0) 157)
    generalize wr.alloc (.cells (madeCells #[.slice none 0 0] 0) 157) = W at *
    go_loopg [6] 0 (fun gk i w2 => gk = 0 ∧ i = .int .i64 0 ∧ w2 = W)
    case atStart => exact ⟨rfl, rfl, rfl⟩
    case round =>
      obtain ⟨rfl, rfl, rfl⟩ := hrel
      go_wp2
      go_loopg [9] 0 (fun gk i w3 => gk = 0 ∧ i = .int .i64 0 ∧ w3 = wr)
      case atStart => exact ⟨rfl, rfl, rfl⟩
      case round =>
        obtain ⟨rfl, rfl, rfl⟩ := hrel
        go_wp2
        go_loopg [11] 0 (fun gk i w3 => gk = 0 ∧ i = .int .i64 0 ∧ w3 = wr)
        case atStart => exact ⟨rfl, rfl, rfl⟩
        case round =>
          obtain ⟨rfl, rfl, rfl⟩ := hrel
          go_wp2
          go_loopg [14] 0 (fun gk i w3 => gk = 0 ∧ i = .int .i64 0 ∧ w3 = wr)
          case atStart => exact ⟨rfl, rfl, rfl⟩
          case round =>
            obtain ⟨rfl, rfl, rfl⟩ := hrel
            go_wp2
            go_ret
            exact ⟨rfl, hb⟩

theorem rowValues : (Tryz.prog.info? 163).map (fun i => (i.zero, i.size, i.bytes)) = some (some (.slice none 0 0), 1, 24) := by kernel_rfl
set_option maxRecDepth 100000 in
theorem nilValues (w : World) : Calls Tryz.prog 56 #[.slice none 0 0] w fun e w' => e = .returned (.bool true) ∧ Below w.heap.size w w' := by
  obtain ⟨r0, hr0, hrz0, hrz1, hrz2⟩ := info_parts rowValues
  go_enter Tryz.func56, Tryz.ntmps56
  go_wp2
  go_loopg [3] 0 (fun gk i wr => gk = 0 ∧ i = .int .i64 0 ∧ wr = w)
  case atStart => exact ⟨rfl, rfl, rfl⟩
  case round =>
    obtain ⟨rfl, rfl, rfl⟩ := hrel
    go_wp2_with (at_make; go_must (refine wpList_make_row _ rfl _ _ _ rfl 163 r0 (.slice none 0 0) Tryz.underlying63 hr0 hrz0 hrz1 rfl .i64 .i64 0 rfl rfl (by omega) (by omega) ?_))
    have hb := (Below.refl wr.heap.size wr).alloc (Nat.le_refl _) (.cells (madeCells #[.slice none 0 0] 0) 163)
    generalize wr.alloc (.cells (madeCells #[.slice none 0 0] 0) 163) = W at *
    go_loopg [6] 0 (fun gk i w2 => gk = 0 ∧ i = .int .i64 0 ∧ w2 = W)
    case atStart => exact ⟨rfl, rfl, rfl⟩
    case round =>
      obtain ⟨rfl, rfl, rfl⟩ := hrel
      go_wp2
      go_loopg [9] 0 (fun gk i w3 => gk = 0 ∧ i = .int .i64 0 ∧ w3 = wr)
      case atStart => exact ⟨rfl, rfl, rfl⟩
      case round =>
        obtain ⟨rfl, rfl, rfl⟩ := hrel
        go_wp2
        go_loopg [11] 0 (fun gk i w3 => gk = 0 ∧ i = .int .i64 0 ∧ w3 = wr)
        case atStart => exact ⟨rfl, rfl, rfl⟩
        case round =>
          obtain ⟨rfl, rfl, rfl⟩ := hrel
          go_wp2
          go_loopg [14] 0 (fun gk i w3 => gk = 0 ∧ i = .int .i64 0 ∧ w3 = wr)
          case atStart => exact ⟨rfl, rfl, rfl⟩
          case round =>
            obtain ⟨rfl, rfl, rfl⟩ := hrel
            go_wp2
            go_ret
            exact ⟨rfl, hb⟩

theorem rowOutcomes : (Tryz.prog.info? 168).map (fun i => (i.zero, i.size, i.bytes)) = some (some (.slice none 0 0), 1, 24) := by kernel_rfl
set_option maxRecDepth 100000 in
theorem nilOutcomes (w : World) : Calls Tryz.prog 57 #[.slice none 0 0] w fun e w' => e = .returned (.bool true) ∧ Below w.heap.size w w' := by
  obtain ⟨r0, hr0, hrz0, hrz1, hrz2⟩ := info_parts rowOutcomes
  go_enter Tryz.func57, Tryz.ntmps57
  go_wp2
  go_loopg [3] 0 (fun gk i wr => gk = 0 ∧ i = .int .i64 0 ∧ wr = w)
  case atStart => exact ⟨rfl, rfl, rfl⟩
  case round =>
    obtain ⟨rfl, rfl, rfl⟩ := hrel
    go_wp2_with (at_make; go_must (refine wpList_make_row _ rfl _ _ _ rfl 168 r0 (.slice none 0 0) Tryz.underlying64 hr0 hrz0 hrz1 rfl .i64 .i64 0 rfl rfl (by omega) (by omega) ?_))
    have hb := (Below.refl wr.heap.size wr).alloc (Nat.le_refl _) (.cells (madeCells #[.slice none 0 0] 0) 168)
    generalize wr.alloc (.cells (madeCells #[.slice none 0 0] 0) 168) = W at *
    go_loopg [6] 0 (fun gk i w2 => gk = 0 ∧ i = .int .i64 0 ∧ w2 = W)
    case atStart => exact ⟨rfl, rfl, rfl⟩
    case round =>
      obtain ⟨rfl, rfl, rfl⟩ := hrel
      go_wp2
      go_loopg [9] 0 (fun gk i w3 => gk = 0 ∧ i = .int .i64 0 ∧ w3 = wr)
      case atStart => exact ⟨rfl, rfl, rfl⟩
      case round =>
        obtain ⟨rfl, rfl, rfl⟩ := hrel
        go_wp2
        go_loopg [11] 0 (fun gk i w3 => gk = 0 ∧ i = .int .i64 0 ∧ w3 = wr)
        case atStart => exact ⟨rfl, rfl, rfl⟩
        case round =>
          obtain ⟨rfl, rfl, rfl⟩ := hrel
          go_wp2
          go_loopg [14] 0 (fun gk i w3 => gk = 0 ∧ i = .int .i64 0 ∧ w3 = wr)
          case atStart => exact ⟨rfl, rfl, rfl⟩
          case round =>
            obtain ⟨rfl, rfl, rfl⟩ := hrel
            go_wp2
            go_ret
            exact ⟨rfl, hb⟩

theorem rowWordRow : (Tryz.prog.info? 173).map (fun i => (i.zero, i.size, i.bytes)) = some (some (.slice none 0 0), 1, 24) := by kernel_rfl
set_option maxRecDepth 100000 in
theorem nilWordRow (w : World) : Calls Tryz.prog 58 #[.slice none 0 0] w fun e w' => e = .returned (.bool true) ∧ Below w.heap.size w w' := by
  obtain ⟨r0, hr0, hrz0, hrz1, hrz2⟩ := info_parts rowWordRow
  go_enter Tryz.func58, Tryz.ntmps58
  go_wp2
  go_loopg [3] 0 (fun gk i wr => gk = 0 ∧ i = .int .i64 0 ∧ wr = w)
  case atStart => exact ⟨rfl, rfl, rfl⟩
  case round =>
    obtain ⟨rfl, rfl, rfl⟩ := hrel
    go_wp2_with (at_make; go_must (refine wpList_make_row _ rfl _ _ _ rfl 173 r0 (.slice none 0 0) Tryz.underlying65 hr0 hrz0 hrz1 rfl .i64 .i64 0 rfl rfl (by omega) (by omega) ?_))
    have hb := (Below.refl wr.heap.size wr).alloc (Nat.le_refl _) (.cells (madeCells #[.slice none 0 0] 0) 173)
    generalize wr.alloc (.cells (madeCells #[.slice none 0 0] 0) 173) = W at *
    go_loopg [6] 0 (fun gk i w2 => gk = 0 ∧ i = .int .i64 0 ∧ w2 = W)
    case atStart => exact ⟨rfl, rfl, rfl⟩
    case round =>
      obtain ⟨rfl, rfl, rfl⟩ := hrel
      go_wp2
      go_loopg [9] 0 (fun gk i w3 => gk = 0 ∧ i = .int .i64 0 ∧ w3 = wr)
      case atStart => exact ⟨rfl, rfl, rfl⟩
      case round =>
        obtain ⟨rfl, rfl, rfl⟩ := hrel
        go_wp2
        go_loopg [11] 0 (fun gk i w3 => gk = 0 ∧ i = .int .i64 0 ∧ w3 = wr)
        case atStart => exact ⟨rfl, rfl, rfl⟩
        case round =>
          obtain ⟨rfl, rfl, rfl⟩ := hrel
          go_wp2
          go_loopg [14] 0 (fun gk i w3 => gk = 0 ∧ i = .int .i64 0 ∧ w3 = wr)
          case atStart => exact ⟨rfl, rfl, rfl⟩
          case round =>
            obtain ⟨rfl, rfl, rfl⟩ := hrel
            go_wp2
            go_ret
            exact ⟨rfl, hb⟩

theorem rowAlts : (Tryz.prog.info? 178).map (fun i => (i.zero, i.size, i.bytes)) = some (some (.slice none 0 0), 1, 24) := by kernel_rfl
set_option maxRecDepth 100000 in
theorem nilAlts (w : World) : Calls Tryz.prog 59 #[.slice none 0 0] w fun e w' => e = .returned (.bool true) ∧ Below w.heap.size w w' := by
  obtain ⟨r0, hr0, hrz0, hrz1, hrz2⟩ := info_parts rowAlts
  go_enter Tryz.func59, Tryz.ntmps59
  go_wp2
  go_loopg [3] 0 (fun gk i wr => gk = 0 ∧ i = .int .i64 0 ∧ wr = w)
  case atStart => exact ⟨rfl, rfl, rfl⟩
  case round =>
    obtain ⟨rfl, rfl, rfl⟩ := hrel
    go_wp2_with (at_make; go_must (refine wpList_make_row _ rfl _ _ _ rfl 178 r0 (.slice none 0 0) Tryz.underlying66 hr0 hrz0 hrz1 rfl .i64 .i64 0 rfl rfl (by omega) (by omega) ?_))
    have hb := (Below.refl wr.heap.size wr).alloc (Nat.le_refl _) (.cells (madeCells #[.slice none 0 0] 0) 178)
    generalize wr.alloc (.cells (madeCells #[.slice none 0 0] 0) 178) = W at *
    go_loopg [6] 0 (fun gk i w2 => gk = 0 ∧ i = .int .i64 0 ∧ w2 = W)
    case atStart => exact ⟨rfl, rfl, rfl⟩
    case round =>
      obtain ⟨rfl, rfl, rfl⟩ := hrel
      go_wp2
      go_loopg [9] 0 (fun gk i w3 => gk = 0 ∧ i = .int .i64 0 ∧ w3 = wr)
      case atStart => exact ⟨rfl, rfl, rfl⟩
      case round =>
        obtain ⟨rfl, rfl, rfl⟩ := hrel
        go_wp2
        go_loopg [11] 0 (fun gk i w3 => gk = 0 ∧ i = .int .i64 0 ∧ w3 = wr)
        case atStart => exact ⟨rfl, rfl, rfl⟩
        case round =>
          obtain ⟨rfl, rfl, rfl⟩ := hrel
          go_wp2
          go_loopg [14] 0 (fun gk i w3 => gk = 0 ∧ i = .int .i64 0 ∧ w3 = wr)
          case atStart => exact ⟨rfl, rfl, rfl⟩
          case round =>
            obtain ⟨rfl, rfl, rfl⟩ := hrel
            go_wp2
            go_ret
            exact ⟨rfl, hb⟩

theorem rowRules : (Tryz.prog.info? 183).map (fun i => (i.zero, i.size, i.bytes)) = some (some (.slice none 0 0), 1, 24) := by kernel_rfl
set_option maxRecDepth 100000 in
theorem nilRules (w : World) : Calls Tryz.prog 60 #[.slice none 0 0] w fun e w' => e = .returned (.bool true) ∧ Below w.heap.size w w' := by
  obtain ⟨r0, hr0, hrz0, hrz1, hrz2⟩ := info_parts rowRules
  go_enter Tryz.func60, Tryz.ntmps60
  go_wp2
  go_loopg [3] 0 (fun gk i wr => gk = 0 ∧ i = .int .i64 0 ∧ wr = w)
  case atStart => exact ⟨rfl, rfl, rfl⟩
  case round =>
    obtain ⟨rfl, rfl, rfl⟩ := hrel
    go_wp2_with (at_make; go_must (refine wpList_make_row _ rfl _ _ _ rfl 183 r0 (.slice none 0 0) Tryz.underlying67 hr0 hrz0 hrz1 rfl .i64 .i64 0 rfl rfl (by omega) (by omega) ?_))
    have hb := (Below.refl wr.heap.size wr).alloc (Nat.le_refl _) (.cells (madeCells #[.slice none 0 0] 0) 183)
    generalize wr.alloc (.cells (madeCells #[.slice none 0 0] 0) 183) = W at *
    go_loopg [6] 0 (fun gk i w2 => gk = 0 ∧ i = .int .i64 0 ∧ w2 = W)
    case atStart => exact ⟨rfl, rfl, rfl⟩
    case round =>
      obtain ⟨rfl, rfl, rfl⟩ := hrel
      go_wp2
      go_loopg [9] 0 (fun gk i w3 => gk = 0 ∧ i = .int .i64 0 ∧ w3 = wr)
      case atStart => exact ⟨rfl, rfl, rfl⟩
      case round =>
        obtain ⟨rfl, rfl, rfl⟩ := hrel
        go_wp2
        go_loopg [11] 0 (fun gk i w3 => gk = 0 ∧ i = .int .i64 0 ∧ w3 = wr)
        case atStart => exact ⟨rfl, rfl, rfl⟩
        case round =>
          obtain ⟨rfl, rfl, rfl⟩ := hrel
          go_wp2
          go_loopg [14] 0 (fun gk i w3 => gk = 0 ∧ i = .int .i64 0 ∧ w3 = wr)
          case atStart => exact ⟨rfl, rfl, rfl⟩
          case round =>
            obtain ⟨rfl, rfl, rfl⟩ := hrel
            go_wp2
            go_ret
            exact ⟨rfl, hb⟩

theorem rowDecls : (Tryz.prog.info? 188).map (fun i => (i.zero, i.size, i.bytes)) = some (some (.slice none 0 0), 1, 24) := by kernel_rfl
set_option maxRecDepth 100000 in
theorem nilDecls (w : World) : Calls Tryz.prog 61 #[.slice none 0 0] w fun e w' => e = .returned (.bool true) ∧ Below w.heap.size w w' := by
  obtain ⟨r0, hr0, hrz0, hrz1, hrz2⟩ := info_parts rowDecls
  go_enter Tryz.func61, Tryz.ntmps61
  go_wp2
  go_loopg [3] 0 (fun gk i wr => gk = 0 ∧ i = .int .i64 0 ∧ wr = w)
  case atStart => exact ⟨rfl, rfl, rfl⟩
  case round =>
    obtain ⟨rfl, rfl, rfl⟩ := hrel
    go_wp2_with (at_make; go_must (refine wpList_make_row _ rfl _ _ _ rfl 188 r0 (.slice none 0 0) Tryz.underlying68 hr0 hrz0 hrz1 rfl .i64 .i64 0 rfl rfl (by omega) (by omega) ?_))
    have hb := (Below.refl wr.heap.size wr).alloc (Nat.le_refl _) (.cells (madeCells #[.slice none 0 0] 0) 188)
    generalize wr.alloc (.cells (madeCells #[.slice none 0 0] 0) 188) = W at *
    go_loopg [6] 0 (fun gk i w2 => gk = 0 ∧ i = .int .i64 0 ∧ w2 = W)
    case atStart => exact ⟨rfl, rfl, rfl⟩
    case round =>
      obtain ⟨rfl, rfl, rfl⟩ := hrel
      go_wp2
      go_loopg [9] 0 (fun gk i w3 => gk = 0 ∧ i = .int .i64 0 ∧ w3 = wr)
      case atStart => exact ⟨rfl, rfl, rfl⟩
      case round =>
        obtain ⟨rfl, rfl, rfl⟩ := hrel
        go_wp2
        go_loopg [11] 0 (fun gk i w3 => gk = 0 ∧ i = .int .i64 0 ∧ w3 = wr)
        case atStart => exact ⟨rfl, rfl, rfl⟩
        case round =>
          obtain ⟨rfl, rfl, rfl⟩ := hrel
          go_wp2
          go_loopg [14] 0 (fun gk i w3 => gk = 0 ∧ i = .int .i64 0 ∧ w3 = wr)
          case atStart => exact ⟨rfl, rfl, rfl⟩
          case round =>
            obtain ⟨rfl, rfl, rfl⟩ := hrel
            go_wp2
            go_ret
            exact ⟨rfl, hb⟩

theorem rowSources : (Tryz.prog.info? 193).map (fun i => (i.zero, i.size, i.bytes)) = some (some (.slice none 0 0), 1, 24) := by kernel_rfl
set_option maxRecDepth 100000 in
theorem nilSources (w : World) : Calls Tryz.prog 62 #[.slice none 0 0] w fun e w' => e = .returned (.bool true) ∧ Below w.heap.size w w' := by
  obtain ⟨r0, hr0, hrz0, hrz1, hrz2⟩ := info_parts rowSources
  go_enter Tryz.func62, Tryz.ntmps62
  go_wp2
  go_loopg [3] 0 (fun gk i wr => gk = 0 ∧ i = .int .i64 0 ∧ wr = w)
  case atStart => exact ⟨rfl, rfl, rfl⟩
  case round =>
    obtain ⟨rfl, rfl, rfl⟩ := hrel
    go_wp2_with (at_make; go_must (refine wpList_make_row _ rfl _ _ _ rfl 193 r0 (.slice none 0 0) Tryz.underlying69 hr0 hrz0 hrz1 rfl .i64 .i64 0 rfl rfl (by omega) (by omega) ?_))
    have hb := (Below.refl wr.heap.size wr).alloc (Nat.le_refl _) (.cells (madeCells #[.slice none 0 0] 0) 193)
    generalize wr.alloc (.cells (madeCells #[.slice none 0 0] 0) 193) = W at *
    go_loopg [6] 0 (fun gk i w2 => gk = 0 ∧ i = .int .i64 0 ∧ w2 = W)
    case atStart => exact ⟨rfl, rfl, rfl⟩
    case round =>
      obtain ⟨rfl, rfl, rfl⟩ := hrel
      go_wp2
      go_loopg [9] 0 (fun gk i w3 => gk = 0 ∧ i = .int .i64 0 ∧ w3 = wr)
      case atStart => exact ⟨rfl, rfl, rfl⟩
      case round =>
        obtain ⟨rfl, rfl, rfl⟩ := hrel
        go_wp2
        go_loopg [11] 0 (fun gk i w3 => gk = 0 ∧ i = .int .i64 0 ∧ w3 = wr)
        case atStart => exact ⟨rfl, rfl, rfl⟩
        case round =>
          obtain ⟨rfl, rfl, rfl⟩ := hrel
          go_wp2
          go_loopg [14] 0 (fun gk i w3 => gk = 0 ∧ i = .int .i64 0 ∧ w3 = wr)
          case atStart => exact ⟨rfl, rfl, rfl⟩
          case round =>
            obtain ⟨rfl, rfl, rfl⟩ := hrel
            go_wp2
            go_ret
            exact ⟨rfl, hb⟩

theorem rowProds : (Tryz.prog.info? 198).map (fun i => (i.zero, i.size, i.bytes)) = some (some (.slice none 0 0), 1, 24) := by kernel_rfl
set_option maxRecDepth 100000 in
theorem nilProds (w : World) : Calls Tryz.prog 63 #[.slice none 0 0] w fun e w' => e = .returned (.bool true) ∧ Below w.heap.size w w' := by
  obtain ⟨r0, hr0, hrz0, hrz1, hrz2⟩ := info_parts rowProds
  go_enter Tryz.func63, Tryz.ntmps63
  go_wp2
  go_loopg [3] 0 (fun gk i wr => gk = 0 ∧ i = .int .i64 0 ∧ wr = w)
  case atStart => exact ⟨rfl, rfl, rfl⟩
  case round =>
    obtain ⟨rfl, rfl, rfl⟩ := hrel
    go_wp2_with (at_make; go_must (refine wpList_make_row _ rfl _ _ _ rfl 198 r0 (.slice none 0 0) Tryz.underlying70 hr0 hrz0 hrz1 rfl .i64 .i64 0 rfl rfl (by omega) (by omega) ?_))
    have hb := (Below.refl wr.heap.size wr).alloc (Nat.le_refl _) (.cells (madeCells #[.slice none 0 0] 0) 198)
    generalize wr.alloc (.cells (madeCells #[.slice none 0 0] 0) 198) = W at *
    go_loopg [6] 0 (fun gk i w2 => gk = 0 ∧ i = .int .i64 0 ∧ w2 = W)
    case atStart => exact ⟨rfl, rfl, rfl⟩
    case round =>
      obtain ⟨rfl, rfl, rfl⟩ := hrel
      go_wp2
      go_loopg [9] 0 (fun gk i w3 => gk = 0 ∧ i = .int .i64 0 ∧ w3 = wr)
      case atStart => exact ⟨rfl, rfl, rfl⟩
      case round =>
        obtain ⟨rfl, rfl, rfl⟩ := hrel
        go_wp2
        go_loopg [11] 0 (fun gk i w3 => gk = 0 ∧ i = .int .i64 0 ∧ w3 = wr)
        case atStart => exact ⟨rfl, rfl, rfl⟩
        case round =>
          obtain ⟨rfl, rfl, rfl⟩ := hrel
          go_wp2
          go_loopg [14] 0 (fun gk i w3 => gk = 0 ∧ i = .int .i64 0 ∧ w3 = wr)
          case atStart => exact ⟨rfl, rfl, rfl⟩
          case round =>
            obtain ⟨rfl, rfl, rfl⟩ := hrel
            go_wp2
            go_ret
            exact ⟨rfl, hb⟩

theorem rowSymbols : (Tryz.prog.info? 203).map (fun i => (i.zero, i.size, i.bytes)) = some (some (.slice none 0 0), 1, 24) := by kernel_rfl
set_option maxRecDepth 100000 in
theorem nilSymbols (w : World) : Calls Tryz.prog 64 #[.slice none 0 0] w fun e w' => e = .returned (.bool true) ∧ Below w.heap.size w w' := by
  obtain ⟨r0, hr0, hrz0, hrz1, hrz2⟩ := info_parts rowSymbols
  go_enter Tryz.func64, Tryz.ntmps64
  go_wp2
  go_loopg [3] 0 (fun gk i wr => gk = 0 ∧ i = .int .i64 0 ∧ wr = w)
  case atStart => exact ⟨rfl, rfl, rfl⟩
  case round =>
    obtain ⟨rfl, rfl, rfl⟩ := hrel
    go_wp2_with (at_make; go_must (refine wpList_make_row _ rfl _ _ _ rfl 203 r0 (.slice none 0 0) Tryz.underlying71 hr0 hrz0 hrz1 rfl .i64 .i64 0 rfl rfl (by omega) (by omega) ?_))
    have hb := (Below.refl wr.heap.size wr).alloc (Nat.le_refl _) (.cells (madeCells #[.slice none 0 0] 0) 203)
    generalize wr.alloc (.cells (madeCells #[.slice none 0 0] 0) 203) = W at *
    go_loopg [6] 0 (fun gk i w2 => gk = 0 ∧ i = .int .i64 0 ∧ w2 = W)
    case atStart => exact ⟨rfl, rfl, rfl⟩
    case round =>
      obtain ⟨rfl, rfl, rfl⟩ := hrel
      go_wp2
      go_loopg [9] 0 (fun gk i w3 => gk = 0 ∧ i = .int .i64 0 ∧ w3 = wr)
      case atStart => exact ⟨rfl, rfl, rfl⟩
      case round =>
        obtain ⟨rfl, rfl, rfl⟩ := hrel
        go_wp2
        go_loopg [11] 0 (fun gk i w3 => gk = 0 ∧ i = .int .i64 0 ∧ w3 = wr)
        case atStart => exact ⟨rfl, rfl, rfl⟩
        case round =>
          obtain ⟨rfl, rfl, rfl⟩ := hrel
          go_wp2
          go_loopg [14] 0 (fun gk i w3 => gk = 0 ∧ i = .int .i64 0 ∧ w3 = wr)
          case atStart => exact ⟨rfl, rfl, rfl⟩
          case round =>
            obtain ⟨rfl, rfl, rfl⟩ := hrel
            go_wp2
            go_ret
            exact ⟨rfl, hb⟩

theorem rowGrammars : (Tryz.prog.info? 208).map (fun i => (i.zero, i.size, i.bytes)) = some (some (.slice none 0 0), 1, 24) := by kernel_rfl
set_option maxRecDepth 100000 in
theorem nilGrammars (w : World) : Calls Tryz.prog 65 #[.slice none 0 0] w fun e w' => e = .returned (.bool true) ∧ Below w.heap.size w w' := by
  obtain ⟨r0, hr0, hrz0, hrz1, hrz2⟩ := info_parts rowGrammars
  go_enter Tryz.func65, Tryz.ntmps65
  go_wp2
  go_loopg [3] 0 (fun gk i wr => gk = 0 ∧ i = .int .i64 0 ∧ wr = w)
  case atStart => exact ⟨rfl, rfl, rfl⟩
  case round =>
    obtain ⟨rfl, rfl, rfl⟩ := hrel
    go_wp2_with (at_make; go_must (refine wpList_make_row _ rfl _ _ _ rfl 208 r0 (.slice none 0 0) Tryz.underlying72 hr0 hrz0 hrz1 rfl .i64 .i64 0 rfl rfl (by omega) (by omega) ?_))
    have hb := (Below.refl wr.heap.size wr).alloc (Nat.le_refl _) (.cells (madeCells #[.slice none 0 0] 0) 208)
    generalize wr.alloc (.cells (madeCells #[.slice none 0 0] 0) 208) = W at *
    go_loopg [6] 0 (fun gk i w2 => gk = 0 ∧ i = .int .i64 0 ∧ w2 = W)
    case atStart => exact ⟨rfl, rfl, rfl⟩
    case round =>
      obtain ⟨rfl, rfl, rfl⟩ := hrel
      go_wp2
      go_loopg [9] 0 (fun gk i w3 => gk = 0 ∧ i = .int .i64 0 ∧ w3 = wr)
      case atStart => exact ⟨rfl, rfl, rfl⟩
      case round =>
        obtain ⟨rfl, rfl, rfl⟩ := hrel
        go_wp2
        go_loopg [11] 0 (fun gk i w3 => gk = 0 ∧ i = .int .i64 0 ∧ w3 = wr)
        case atStart => exact ⟨rfl, rfl, rfl⟩
        case round =>
          obtain ⟨rfl, rfl, rfl⟩ := hrel
          go_wp2
          go_loopg [14] 0 (fun gk i w3 => gk = 0 ∧ i = .int .i64 0 ∧ w3 = wr)
          case atStart => exact ⟨rfl, rfl, rfl⟩
          case round =>
            obtain ⟨rfl, rfl, rfl⟩ := hrel
            go_wp2
            go_ret
            exact ⟨rfl, hb⟩

theorem rowItems : (Tryz.prog.info? 213).map (fun i => (i.zero, i.size, i.bytes)) = some (some (.slice none 0 0), 1, 24) := by kernel_rfl
set_option maxRecDepth 100000 in
theorem nilItems (w : World) : Calls Tryz.prog 66 #[.slice none 0 0] w fun e w' => e = .returned (.bool true) ∧ Below w.heap.size w w' := by
  obtain ⟨r0, hr0, hrz0, hrz1, hrz2⟩ := info_parts rowItems
  go_enter Tryz.func66, Tryz.ntmps66
  go_wp2
  go_loopg [3] 0 (fun gk i wr => gk = 0 ∧ i = .int .i64 0 ∧ wr = w)
  case atStart => exact ⟨rfl, rfl, rfl⟩
  case round =>
    obtain ⟨rfl, rfl, rfl⟩ := hrel
    go_wp2_with (at_make; go_must (refine wpList_make_row _ rfl _ _ _ rfl 213 r0 (.slice none 0 0) Tryz.underlying73 hr0 hrz0 hrz1 rfl .i64 .i64 0 rfl rfl (by omega) (by omega) ?_))
    have hb := (Below.refl wr.heap.size wr).alloc (Nat.le_refl _) (.cells (madeCells #[.slice none 0 0] 0) 213)
    generalize wr.alloc (.cells (madeCells #[.slice none 0 0] 0) 213) = W at *
    go_loopg [6] 0 (fun gk i w2 => gk = 0 ∧ i = .int .i64 0 ∧ w2 = W)
    case atStart => exact ⟨rfl, rfl, rfl⟩
    case round =>
      obtain ⟨rfl, rfl, rfl⟩ := hrel
      go_wp2
      go_loopg [9] 0 (fun gk i w3 => gk = 0 ∧ i = .int .i64 0 ∧ w3 = wr)
      case atStart => exact ⟨rfl, rfl, rfl⟩
      case round =>
        obtain ⟨rfl, rfl, rfl⟩ := hrel
        go_wp2
        go_loopg [11] 0 (fun gk i w3 => gk = 0 ∧ i = .int .i64 0 ∧ w3 = wr)
        case atStart => exact ⟨rfl, rfl, rfl⟩
        case round =>
          obtain ⟨rfl, rfl, rfl⟩ := hrel
          go_wp2
          go_loopg [14] 0 (fun gk i w3 => gk = 0 ∧ i = .int .i64 0 ∧ w3 = wr)
          case atStart => exact ⟨rfl, rfl, rfl⟩
          case round =>
            obtain ⟨rfl, rfl, rfl⟩ := hrel
            go_wp2
            go_ret
            exact ⟨rfl, hb⟩

theorem rowEdges : (Tryz.prog.info? 217).map (fun i => (i.zero, i.size, i.bytes)) = some (some (.slice none 0 0), 1, 24) := by kernel_rfl
set_option maxRecDepth 100000 in
theorem nilEdges (w : World) : Calls Tryz.prog 67 #[.slice none 0 0] w fun e w' => e = .returned (.bool true) ∧ Below w.heap.size w w' := by
  obtain ⟨r0, hr0, hrz0, hrz1, hrz2⟩ := info_parts rowEdges
  go_enter Tryz.func67, Tryz.ntmps67
  go_wp2
  go_loopg [3] 0 (fun gk i wr => gk = 0 ∧ i = .int .i64 0 ∧ wr = w)
  case atStart => exact ⟨rfl, rfl, rfl⟩
  case round =>
    obtain ⟨rfl, rfl, rfl⟩ := hrel
    go_wp2_with (at_make; go_must (refine wpList_make_row _ rfl _ _ _ rfl 217 r0 (.slice none 0 0) Tryz.underlying74 hr0 hrz0 hrz1 rfl .i64 .i64 0 rfl rfl (by omega) (by omega) ?_))
    have hb := (Below.refl wr.heap.size wr).alloc (Nat.le_refl _) (.cells (madeCells #[.slice none 0 0] 0) 217)
    generalize wr.alloc (.cells (madeCells #[.slice none 0 0] 0) 217) = W at *
    go_loopg [6] 0 (fun gk i w2 => gk = 0 ∧ i = .int .i64 0 ∧ w2 = W)
    case atStart => exact ⟨rfl, rfl, rfl⟩
    case round =>
      obtain ⟨rfl, rfl, rfl⟩ := hrel
      go_wp2
      go_loopg [9] 0 (fun gk i w3 => gk = 0 ∧ i = .int .i64 0 ∧ w3 = wr)
      case atStart => exact ⟨rfl, rfl, rfl⟩
      case round =>
        obtain ⟨rfl, rfl, rfl⟩ := hrel
        go_wp2
        go_loopg [11] 0 (fun gk i w3 => gk = 0 ∧ i = .int .i64 0 ∧ w3 = wr)
        case atStart => exact ⟨rfl, rfl, rfl⟩
        case round =>
          obtain ⟨rfl, rfl, rfl⟩ := hrel
          go_wp2
          go_loopg [14] 0 (fun gk i w3 => gk = 0 ∧ i = .int .i64 0 ∧ w3 = wr)
          case atStart => exact ⟨rfl, rfl, rfl⟩
          case round =>
            obtain ⟨rfl, rfl, rfl⟩ := hrel
            go_wp2
            go_ret
            exact ⟨rfl, hb⟩

theorem rowStates : (Tryz.prog.info? 221).map (fun i => (i.zero, i.size, i.bytes)) = some (some (.slice none 0 0), 1, 24) := by kernel_rfl
set_option maxRecDepth 100000 in
theorem nilStates (w : World) : Calls Tryz.prog 68 #[.slice none 0 0] w fun e w' => e = .returned (.bool true) ∧ Below w.heap.size w w' := by
  obtain ⟨r0, hr0, hrz0, hrz1, hrz2⟩ := info_parts rowStates
  go_enter Tryz.func68, Tryz.ntmps68
  go_wp2
  go_loopg [3] 0 (fun gk i wr => gk = 0 ∧ i = .int .i64 0 ∧ wr = w)
  case atStart => exact ⟨rfl, rfl, rfl⟩
  case round =>
    obtain ⟨rfl, rfl, rfl⟩ := hrel
    go_wp2_with (at_make; go_must (refine wpList_make_row _ rfl _ _ _ rfl 221 r0 (.slice none 0 0) Tryz.underlying75 hr0 hrz0 hrz1 rfl .i64 .i64 0 rfl rfl (by omega) (by omega) ?_))
    have hb := (Below.refl wr.heap.size wr).alloc (Nat.le_refl _) (.cells (madeCells #[.slice none 0 0] 0) 221)
    generalize wr.alloc (.cells (madeCells #[.slice none 0 0] 0) 221) = W at *
    go_loopg [6] 0 (fun gk i w2 => gk = 0 ∧ i = .int .i64 0 ∧ w2 = W)
    case atStart => exact ⟨rfl, rfl, rfl⟩
    case round =>
      obtain ⟨rfl, rfl, rfl⟩ := hrel
      go_wp2
      go_loopg [9] 0 (fun gk i w3 => gk = 0 ∧ i = .int .i64 0 ∧ w3 = wr)
      case atStart => exact ⟨rfl, rfl, rfl⟩
      case round =>
        obtain ⟨rfl, rfl, rfl⟩ := hrel
        go_wp2
        go_loopg [11] 0 (fun gk i w3 => gk = 0 ∧ i = .int .i64 0 ∧ w3 = wr)
        case atStart => exact ⟨rfl, rfl, rfl⟩
        case round =>
          obtain ⟨rfl, rfl, rfl⟩ := hrel
          go_wp2
          go_loopg [14] 0 (fun gk i w3 => gk = 0 ∧ i = .int .i64 0 ∧ w3 = wr)
          case atStart => exact ⟨rfl, rfl, rfl⟩
          case round =>
            obtain ⟨rfl, rfl, rfl⟩ := hrel
            go_wp2
            go_ret
            exact ⟨rfl, hb⟩

theorem rowAheads : (Tryz.prog.info? 226).map (fun i => (i.zero, i.size, i.bytes)) = some (some (.slice none 0 0), 1, 24) := by kernel_rfl
set_option maxRecDepth 100000 in
theorem nilAheads (w : World) : Calls Tryz.prog 69 #[.slice none 0 0] w fun e w' => e = .returned (.bool true) ∧ Below w.heap.size w w' := by
  obtain ⟨r0, hr0, hrz0, hrz1, hrz2⟩ := info_parts rowAheads
  go_enter Tryz.func69, Tryz.ntmps69
  go_wp2
  go_loopg [3] 0 (fun gk i wr => gk = 0 ∧ i = .int .i64 0 ∧ wr = w)
  case atStart => exact ⟨rfl, rfl, rfl⟩
  case round =>
    obtain ⟨rfl, rfl, rfl⟩ := hrel
    go_wp2_with (at_make; go_must (refine wpList_make_row _ rfl _ _ _ rfl 226 r0 (.slice none 0 0) Tryz.underlying76 hr0 hrz0 hrz1 rfl .i64 .i64 0 rfl rfl (by omega) (by omega) ?_))
    have hb := (Below.refl wr.heap.size wr).alloc (Nat.le_refl _) (.cells (madeCells #[.slice none 0 0] 0) 226)
    generalize wr.alloc (.cells (madeCells #[.slice none 0 0] 0) 226) = W at *
    go_loopg [6] 0 (fun gk i w2 => gk = 0 ∧ i = .int .i64 0 ∧ w2 = W)
    case atStart => exact ⟨rfl, rfl, rfl⟩
    case round =>
      obtain ⟨rfl, rfl, rfl⟩ := hrel
      go_wp2
      go_loopg [9] 0 (fun gk i w3 => gk = 0 ∧ i = .int .i64 0 ∧ w3 = wr)
      case atStart => exact ⟨rfl, rfl, rfl⟩
      case round =>
        obtain ⟨rfl, rfl, rfl⟩ := hrel
        go_wp2
        go_loopg [11] 0 (fun gk i w3 => gk = 0 ∧ i = .int .i64 0 ∧ w3 = wr)
        case atStart => exact ⟨rfl, rfl, rfl⟩
        case round =>
          obtain ⟨rfl, rfl, rfl⟩ := hrel
          go_wp2
          go_loopg [14] 0 (fun gk i w3 => gk = 0 ∧ i = .int .i64 0 ∧ w3 = wr)
          case atStart => exact ⟨rfl, rfl, rfl⟩
          case round =>
            obtain ⟨rfl, rfl, rfl⟩ := hrel
            go_wp2
            go_ret
            exact ⟨rfl, hb⟩

theorem rowActs : (Tryz.prog.info? 231).map (fun i => (i.zero, i.size, i.bytes)) = some (some (.slice none 0 0), 1, 24) := by kernel_rfl
set_option maxRecDepth 100000 in
theorem nilActs (w : World) : Calls Tryz.prog 70 #[.slice none 0 0] w fun e w' => e = .returned (.bool true) ∧ Below w.heap.size w w' := by
  obtain ⟨r0, hr0, hrz0, hrz1, hrz2⟩ := info_parts rowActs
  go_enter Tryz.func70, Tryz.ntmps70
  go_wp2
  go_loopg [3] 0 (fun gk i wr => gk = 0 ∧ i = .int .i64 0 ∧ wr = w)
  case atStart => exact ⟨rfl, rfl, rfl⟩
  case round =>
    obtain ⟨rfl, rfl, rfl⟩ := hrel
    go_wp2_with (at_make; go_must (refine wpList_make_row _ rfl _ _ _ rfl 231 r0 (.slice none 0 0) Tryz.underlying77 hr0 hrz0 hrz1 rfl .i64 .i64 0 rfl rfl (by omega) (by omega) ?_))
    have hb := (Below.refl wr.heap.size wr).alloc (Nat.le_refl _) (.cells (madeCells #[.slice none 0 0] 0) 231)
    generalize wr.alloc (.cells (madeCells #[.slice none 0 0] 0) 231) = W at *
    go_loopg [6] 0 (fun gk i w2 => gk = 0 ∧ i = .int .i64 0 ∧ w2 = W)
    case atStart => exact ⟨rfl, rfl, rfl⟩
    case round =>
      obtain ⟨rfl, rfl, rfl⟩ := hrel
      go_wp2
      go_loopg [9] 0 (fun gk i w3 => gk = 0 ∧ i = .int .i64 0 ∧ w3 = wr)
      case atStart => exact ⟨rfl, rfl, rfl⟩
      case round =>
        obtain ⟨rfl, rfl, rfl⟩ := hrel
        go_wp2
        go_loopg [11] 0 (fun gk i w3 => gk = 0 ∧ i = .int .i64 0 ∧ w3 = wr)
        case atStart => exact ⟨rfl, rfl, rfl⟩
        case round =>
          obtain ⟨rfl, rfl, rfl⟩ := hrel
          go_wp2
          go_loopg [14] 0 (fun gk i w3 => gk = 0 ∧ i = .int .i64 0 ∧ w3 = wr)
          case atStart => exact ⟨rfl, rfl, rfl⟩
          case round =>
            obtain ⟨rfl, rfl, rfl⟩ := hrel
            go_wp2
            go_ret
            exact ⟨rfl, hb⟩

theorem rowClashes : (Tryz.prog.info? 236).map (fun i => (i.zero, i.size, i.bytes)) = some (some (.slice none 0 0), 1, 24) := by kernel_rfl
set_option maxRecDepth 100000 in
theorem nilClashes (w : World) : Calls Tryz.prog 71 #[.slice none 0 0] w fun e w' => e = .returned (.bool true) ∧ Below w.heap.size w w' := by
  obtain ⟨r0, hr0, hrz0, hrz1, hrz2⟩ := info_parts rowClashes
  go_enter Tryz.func71, Tryz.ntmps71
  go_wp2
  go_loopg [3] 0 (fun gk i wr => gk = 0 ∧ i = .int .i64 0 ∧ wr = w)
  case atStart => exact ⟨rfl, rfl, rfl⟩
  case round =>
    obtain ⟨rfl, rfl, rfl⟩ := hrel
    go_wp2_with (at_make; go_must (refine wpList_make_row _ rfl _ _ _ rfl 236 r0 (.slice none 0 0) Tryz.underlying78 hr0 hrz0 hrz1 rfl .i64 .i64 0 rfl rfl (by omega) (by omega) ?_))
    have hb := (Below.refl wr.heap.size wr).alloc (Nat.le_refl _) (.cells (madeCells #[.slice none 0 0] 0) 236)
    generalize wr.alloc (.cells (madeCells #[.slice none 0 0] 0) 236) = W at *
    go_loopg [6] 0 (fun gk i w2 => gk = 0 ∧ i = .int .i64 0 ∧ w2 = W)
    case atStart => exact ⟨rfl, rfl, rfl⟩
    case round =>
      obtain ⟨rfl, rfl, rfl⟩ := hrel
      go_wp2
      go_loopg [9] 0 (fun gk i w3 => gk = 0 ∧ i = .int .i64 0 ∧ w3 = wr)
      case atStart => exact ⟨rfl, rfl, rfl⟩
      case round =>
        obtain ⟨rfl, rfl, rfl⟩ := hrel
        go_wp2
        go_loopg [11] 0 (fun gk i w3 => gk = 0 ∧ i = .int .i64 0 ∧ w3 = wr)
        case atStart => exact ⟨rfl, rfl, rfl⟩
        case round =>
          obtain ⟨rfl, rfl, rfl⟩ := hrel
          go_wp2
          go_loopg [14] 0 (fun gk i w3 => gk = 0 ∧ i = .int .i64 0 ∧ w3 = wr)
          case atStart => exact ⟨rfl, rfl, rfl⟩
          case round =>
            obtain ⟨rfl, rfl, rfl⟩ := hrel
            go_wp2
            go_ret
            exact ⟨rfl, hb⟩

theorem rowPackedRow : (Tryz.prog.info? 240).map (fun i => (i.zero, i.size, i.bytes)) = some (some (.slice none 0 0), 1, 24) := by kernel_rfl
set_option maxRecDepth 100000 in
theorem nilPackedRow (w : World) : Calls Tryz.prog 72 #[.slice none 0 0] w fun e w' => e = .returned (.bool true) ∧ Below w.heap.size w w' := by
  obtain ⟨r0, hr0, hrz0, hrz1, hrz2⟩ := info_parts rowPackedRow
  go_enter Tryz.func72, Tryz.ntmps72
  go_wp2
  go_loopg [3] 0 (fun gk i wr => gk = 0 ∧ i = .int .i64 0 ∧ wr = w)
  case atStart => exact ⟨rfl, rfl, rfl⟩
  case round =>
    obtain ⟨rfl, rfl, rfl⟩ := hrel
    go_wp2_with (at_make; go_must (refine wpList_make_row _ rfl _ _ _ rfl 240 r0 (.slice none 0 0) Tryz.underlying79 hr0 hrz0 hrz1 rfl .i64 .i64 0 rfl rfl (by omega) (by omega) ?_))
    have hb := (Below.refl wr.heap.size wr).alloc (Nat.le_refl _) (.cells (madeCells #[.slice none 0 0] 0) 240)
    generalize wr.alloc (.cells (madeCells #[.slice none 0 0] 0) 240) = W at *
    go_loopg [6] 0 (fun gk i w2 => gk = 0 ∧ i = .int .i64 0 ∧ w2 = W)
    case atStart => exact ⟨rfl, rfl, rfl⟩
    case round =>
      obtain ⟨rfl, rfl, rfl⟩ := hrel
      go_wp2
      go_loopg [9] 0 (fun gk i w3 => gk = 0 ∧ i = .int .i64 0 ∧ w3 = wr)
      case atStart => exact ⟨rfl, rfl, rfl⟩
      case round =>
        obtain ⟨rfl, rfl, rfl⟩ := hrel
        go_wp2
        go_loopg [11] 0 (fun gk i w3 => gk = 0 ∧ i = .int .i64 0 ∧ w3 = wr)
        case atStart => exact ⟨rfl, rfl, rfl⟩
        case round =>
          obtain ⟨rfl, rfl, rfl⟩ := hrel
          go_wp2
          go_loopg [14] 0 (fun gk i w3 => gk = 0 ∧ i = .int .i64 0 ∧ w3 = wr)
          case atStart => exact ⟨rfl, rfl, rfl⟩
          case round =>
            obtain ⟨rfl, rfl, rfl⟩ := hrel
            go_wp2
            go_ret
            exact ⟨rfl, hb⟩

theorem rowTrees : (Tryz.prog.info? 245).map (fun i => (i.zero, i.size, i.bytes)) = some (some (.slice none 0 0), 1, 24) := by kernel_rfl
set_option maxRecDepth 100000 in
theorem nilTrees (w : World) : Calls Tryz.prog 73 #[.slice none 0 0] w fun e w' => e = .returned (.bool true) ∧ Below w.heap.size w w' := by
  obtain ⟨r0, hr0, hrz0, hrz1, hrz2⟩ := info_parts rowTrees
  go_enter Tryz.func73, Tryz.ntmps73
  go_wp2
  go_loopg [3] 0 (fun gk i wr => gk = 0 ∧ i = .int .i64 0 ∧ wr = w)
  case atStart => exact ⟨rfl, rfl, rfl⟩
  case round =>
    obtain ⟨rfl, rfl, rfl⟩ := hrel
    go_wp2_with (at_make; go_must (refine wpList_make_row _ rfl _ _ _ rfl 245 r0 (.slice none 0 0) Tryz.underlying80 hr0 hrz0 hrz1 rfl .i64 .i64 0 rfl rfl (by omega) (by omega) ?_))
    have hb := (Below.refl wr.heap.size wr).alloc (Nat.le_refl _) (.cells (madeCells #[.slice none 0 0] 0) 245)
    generalize wr.alloc (.cells (madeCells #[.slice none 0 0] 0) 245) = W at *
    go_loopg [6] 0 (fun gk i w2 => gk = 0 ∧ i = .int .i64 0 ∧ w2 = W)
    case atStart => exact ⟨rfl, rfl, rfl⟩
    case round =>
      obtain ⟨rfl, rfl, rfl⟩ := hrel
      go_wp2
      go_loopg [9] 0 (fun gk i w3 => gk = 0 ∧ i = .int .i64 0 ∧ w3 = wr)
      case atStart => exact ⟨rfl, rfl, rfl⟩
      case round =>
        obtain ⟨rfl, rfl, rfl⟩ := hrel
        go_wp2
        go_loopg [11] 0 (fun gk i w3 => gk = 0 ∧ i = .int .i64 0 ∧ w3 = wr)
        case atStart => exact ⟨rfl, rfl, rfl⟩
        case round =>
          obtain ⟨rfl, rfl, rfl⟩ := hrel
          go_wp2
          go_loopg [14] 0 (fun gk i w3 => gk = 0 ∧ i = .int .i64 0 ∧ w3 = wr)
          case atStart => exact ⟨rfl, rfl, rfl⟩
          case round =>
            obtain ⟨rfl, rfl, rfl⟩ := hrel
            go_wp2
            go_ret
            exact ⟨rfl, hb⟩

theorem rowToks : (Tryz.prog.info? 250).map (fun i => (i.zero, i.size, i.bytes)) = some (some (.slice none 0 0), 1, 24) := by kernel_rfl
set_option maxRecDepth 100000 in
theorem nilToks (w : World) : Calls Tryz.prog 74 #[.slice none 0 0] w fun e w' => e = .returned (.bool true) ∧ Below w.heap.size w w' := by
  obtain ⟨r0, hr0, hrz0, hrz1, hrz2⟩ := info_parts rowToks
  go_enter Tryz.func74, Tryz.ntmps74
  go_wp2
  go_loopg [3] 0 (fun gk i wr => gk = 0 ∧ i = .int .i64 0 ∧ wr = w)
  case atStart => exact ⟨rfl, rfl, rfl⟩
  case round =>
    obtain ⟨rfl, rfl, rfl⟩ := hrel
    go_wp2_with (at_make; go_must (refine wpList_make_row _ rfl _ _ _ rfl 250 r0 (.slice none 0 0) Tryz.underlying81 hr0 hrz0 hrz1 rfl .i64 .i64 0 rfl rfl (by omega) (by omega) ?_))
    have hb := (Below.refl wr.heap.size wr).alloc (Nat.le_refl _) (.cells (madeCells #[.slice none 0 0] 0) 250)
    generalize wr.alloc (.cells (madeCells #[.slice none 0 0] 0) 250) = W at *
    go_loopg [6] 0 (fun gk i w2 => gk = 0 ∧ i = .int .i64 0 ∧ w2 = W)
    case atStart => exact ⟨rfl, rfl, rfl⟩
    case round =>
      obtain ⟨rfl, rfl, rfl⟩ := hrel
      go_wp2
      go_loopg [9] 0 (fun gk i w3 => gk = 0 ∧ i = .int .i64 0 ∧ w3 = wr)
      case atStart => exact ⟨rfl, rfl, rfl⟩
      case round =>
        obtain ⟨rfl, rfl, rfl⟩ := hrel
        go_wp2
        go_loopg [11] 0 (fun gk i w3 => gk = 0 ∧ i = .int .i64 0 ∧ w3 = wr)
        case atStart => exact ⟨rfl, rfl, rfl⟩
        case round =>
          obtain ⟨rfl, rfl, rfl⟩ := hrel
          go_wp2
          go_loopg [14] 0 (fun gk i w3 => gk = 0 ∧ i = .int .i64 0 ∧ w3 = wr)
          case atStart => exact ⟨rfl, rfl, rfl⟩
          case round =>
            obtain ⟨rfl, rfl, rfl⟩ := hrel
            go_wp2
            go_ret
            exact ⟨rfl, hb⟩

theorem rowParsedRow : (Tryz.prog.info? 255).map (fun i => (i.zero, i.size, i.bytes)) = some (some (.slice none 0 0), 1, 24) := by kernel_rfl
set_option maxRecDepth 100000 in
theorem nilParsedRow (w : World) : Calls Tryz.prog 75 #[.slice none 0 0] w fun e w' => e = .returned (.bool true) ∧ Below w.heap.size w w' := by
  obtain ⟨r0, hr0, hrz0, hrz1, hrz2⟩ := info_parts rowParsedRow
  go_enter Tryz.func75, Tryz.ntmps75
  go_wp2
  go_loopg [3] 0 (fun gk i wr => gk = 0 ∧ i = .int .i64 0 ∧ wr = w)
  case atStart => exact ⟨rfl, rfl, rfl⟩
  case round =>
    obtain ⟨rfl, rfl, rfl⟩ := hrel
    go_wp2_with (at_make; go_must (refine wpList_make_row _ rfl _ _ _ rfl 255 r0 (.slice none 0 0) Tryz.underlying82 hr0 hrz0 hrz1 rfl .i64 .i64 0 rfl rfl (by omega) (by omega) ?_))
    have hb := (Below.refl wr.heap.size wr).alloc (Nat.le_refl _) (.cells (madeCells #[.slice none 0 0] 0) 255)
    generalize wr.alloc (.cells (madeCells #[.slice none 0 0] 0) 255) = W at *
    go_loopg [6] 0 (fun gk i w2 => gk = 0 ∧ i = .int .i64 0 ∧ w2 = W)
    case atStart => exact ⟨rfl, rfl, rfl⟩
    case round =>
      obtain ⟨rfl, rfl, rfl⟩ := hrel
      go_wp2
      go_loopg [9] 0 (fun gk i w3 => gk = 0 ∧ i = .int .i64 0 ∧ w3 = wr)
      case atStart => exact ⟨rfl, rfl, rfl⟩
      case round =>
        obtain ⟨rfl, rfl, rfl⟩ := hrel
        go_wp2
        go_loopg [11] 0 (fun gk i w3 => gk = 0 ∧ i = .int .i64 0 ∧ w3 = wr)
        case atStart => exact ⟨rfl, rfl, rfl⟩
        case round =>
          obtain ⟨rfl, rfl, rfl⟩ := hrel
          go_wp2
          go_loopg [14] 0 (fun gk i w3 => gk = 0 ∧ i = .int .i64 0 ∧ w3 = wr)
          case atStart => exact ⟨rfl, rfl, rfl⟩
          case round =>
            obtain ⟨rfl, rfl, rfl⟩ := hrel
            go_wp2
            go_ret
            exact ⟨rfl, hb⟩

theorem rowNotices : (Tryz.prog.info? 260).map (fun i => (i.zero, i.size, i.bytes)) = some (some (.slice none 0 0), 1, 24) := by kernel_rfl
set_option maxRecDepth 100000 in
theorem nilNotices (w : World) : Calls Tryz.prog 76 #[.slice none 0 0] w fun e w' => e = .returned (.bool true) ∧ Below w.heap.size w w' := by
  obtain ⟨r0, hr0, hrz0, hrz1, hrz2⟩ := info_parts rowNotices
  go_enter Tryz.func76, Tryz.ntmps76
  go_wp2
  go_loopg [3] 0 (fun gk i wr => gk = 0 ∧ i = .int .i64 0 ∧ wr = w)
  case atStart => exact ⟨rfl, rfl, rfl⟩
  case round =>
    obtain ⟨rfl, rfl, rfl⟩ := hrel
    go_wp2_with (at_make; go_must (refine wpList_make_row _ rfl _ _ _ rfl 260 r0 (.slice none 0 0) Tryz.underlying83 hr0 hrz0 hrz1 rfl .i64 .i64 0 rfl rfl (by omega) (by omega) ?_))
    have hb := (Below.refl wr.heap.size wr).alloc (Nat.le_refl _) (.cells (madeCells #[.slice none 0 0] 0) 260)
    generalize wr.alloc (.cells (madeCells #[.slice none 0 0] 0) 260) = W at *
    go_loopg [6] 0 (fun gk i w2 => gk = 0 ∧ i = .int .i64 0 ∧ w2 = W)
    case atStart => exact ⟨rfl, rfl, rfl⟩
    case round =>
      obtain ⟨rfl, rfl, rfl⟩ := hrel
      go_wp2
      go_loopg [9] 0 (fun gk i w3 => gk = 0 ∧ i = .int .i64 0 ∧ w3 = wr)
      case atStart => exact ⟨rfl, rfl, rfl⟩
      case round =>
        obtain ⟨rfl, rfl, rfl⟩ := hrel
        go_wp2
        go_loopg [11] 0 (fun gk i w3 => gk = 0 ∧ i = .int .i64 0 ∧ w3 = wr)
        case atStart => exact ⟨rfl, rfl, rfl⟩
        case round =>
          obtain ⟨rfl, rfl, rfl⟩ := hrel
          go_wp2
          go_loopg [14] 0 (fun gk i w3 => gk = 0 ∧ i = .int .i64 0 ∧ w3 = wr)
          case atStart => exact ⟨rfl, rfl, rfl⟩
          case round =>
            obtain ⟨rfl, rfl, rfl⟩ := hrel
            go_wp2
            go_ret
            exact ⟨rfl, hb⟩

end Go.Proofs.YtopbhopblpfjpaaGreatDoor.FlatNil
