/-
  DERIVED. GIVEN WITH THE SEED: THE CARDS: each row of YtliddljdidofaaaDoorRows.lean that lists a variable, with what it lists TIED to the program's text (the seventh form; the later family's looks); each row that meets fmt, with fmt's text TOLD by the authors' own Lean function (tested against real Go, not proved from fmt's source: count such statements apart). THE CARD IS WHAT COUNTS. Prove the row's statement (the work); the ties are given (YtliddljdidofaaaDoorTie.lean); close each card by the builder's one call (the guide's Derived/Test/ToyasCard.lean, 'card_holds'). Laid BY PROGRAM, IN A SANDBOX (cutbox-door.mjs). By AI agents, Wed Nov 11 2026. No macro, syntax, notation, axiom, sorry.
-/
import Derived.Test.YtliddljdidofaaaDoorRows
import GoSem.ClaimSeven
namespace Go.Proofs.YtliddljdidofaaaDoor
namespace Rows

/-- THE TIED CARD OF 'gristmilllaw03.ScanBack'. -/
def scanBackCard : Claim7 := { stood := { row := scanBackRow, standIns := [], harness := (true, "9c1740d04a7aa03c361c250f20046d5652660a5bb7331602b1805c13415e06a9"), looks := true }, kinds := [], alts := [], laidByText := true, laidKinds := [.listed, .data], laidTests := true, laidLooks := .later }
def ScanBackCardSaid : Prop := Claim7.holds Tryd.pinned (.plain (OpenSpec.ofChange scanBackSpec)) scanBackCard

/-- THE TIED CARD OF 'gristmilllaw03.ScanSays'. -/
def scanSaysCard : Claim7 := { stood := { row := scanSaysRow, standIns := [], harness := (true, "9c1740d04a7aa03c361c250f20046d5652660a5bb7331602b1805c13415e06a9"), looks := true }, kinds := [], alts := [], laidByText := true, laidKinds := [.listed, .data], laidTests := true, laidLooks := .later }
def ScanSaysCardSaid : Prop := Claim7.holds Tryd.pinned (.plain (OpenSpec.ofChange scanSaysSpec)) scanSaysCard

/-- THE TIED CARD OF 'gristmilllaw03.ScanLines'. -/
def scanLinesCard : Claim7 := { stood := { row := scanLinesRow, standIns := [], harness := (true, "9c1740d04a7aa03c361c250f20046d5652660a5bb7331602b1805c13415e06a9"), looks := true }, kinds := [], alts := [], laidByText := true, laidKinds := [.data, .listed, .data, .pinned], laidTests := true, laidLooks := .later }
def ScanLinesCardSaid : Prop := Claim7.holds Tryd.pinned (.plain (OpenSpec.ofChange scanLinesSpec)) scanLinesCard

/-- THE SECOND FORM's CARD OF 'gristmilllaw03.ScanBack'. -/
def scanBackUptoCard : Claim7 := { stood := { row := scanBackUptoRow, standIns := [], harness := (true, "9c1740d04a7aa03c361c250f20046d5652660a5bb7331602b1805c13415e06a9"), looks := true }, kinds := [], alts := [], laidByText := true, laidKinds := [.listed, .data], laidTests := true, laidLooks := .later }
def ScanBackUptoCardSaid : Prop := Claim7.holds Tryd.pinned (.plain (OpenSpec.upto scanBackSpec)) scanBackUptoCard

/-- THE SECOND FORM's CARD OF 'gristmilllaw03.ScanSays'. -/
def scanSaysUptoCard : Claim7 := { stood := { row := scanSaysUptoRow, standIns := [], harness := (true, "9c1740d04a7aa03c361c250f20046d5652660a5bb7331602b1805c13415e06a9"), looks := true }, kinds := [], alts := [], laidByText := true, laidKinds := [.listed, .data], laidTests := true, laidLooks := .later }
def ScanSaysUptoCardSaid : Prop := Claim7.holds Tryd.pinned (.plain (OpenSpec.upto scanSaysSpec)) scanSaysUptoCard

/-- THE SECOND FORM's CARD OF 'gristmilllaw03.ScanLines'. -/
def scanLinesUptoCard : Claim7 := { stood := { row := scanLinesUptoRow, standIns := [], harness := (true, "9c1740d04a7aa03c361c250f20046d5652660a5bb7331602b1805c13415e06a9"), looks := true }, kinds := [], alts := [], laidByText := true, laidKinds := [.data, .listed, .data, .pinned], laidTests := true, laidLooks := .later }
def ScanLinesUptoCardSaid : Prop := Claim7.holds Tryd.pinned (.plain (OpenSpec.upto scanLinesSpec)) scanLinesUptoCard
end Rows
end Go.Proofs.YtliddljdidofaaaDoor
