/-
  DERIVED. GIVEN WITH THE SEED: THE CARDS: each row of YtkgginkdhggpgaaGreatDoorRows.lean that lists a variable, with what it lists TIED to the program's text (the seventh form; the later family's looks); each row that meets fmt, with fmt's text TOLD by the authors' own Lean function (tested against real Go, not proved from fmt's source: count such statements apart). THE CARD IS WHAT COUNTS. Prove the row's statement (the work); the ties are given (YtkgginkdhggpgaaGreatDoorTie.lean); close each card by the builder's one call (the guide's Derived/Test/ToyasCard.lean, 'card_holds'). Laid BY PROGRAM, IN A SANDBOX (cutbox-door.mjs). By AI agents, Wed Nov 11 2026. No macro, syntax, notation, axiom, sorry.
-/
import Derived.Test.YtkgginkdhggpgaaGreatDoorRows
import GoSem.ClaimSeven
namespace Go.Proofs.YtkgginkdhggpgaaGreatDoor
namespace Rows

/-- THE TIED CARD OF 'gristmilllaw01.NumFloats'. -/
def numFloatsCard : Claim7 := { stood := { row := numFloatsRow, standIns := [], harness := (true, "a1de83a13a5684dc6ad19ac8c9bf56112ee002db09daf7ed1c5e47026a0bf929"), looks := true }, kinds := [], alts := [], laidByText := true, laidKinds := [.data, .data, .widerDeep, .widerDeep, .data, .data, .data, .data, .data, .data, .sentinel, .sentinel, .pinned, .pinned, .pinned], laidTests := true, laidLooks := .later }
def NumFloatsCardSaid : Prop := Claim7.holds Tryz.pinned (.plain (OpenSpec.ofChange numFloatsSpec)) numFloatsCard

/-- THE TIED CARD OF 'gristmilllaw01.NumEdges'. -/
def numEdgesCard : Claim7 := { stood := { row := numEdgesRow, standIns := [], harness := (true, "a1de83a13a5684dc6ad19ac8c9bf56112ee002db09daf7ed1c5e47026a0bf929"), looks := true }, kinds := [], alts := [], laidByText := true, laidKinds := [.data, .data, .widerDeep, .widerDeep, .data, .data, .data, .data, .data, .data, .sentinel, .sentinel, .pinned, .pinned, .pinned], laidTests := true, laidLooks := .later }
def NumEdgesCardSaid : Prop := Claim7.holds Tryz.pinned (.plain (OpenSpec.ofChange numEdgesSpec)) numEdgesCard

/-- THE TIED CARD OF 'gristmilllaw01.NumLaws'. -/
def numLawsCard : Claim7 := { stood := { row := numLawsRow, standIns := [], harness := (true, "a1de83a13a5684dc6ad19ac8c9bf56112ee002db09daf7ed1c5e47026a0bf929"), looks := true }, kinds := [], alts := [], laidByText := true, laidKinds := [.data, .data, .widerDeep, .widerDeep, .data, .data, .data, .data, .data, .data, .sentinel, .sentinel, .pinned, .pinned, .pinned], laidTests := true, laidLooks := .later }
def NumLawsCardSaid : Prop := Claim7.holds Tryz.pinned (.plain (OpenSpec.ofChange numLawsSpec)) numLawsCard

/-- THE TIED CARD OF 'gristmilllaw01.NumInts'. -/
def numIntsCard : Claim7 := { stood := { row := numIntsRow, standIns := [], harness := (true, "a1de83a13a5684dc6ad19ac8c9bf56112ee002db09daf7ed1c5e47026a0bf929"), looks := true }, kinds := [], alts := [], laidByText := true, laidKinds := [.data, .data, .widerDeep, .widerDeep, .data, .data, .data, .data, .data, .data, .sentinel, .sentinel, .pinned, .pinned, .pinned], laidTests := true, laidLooks := .later }
def NumIntsCardSaid : Prop := Claim7.holds Tryz.pinned (.plain (OpenSpec.ofChange numIntsSpec)) numIntsCard

/-- THE SECOND FORM's CARD OF 'gristmilllaw01.NumFloats'. -/
def numFloatsUptoCard : Claim7 := { stood := { row := numFloatsUptoRow, standIns := [], harness := (true, "a1de83a13a5684dc6ad19ac8c9bf56112ee002db09daf7ed1c5e47026a0bf929"), looks := true }, kinds := [], alts := [], laidByText := true, laidKinds := [.data, .data, .widerDeep, .widerDeep, .data, .data, .data, .data, .data, .data, .sentinel, .sentinel, .pinned, .pinned, .pinned], laidTests := true, laidLooks := .later }
def NumFloatsUptoCardSaid : Prop := Claim7.holds Tryz.pinned (.plain (OpenSpec.upto numFloatsSpec)) numFloatsUptoCard

/-- THE SECOND FORM's CARD OF 'gristmilllaw01.NumEdges'. -/
def numEdgesUptoCard : Claim7 := { stood := { row := numEdgesUptoRow, standIns := [], harness := (true, "a1de83a13a5684dc6ad19ac8c9bf56112ee002db09daf7ed1c5e47026a0bf929"), looks := true }, kinds := [], alts := [], laidByText := true, laidKinds := [.data, .data, .widerDeep, .widerDeep, .data, .data, .data, .data, .data, .data, .sentinel, .sentinel, .pinned, .pinned, .pinned], laidTests := true, laidLooks := .later }
def NumEdgesUptoCardSaid : Prop := Claim7.holds Tryz.pinned (.plain (OpenSpec.upto numEdgesSpec)) numEdgesUptoCard

/-- THE SECOND FORM's CARD OF 'gristmilllaw01.NumLaws'. -/
def numLawsUptoCard : Claim7 := { stood := { row := numLawsUptoRow, standIns := [], harness := (true, "a1de83a13a5684dc6ad19ac8c9bf56112ee002db09daf7ed1c5e47026a0bf929"), looks := true }, kinds := [], alts := [], laidByText := true, laidKinds := [.data, .data, .widerDeep, .widerDeep, .data, .data, .data, .data, .data, .data, .sentinel, .sentinel, .pinned, .pinned, .pinned], laidTests := true, laidLooks := .later }
def NumLawsUptoCardSaid : Prop := Claim7.holds Tryz.pinned (.plain (OpenSpec.upto numLawsSpec)) numLawsUptoCard

/-- THE SECOND FORM's CARD OF 'gristmilllaw01.NumInts'. -/
def numIntsUptoCard : Claim7 := { stood := { row := numIntsUptoRow, standIns := [], harness := (true, "a1de83a13a5684dc6ad19ac8c9bf56112ee002db09daf7ed1c5e47026a0bf929"), looks := true }, kinds := [], alts := [], laidByText := true, laidKinds := [.data, .data, .widerDeep, .widerDeep, .data, .data, .data, .data, .data, .data, .sentinel, .sentinel, .pinned, .pinned, .pinned], laidTests := true, laidLooks := .later }
def NumIntsUptoCardSaid : Prop := Claim7.holds Tryz.pinned (.plain (OpenSpec.upto numIntsSpec)) numIntsUptoCard
end Rows
end Go.Proofs.YtkgginkdhggpgaaGreatDoor
