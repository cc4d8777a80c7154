/-
  NARROWER THAN 'FOR EVERY INPUT', by the rows' own cells (each row's printed sentence says how): WriteBack: loops.
  DERIVED. THE GIVEN ROWS OF THIS SEAT. 6 by the template 'for every input the law returns true; each argument reads behind the call as it read before'; 0 by the template 'total and deterministic' (their statements: YtelpkldlkpoioaaTotals.lean).
  GIVEN WITH THE SEED: the statements are not yours to turn. If you find one false, say at which input.
  Laid BY PROGRAM, IN A SANDBOX (cutbox-rows.mjs): the forced cells as the released guide's own fill.sh prints them over the translation 8488e5d93ba333d8… (all of the seat's roots in one cut). By AI agents, Wed Nov 11 2026. No macro, syntax, notation, axiom, sorry.
-/
import Derived.Test.YtelpkldlkpoioaaChecked
import GoSem.Claim
import GoSem.ClaimJoined
import GoSem.ClaimMapViews
import Derived.JoinedTies
import Derived.KernelRfl
namespace Go.Proofs.Ytelpkldlkpoioaa
/- THE CELL 'sum', in the pinned program and in every row, IS THE sha256 OF THE DUMP (.gsa) THAT YtelpkldlkpoioaaProg.lean LOADS. Nothing in Lean hashes anything: it is a label: what it is worth is what the hold of that sum in a sandbox is worth. -/
noncomputable def Try.pinned : Pinned := { name := "ytelpkldlkpoioaa", sum := "8488e5d93ba333d8ed5a49f43300e42e67c19a3f5efe24db2f97e8b3e3f400f1", checked := Try.checked }
namespace Rows
def none {H : Type} : Left H := { results := [], args := [] }

/-- 'gristmilllaw10.LexBack': WHATEVER THE INPUT: true; the input reads as it did. -/
def lexBackSpec : ChangeSpec := { name := "lexBack", fn := fun _ => fun
  | [d] => { results := [.lit (.bool true)], args := [d] }
  | _ => none }
def lexBackRow : OpenClaim := { program := "ytelpkldlkpoioaa", sum := "8488e5d93ba333d8ed5a49f43300e42e67c19a3f5efe24db2f97e8b3e3f400f1", func := "gristmill/gristmilllaw10.LexBack", spec := "lexBack", inPlace := ["internal/bytealg.IndexByteString", "internal/bytealg.IndexString"], unfollowed := true, recurses := true, named := ["internal/bytealg.MaxLen"], apart := false }
def LexBackSaid : Prop := lexBackRow.holds Try.pinned (OpenSpec.ofChange lexBackSpec)

/-- ITS FALSE NEIGHBOUR: 'it returns false'. Refute it at one input. -/
def lexBackWrong : ChangeSpec := { name := "lexBack", fn := fun _ => fun
  | [d] => { results := [.lit (.bool false)], args := [d] }
  | _ => none }
def LexBackWrongFalsely : Prop := lexBackRow.holds Try.pinned (OpenSpec.ofChange lexBackWrong)

/-- 'gristmilllaw10.LexInside': WHATEVER THE INPUT: true; the input reads as it did. -/
def lexInsideSpec : ChangeSpec := { name := "lexInside", fn := fun _ => fun
  | [d1, d2] => { results := [.lit (.bool true)], args := [d1, d2] }
  | _ => none }
def lexInsideRow : OpenClaim := { program := "ytelpkldlkpoioaa", sum := "8488e5d93ba333d8ed5a49f43300e42e67c19a3f5efe24db2f97e8b3e3f400f1", func := "gristmill/gristmilllaw10.LexInside", spec := "lexInside", inPlace := ["internal/bytealg.IndexByteString", "internal/bytealg.IndexString"], unfollowed := true, recurses := true, named := ["internal/bytealg.MaxLen"], apart := false }
def LexInsideSaid : Prop := lexInsideRow.holds Try.pinned (OpenSpec.ofChange lexInsideSpec)

/-- ITS FALSE NEIGHBOUR: 'it returns false'. Refute it at one input. -/
def lexInsideWrong : ChangeSpec := { name := "lexInside", fn := fun _ => fun
  | [d1, d2] => { results := [.lit (.bool false)], args := [d1, d2] }
  | _ => none }
def LexInsideWrongFalsely : Prop := lexInsideRow.holds Try.pinned (OpenSpec.ofChange lexInsideWrong)

/-- 'gristmilllaw11.ReadPlaces': WHATEVER THE INPUT: true; the input reads as it did. -/
def readPlacesSpec : ChangeSpec := { name := "readPlaces", fn := fun _ => fun
  | [d] => { results := [.lit (.bool true)], args := [d] }
  | _ => none }
def readPlacesRow : OpenClaim := { program := "ytelpkldlkpoioaa", sum := "8488e5d93ba333d8ed5a49f43300e42e67c19a3f5efe24db2f97e8b3e3f400f1", func := "gristmill/gristmilllaw11.ReadPlaces", spec := "readPlaces", inPlace := ["internal/bytealg.IndexByteString", "internal/bytealg.IndexString"], unfollowed := true, recurses := true, named := ["internal/bytealg.MaxLen"], apart := false }
def ReadPlacesSaid : Prop := readPlacesRow.holds Try.pinned (OpenSpec.ofChange readPlacesSpec)

/-- ITS FALSE NEIGHBOUR: 'it returns false'. Refute it at one input. -/
def readPlacesWrong : ChangeSpec := { name := "readPlaces", fn := fun _ => fun
  | [d] => { results := [.lit (.bool false)], args := [d] }
  | _ => none }
def ReadPlacesWrongFalsely : Prop := readPlacesRow.holds Try.pinned (OpenSpec.ofChange readPlacesWrong)

/-- 'gristmilllaw11.ReadRows': WHATEVER THE INPUT: true; the input reads as it did. -/
def readRowsSpec : ChangeSpec := { name := "readRows", fn := fun _ => fun
  | [d1, d2] => { results := [.lit (.bool true)], args := [d1, d2] }
  | _ => none }
def readRowsRow : OpenClaim := { program := "ytelpkldlkpoioaa", sum := "8488e5d93ba333d8ed5a49f43300e42e67c19a3f5efe24db2f97e8b3e3f400f1", func := "gristmill/gristmilllaw11.ReadRows", spec := "readRows", inPlace := ["internal/bytealg.IndexByteString", "internal/bytealg.IndexString"], unfollowed := true, recurses := true, named := ["internal/bytealg.MaxLen"], apart := false }
def ReadRowsSaid : Prop := readRowsRow.holds Try.pinned (OpenSpec.ofChange readRowsSpec)

/-- ITS FALSE NEIGHBOUR: 'it returns false'. Refute it at one input. -/
def readRowsWrong : ChangeSpec := { name := "readRows", fn := fun _ => fun
  | [d1, d2] => { results := [.lit (.bool false)], args := [d1, d2] }
  | _ => none }
def ReadRowsWrongFalsely : Prop := readRowsRow.holds Try.pinned (OpenSpec.ofChange readRowsWrong)

/-- 'gristmilllaw12.WriteBack': WHATEVER THE INPUT: true; the input reads as it did. -/
def writeBackSpec : ChangeSpec := { name := "writeBack", fn := fun _ => fun
  | [d] => { results := [.lit (.bool true)], args := [d] }
  | _ => none }
def writeBackRow : OpenClaim := { program := "ytelpkldlkpoioaa", sum := "8488e5d93ba333d8ed5a49f43300e42e67c19a3f5efe24db2f97e8b3e3f400f1", func := "gristmill/gristmilllaw12.WriteBack", spec := "writeBack", inPlace := ["internal/abi.NoEscape", "internal/bytealg.IndexByteString", "internal/bytealg.IndexString"], unfollowed := true, recurses := true, named := ["internal/bytealg.MaxLen"], loops := true, apart := false }
def WriteBackSaid : Prop := writeBackRow.holds Try.pinned (OpenSpec.ofChange writeBackSpec)

/-- ITS FALSE NEIGHBOUR: 'it returns false'. Refute it at one input. -/
def writeBackWrong : ChangeSpec := { name := "writeBack", fn := fun _ => fun
  | [d] => { results := [.lit (.bool false)], args := [d] }
  | _ => none }
def WriteBackWrongFalsely : Prop := writeBackRow.holds Try.pinned (OpenSpec.ofChange writeBackWrong)

/-- 'gristmilllaw12.WriteRead': WHATEVER THE INPUT: true; the input reads as it did. -/
def writeReadSpec : ChangeSpec := { name := "writeRead", fn := fun _ => fun
  | [d] => { results := [.lit (.bool true)], args := [d] }
  | _ => none }
def writeReadRow : OpenClaim := { program := "ytelpkldlkpoioaa", sum := "8488e5d93ba333d8ed5a49f43300e42e67c19a3f5efe24db2f97e8b3e3f400f1", func := "gristmill/gristmilllaw12.WriteRead", spec := "writeRead", inPlace := ["internal/abi.NoEscape", "internal/bytealg.IndexByteString", "internal/bytealg.IndexString"], unfollowed := true, recurses := true, named := ["internal/bytealg.MaxLen"], apart := false }
def WriteReadSaid : Prop := writeReadRow.holds Try.pinned (OpenSpec.ofChange writeReadSpec)

/-- ITS FALSE NEIGHBOUR: 'it returns false'. Refute it at one input. -/
def writeReadWrong : ChangeSpec := { name := "writeRead", fn := fun _ => fun
  | [d] => { results := [.lit (.bool false)], args := [d] }
  | _ => none }
def WriteReadWrongFalsely : Prop := writeReadRow.holds Try.pinned (OpenSpec.ofChange writeReadWrong)

/- THE SECOND FORM. 'bulk': how many values and letters a reading holds, each counted each time it is reached (what is shared counts as often as it is met; a slice's spare places count too). A statement '..UptoSaid' is the law's where the arguments, and the package variables that the reading takes, are together of bulk at most 1048576: NARROWER than '..Said'. Prove '..Said' where nothing that the law and all that it calls make is longer than what came in: it says more and counts as full. Else prove '..UptoSaid'. A law counts once. -/
mutual
def uptoBulk {H : Type} : DataW H → Nat
  | .lit (.string bytes) => bytes.length + 1
  | .lit _ => 1
  | .nil => 1
  | .ptr d => uptoBulk d + 1
  | .slice elems spare => uptoBulkAll elems + uptoBulkAll spare + 1
  | .agg parts => uptoBulkAll parts + 1
  | .iface _ d => uptoBulk d + 1
  | .map entries => uptoBulkEntries entries + 1
  | .held _ => 1
def uptoBulkAll {H : Type} : List (DataW H) → Nat
  | [] => 0
  | d :: r => uptoBulk d + uptoBulkAll r
def uptoBulkEntries {H : Type} : List (Lit × DataW H) → Nat
  | [] => 0
  | x :: r => uptoBulkEntry x + uptoBulkEntries r
def uptoBulkEntry {H : Type} : Lit × DataW H → Nat
  | (.string bytes, d) => bytes.length + uptoBulk d + 1
  | (_, d) => uptoBulk d + 1
 end
def uptoSmall : (H : Type) → List (DataW H) → Bool := fun _ ds => decide (uptoBulkAll ds ≤ 1048576)
def OpenSpec.upto (s : _root_.Go.ChangeSpec) : _root_.Go.OpenSpec := { _root_.Go.OpenSpec.ofChange s with cond := some uptoSmall }

/-- 'gristmilllaw10.LexBack', WHERE WHAT IT READS IS OF BULK AT MOST 1048576: true; the input reads as it did. -/
def lexBackUptoRow : OpenClaim := { program := "ytelpkldlkpoioaa", sum := "8488e5d93ba333d8ed5a49f43300e42e67c19a3f5efe24db2f97e8b3e3f400f1", func := "gristmill/gristmilllaw10.LexBack", spec := "lexBack", inPlace := ["internal/bytealg.IndexByteString", "internal/bytealg.IndexString"], unfollowed := true, recurses := true, named := ["internal/bytealg.MaxLen"], apart := false, narrowed := true }
def LexBackUptoSaid : Prop := lexBackUptoRow.holds Try.pinned (OpenSpec.upto lexBackSpec)

/-- 'gristmilllaw10.LexInside', WHERE WHAT IT READS IS OF BULK AT MOST 1048576: true; the input reads as it did. -/
def lexInsideUptoRow : OpenClaim := { program := "ytelpkldlkpoioaa", sum := "8488e5d93ba333d8ed5a49f43300e42e67c19a3f5efe24db2f97e8b3e3f400f1", func := "gristmill/gristmilllaw10.LexInside", spec := "lexInside", inPlace := ["internal/bytealg.IndexByteString", "internal/bytealg.IndexString"], unfollowed := true, recurses := true, named := ["internal/bytealg.MaxLen"], apart := false, narrowed := true }
def LexInsideUptoSaid : Prop := lexInsideUptoRow.holds Try.pinned (OpenSpec.upto lexInsideSpec)

/-- 'gristmilllaw11.ReadPlaces', WHERE WHAT IT READS IS OF BULK AT MOST 1048576: true; the input reads as it did. -/
def readPlacesUptoRow : OpenClaim := { program := "ytelpkldlkpoioaa", sum := "8488e5d93ba333d8ed5a49f43300e42e67c19a3f5efe24db2f97e8b3e3f400f1", func := "gristmill/gristmilllaw11.ReadPlaces", spec := "readPlaces", inPlace := ["internal/bytealg.IndexByteString", "internal/bytealg.IndexString"], unfollowed := true, recurses := true, named := ["internal/bytealg.MaxLen"], apart := false, narrowed := true }
def ReadPlacesUptoSaid : Prop := readPlacesUptoRow.holds Try.pinned (OpenSpec.upto readPlacesSpec)

/-- 'gristmilllaw11.ReadRows', WHERE WHAT IT READS IS OF BULK AT MOST 1048576: true; the input reads as it did. -/
def readRowsUptoRow : OpenClaim := { program := "ytelpkldlkpoioaa", sum := "8488e5d93ba333d8ed5a49f43300e42e67c19a3f5efe24db2f97e8b3e3f400f1", func := "gristmill/gristmilllaw11.ReadRows", spec := "readRows", inPlace := ["internal/bytealg.IndexByteString", "internal/bytealg.IndexString"], unfollowed := true, recurses := true, named := ["internal/bytealg.MaxLen"], apart := false, narrowed := true }
def ReadRowsUptoSaid : Prop := readRowsUptoRow.holds Try.pinned (OpenSpec.upto readRowsSpec)

/-- 'gristmilllaw12.WriteBack', WHERE WHAT IT READS IS OF BULK AT MOST 1048576: true; the input reads as it did. -/
def writeBackUptoRow : OpenClaim := { program := "ytelpkldlkpoioaa", sum := "8488e5d93ba333d8ed5a49f43300e42e67c19a3f5efe24db2f97e8b3e3f400f1", func := "gristmill/gristmilllaw12.WriteBack", spec := "writeBack", inPlace := ["internal/abi.NoEscape", "internal/bytealg.IndexByteString", "internal/bytealg.IndexString"], unfollowed := true, recurses := true, named := ["internal/bytealg.MaxLen"], loops := true, apart := false, narrowed := true }
def WriteBackUptoSaid : Prop := writeBackUptoRow.holds Try.pinned (OpenSpec.upto writeBackSpec)

/-- 'gristmilllaw12.WriteRead', WHERE WHAT IT READS IS OF BULK AT MOST 1048576: true; the input reads as it did. -/
def writeReadUptoRow : OpenClaim := { program := "ytelpkldlkpoioaa", sum := "8488e5d93ba333d8ed5a49f43300e42e67c19a3f5efe24db2f97e8b3e3f400f1", func := "gristmill/gristmilllaw12.WriteRead", spec := "writeRead", inPlace := ["internal/abi.NoEscape", "internal/bytealg.IndexByteString", "internal/bytealg.IndexString"], unfollowed := true, recurses := true, named := ["internal/bytealg.MaxLen"], apart := false, narrowed := true }
def WriteReadUptoSaid : Prop := writeReadUptoRow.holds Try.pinned (OpenSpec.upto writeReadSpec)

end Rows
end Go.Proofs.Ytelpkldlkpoioaa
