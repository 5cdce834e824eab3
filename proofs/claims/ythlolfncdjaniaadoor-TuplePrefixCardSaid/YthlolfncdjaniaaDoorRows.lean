/-
  NARROWER THAN 'FOR EVERY INPUT', by the rows' own cells (each row's printed sentence says how): TupleUnpacks: laid · TuplePrefix: loops, laid · TupleOrder: loops, laid · TupleBack: loops, laid · TupleOnly: laid · TupleMemory: loops, laid.
  DERIVED. THE GIVEN ROWS OF THIS SEAT. 6 by the template 'for every input the law returns true; each argument reads behind the call as it read before'; 0 by the template 'total and deterministic' (their statements: YthlolfncdjaniaaDoorTotals.lean).
  GIVEN WITH THE SEED: the statements are not yours to turn. If you find one false, say at which input.
  Laid BY PROGRAM, IN A SANDBOX (cutbox-rows.mjs): the forced cells as the released guide's own fill.sh prints them over the translation 995339baa7ca350b… (all of the seat's roots in one cut). By AI agents, Wed Nov 11 2026. No macro, syntax, notation, axiom, sorry.
-/
import Derived.Test.YthlolfncdjaniaaDoorChecked
import GoSem.PinnedTables
import GoSem.Claim
import GoSem.ClaimJoined
import GoSem.ClaimMapViews
import Derived.JoinedTies
import Derived.KernelRfl
namespace Go.Proofs.YthlolfncdjaniaaDoor
/- THE CELL 'sum', in the pinned program and in every row, IS THE sha256 OF THE DUMP (.gsa) THAT YthlolfncdjaniaaDoorProg.lean LOADS. Nothing in Lean hashes anything: it is a label: what it is worth is what the hold of that sum in a sandbox is worth. -/
noncomputable def Tryd.pinned : Pinned := { name := "ythlolfncdjaniaadoor", sum := "995339baa7ca350b75d7d49b21d4a16382cddc308ae2a18294f1663fe853d0b7", checked := Tryd.checked }
namespace Rows
def none {H : Type} : Left H := { results := [], args := [] }

/- WHAT THE LISTED PACKAGE-LEVEL VARIABLES READ AS WHEN THE CALL BEGINS. Each datum BY PROGRAM (the guide's laid-datum.mjs) off the statement by which the dump's own 'gosem.cut.vars' lays the variable. In a bare row this is a premise. The card (YthlolfncdjaniaaDoorCards.lean) ties it to the program's text. -/
def laid_copse_api_ErrArg {H : Type} : DataW H := .iface "*errors.errorString" (.ptr (.agg [.lit (.string [97, 32, 110, 117, 109, 98, 101, 114, 32, 111, 114, 32, 97, 110, 32, 97, 114, 103, 117, 109, 101, 110, 116, 32, 105, 115, 32, 111, 117, 116, 32, 111, 102, 32, 105, 116, 115, 32, 112, 108, 97, 99, 101])]))
def laid_copse_api_ErrText {H : Type} : DataW H := .iface "*errors.errorString" (.ptr (.agg [.lit (.string [97, 32, 116, 101, 120, 116, 32, 111, 114, 32, 98, 121, 116, 101, 115, 32, 116, 104, 97, 116, 32, 99, 97, 110, 110, 111, 116, 32, 98, 101, 32, 114, 101, 97, 100])]))
def laid_copse_api_ErrMany {H : Type} : DataW H := .iface "*errors.errorString" (.ptr (.agg [.lit (.string [97, 98, 111, 118, 101, 32, 97, 32, 108, 105, 109, 105, 116])]))
def laid_copse_api_ErrShort {H : Type} : DataW H := .iface "*errors.errorString" (.ptr (.agg [.lit (.string [115, 111, 109, 101, 116, 104, 105, 110, 103, 32, 105, 115, 32, 109, 105, 115, 115, 105, 110, 103])]))
def laid_copse_api_ErrTwice {H : Type} : DataW H := .iface "*errors.errorString" (.ptr (.agg [.lit (.string [116, 104, 101, 114, 101, 32, 116, 119, 105, 99, 101])]))
def laid_copse_api_ErrLost {H : Type} : DataW H := .iface "*errors.errorString" (.ptr (.agg [.lit (.string [110, 111, 116, 32, 116, 104, 101, 114, 101])]))
def laid_copse_api_ErrFull {H : Type} : DataW H := .iface "*errors.errorString" (.ptr (.agg [.lit (.string [110, 111, 32, 114, 111, 111, 109, 32, 111, 110, 32, 116, 104, 101, 32, 100, 101, 118, 105, 99, 101])]))
def laid_copse_api_ErrDead {H : Type} : DataW H := .iface "*errors.errorString" (.ptr (.agg [.lit (.string [116, 104, 101, 32, 112, 111, 119, 101, 114, 32, 104, 97, 115, 32, 102, 97, 105, 108, 101, 100])]))
def laid_copse_api_ErrCorrupt {H : Type} : DataW H := .iface "*errors.errorString" (.ptr (.agg [.lit (.string [110, 111, 116, 32, 97, 32, 115, 116, 111, 114, 101])]))
def laid_copse_api_ErrStatus {H : Type} : DataW H := .iface "*errors.errorString" (.ptr (.agg [.lit (.string [110, 111, 116, 32, 110, 111, 119])]))
def laid_copse_api_ErrTxid {H : Type} : DataW H := .iface "*errors.errorString" (.ptr (.agg [.lit (.string [110, 111, 32, 102, 117, 114, 116, 104, 101, 114, 32, 116, 114, 97, 110, 115, 97, 99, 116, 105, 111, 110, 32, 104, 97, 115, 32, 97, 32, 110, 117, 109, 98, 101, 114])]))
def laid_copse_api_ErrOrder {H : Type} : DataW H := .iface "*errors.errorString" (.ptr (.agg [.lit (.string [110, 111, 116, 32, 105, 110, 32, 111, 114, 100, 101, 114])]))
def laid_copse_api_ErrKind {H : Type} : DataW H := .iface "*errors.errorString" (.ptr (.agg [.lit (.string [111, 102, 32, 97, 110, 111, 116, 104, 101, 114, 32, 107, 105, 110, 100])]))
def laid_unicode_utf8_acceptRanges {H : Type} : DataW H := .agg [.agg [.lit (.int .u8 128), .lit (.int .u8 191)], .agg [.lit (.int .u8 160), .lit (.int .u8 191)], .agg [.lit (.int .u8 128), .lit (.int .u8 159)], .agg [.lit (.int .u8 144), .lit (.int .u8 191)], .agg [.lit (.int .u8 128), .lit (.int .u8 143)], .agg [.lit (.int .u8 0), .lit (.int .u8 0)], .agg [.lit (.int .u8 0), .lit (.int .u8 0)], .agg [.lit (.int .u8 0), .lit (.int .u8 0)], .agg [.lit (.int .u8 0), .lit (.int .u8 0)], .agg [.lit (.int .u8 0), .lit (.int .u8 0)], .agg [.lit (.int .u8 0), .lit (.int .u8 0)], .agg [.lit (.int .u8 0), .lit (.int .u8 0)], .agg [.lit (.int .u8 0), .lit (.int .u8 0)], .agg [.lit (.int .u8 0), .lit (.int .u8 0)], .agg [.lit (.int .u8 0), .lit (.int .u8 0)], .agg [.lit (.int .u8 0), .lit (.int .u8 0)]]
/-- One of Go's own tables, pinned by name: the form's constant. -/
def laid_unicode_utf8_first : DataW Unit := Go.Pinned.utf8First

/-- 'copselaw2.TupleUnpacks': WHATEVER THE INPUT: true; the input reads as it did. -/
def tupleUnpacksSpec : ChangeSpec := { name := "tupleUnpacks", fn := fun _ => fun
  | [d] => { results := [.lit (.bool true)], args := [d] }
  | _ => none }
def tupleUnpacksRow : OpenClaim := { program := "ythlolfncdjaniaadoor", sum := "995339baa7ca350b75d7d49b21d4a16382cddc308ae2a18294f1663fe853d0b7", func := "copse/copselaw2.TupleUnpacks", spec := "tupleUnpacks", inPlace := ["internal/bytealg.IndexByteString", "internal/abi.NoEscape", "internal/bytealg.CountString", "internal/bytealg.IndexString"], unfollowed := true, recurses := true, named := ["copse/api.ErrText", "copse/api.ErrMany", "copse/api.ErrArg", "internal/bytealg.MaxLen", "copse/api.ErrShort", "copse/api.ErrTwice", "copse/api.ErrLost", "copse/api.ErrFull", "copse/api.ErrDead", "copse/api.ErrCorrupt", "copse/api.ErrStatus", "copse/api.ErrTxid", "copse/api.ErrOrder", "copse/api.ErrKind"], apart := false, laid := [("copse/api.ErrArg", laid_copse_api_ErrArg), ("copse/api.ErrText", laid_copse_api_ErrText), ("copse/api.ErrMany", laid_copse_api_ErrMany), ("copse/api.ErrShort", laid_copse_api_ErrShort), ("copse/api.ErrTwice", laid_copse_api_ErrTwice), ("copse/api.ErrLost", laid_copse_api_ErrLost), ("copse/api.ErrFull", laid_copse_api_ErrFull), ("copse/api.ErrDead", laid_copse_api_ErrDead), ("copse/api.ErrCorrupt", laid_copse_api_ErrCorrupt), ("copse/api.ErrStatus", laid_copse_api_ErrStatus), ("copse/api.ErrTxid", laid_copse_api_ErrTxid), ("copse/api.ErrOrder", laid_copse_api_ErrOrder), ("copse/api.ErrKind", laid_copse_api_ErrKind)] }
def TupleUnpacksSaid : Prop := tupleUnpacksRow.holds Tryd.pinned (OpenSpec.ofChange tupleUnpacksSpec)

/-- ITS FALSE NEIGHBOUR: 'it returns false'. Refute it at one input. -/
def tupleUnpacksWrong : ChangeSpec := { name := "tupleUnpacks", fn := fun _ => fun
  | [d] => { results := [.lit (.bool false)], args := [d] }
  | _ => none }
def TupleUnpacksWrongFalsely : Prop := tupleUnpacksRow.holds Tryd.pinned (OpenSpec.ofChange tupleUnpacksWrong)

/-- 'copselaw2.TuplePrefix': WHATEVER THE INPUT: true; the input reads as it did. -/
def tuplePrefixSpec : ChangeSpec := { name := "tuplePrefix", fn := fun _ => fun
  | [d] => { results := [.lit (.bool true)], args := [d] }
  | _ => none }
def tuplePrefixRow : OpenClaim := { program := "ythlolfncdjaniaadoor", sum := "995339baa7ca350b75d7d49b21d4a16382cddc308ae2a18294f1663fe853d0b7", func := "copse/copselaw2.TuplePrefix", spec := "tuplePrefix", inPlace := ["internal/bytealg.CountString", "internal/bytealg.IndexByteString", "internal/bytealg.IndexString", "internal/abi.NoEscape", "internal/bytealg.MakeNoZero"], recurses := true, named := ["copse/api.ErrMany", "copse/api.ErrArg", "internal/bytealg.MaxLen", "unicode/utf8.first", "unicode/utf8.acceptRanges"], loops := true, apart := false, laid := [("unicode/utf8.acceptRanges", laid_unicode_utf8_acceptRanges), ("copse/api.ErrArg", laid_copse_api_ErrArg), ("copse/api.ErrMany", laid_copse_api_ErrMany), ("unicode/utf8.first", laid_unicode_utf8_first)] }
def TuplePrefixSaid : Prop := tuplePrefixRow.holds Tryd.pinned (OpenSpec.ofChange tuplePrefixSpec)

/-- ITS FALSE NEIGHBOUR: 'it returns false'. Refute it at one input. -/
def tuplePrefixWrong : ChangeSpec := { name := "tuplePrefix", fn := fun _ => fun
  | [d] => { results := [.lit (.bool false)], args := [d] }
  | _ => none }
def TuplePrefixWrongFalsely : Prop := tuplePrefixRow.holds Tryd.pinned (OpenSpec.ofChange tuplePrefixWrong)

/-- 'copselaw2.TupleOrder': WHATEVER THE INPUT: true; the input reads as it did. -/
def tupleOrderSpec : ChangeSpec := { name := "tupleOrder", fn := fun _ => fun
  | [d] => { results := [.lit (.bool true)], args := [d] }
  | _ => none }
def tupleOrderRow : OpenClaim := { program := "ythlolfncdjaniaadoor", sum := "995339baa7ca350b75d7d49b21d4a16382cddc308ae2a18294f1663fe853d0b7", func := "copse/copselaw2.TupleOrder", spec := "tupleOrder", inPlace := ["internal/bytealg.CountString", "internal/bytealg.IndexByteString", "internal/bytealg.IndexString", "internal/bytealg.abigen_runtime_cmpstring", "internal/abi.NoEscape", "internal/bytealg.MakeNoZero"], recurses := true, named := ["copse/api.ErrMany", "copse/api.ErrArg", "internal/bytealg.MaxLen", "unicode/utf8.first", "unicode/utf8.acceptRanges"], loops := true, apart := false, laid := [("unicode/utf8.acceptRanges", laid_unicode_utf8_acceptRanges), ("copse/api.ErrArg", laid_copse_api_ErrArg), ("copse/api.ErrMany", laid_copse_api_ErrMany), ("unicode/utf8.first", laid_unicode_utf8_first)] }
def TupleOrderSaid : Prop := tupleOrderRow.holds Tryd.pinned (OpenSpec.ofChange tupleOrderSpec)

/-- ITS FALSE NEIGHBOUR: 'it returns false'. Refute it at one input. -/
def tupleOrderWrong : ChangeSpec := { name := "tupleOrder", fn := fun _ => fun
  | [d] => { results := [.lit (.bool false)], args := [d] }
  | _ => none }
def TupleOrderWrongFalsely : Prop := tupleOrderRow.holds Tryd.pinned (OpenSpec.ofChange tupleOrderWrong)

/-- 'copselaw2.TupleBack': WHATEVER THE INPUT: true; the input reads as it did. -/
def tupleBackSpec : ChangeSpec := { name := "tupleBack", fn := fun _ => fun
  | [d] => { results := [.lit (.bool true)], args := [d] }
  | _ => none }
def tupleBackRow : OpenClaim := { program := "ythlolfncdjaniaadoor", sum := "995339baa7ca350b75d7d49b21d4a16382cddc308ae2a18294f1663fe853d0b7", func := "copse/copselaw2.TupleBack", spec := "tupleBack", inPlace := ["internal/bytealg.CountString", "internal/bytealg.IndexByteString", "internal/bytealg.IndexString", "internal/abi.NoEscape", "internal/bytealg.MakeNoZero"], unfollowed := true, recurses := true, named := ["copse/api.ErrMany", "copse/api.ErrArg", "internal/bytealg.MaxLen", "unicode/utf8.first", "unicode/utf8.acceptRanges", "copse/api.ErrText"], loops := true, apart := false, laid := [("unicode/utf8.acceptRanges", laid_unicode_utf8_acceptRanges), ("copse/api.ErrArg", laid_copse_api_ErrArg), ("copse/api.ErrText", laid_copse_api_ErrText), ("copse/api.ErrMany", laid_copse_api_ErrMany), ("unicode/utf8.first", laid_unicode_utf8_first)] }
def TupleBackSaid : Prop := tupleBackRow.holds Tryd.pinned (OpenSpec.ofChange tupleBackSpec)

/-- ITS FALSE NEIGHBOUR: 'it returns false'. Refute it at one input. -/
def tupleBackWrong : ChangeSpec := { name := "tupleBack", fn := fun _ => fun
  | [d] => { results := [.lit (.bool false)], args := [d] }
  | _ => none }
def TupleBackWrongFalsely : Prop := tupleBackRow.holds Tryd.pinned (OpenSpec.ofChange tupleBackWrong)

/-- 'copselaw2.TupleOnly': WHATEVER THE INPUT: true; the input reads as it did. -/
def tupleOnlySpec : ChangeSpec := { name := "tupleOnly", fn := fun _ => fun
  | [d] => { results := [.lit (.bool true)], args := [d] }
  | _ => none }
def tupleOnlyRow : OpenClaim := { program := "ythlolfncdjaniaadoor", sum := "995339baa7ca350b75d7d49b21d4a16382cddc308ae2a18294f1663fe853d0b7", func := "copse/copselaw2.TupleOnly", spec := "tupleOnly", inPlace := ["internal/bytealg.CountString", "internal/bytealg.IndexByteString", "internal/bytealg.IndexString", "internal/abi.NoEscape", "internal/bytealg.MakeNoZero"], unfollowed := true, recurses := true, named := ["copse/api.ErrMany", "copse/api.ErrArg", "internal/bytealg.MaxLen", "unicode/utf8.first", "unicode/utf8.acceptRanges", "copse/api.ErrText", "copse/api.ErrShort", "copse/api.ErrTwice", "copse/api.ErrLost", "copse/api.ErrFull", "copse/api.ErrDead", "copse/api.ErrCorrupt", "copse/api.ErrStatus", "copse/api.ErrTxid", "copse/api.ErrOrder", "copse/api.ErrKind"], apart := false, laid := [("unicode/utf8.acceptRanges", laid_unicode_utf8_acceptRanges), ("copse/api.ErrArg", laid_copse_api_ErrArg), ("copse/api.ErrText", laid_copse_api_ErrText), ("copse/api.ErrMany", laid_copse_api_ErrMany), ("copse/api.ErrShort", laid_copse_api_ErrShort), ("copse/api.ErrTwice", laid_copse_api_ErrTwice), ("copse/api.ErrLost", laid_copse_api_ErrLost), ("copse/api.ErrFull", laid_copse_api_ErrFull), ("copse/api.ErrDead", laid_copse_api_ErrDead), ("copse/api.ErrCorrupt", laid_copse_api_ErrCorrupt), ("copse/api.ErrStatus", laid_copse_api_ErrStatus), ("copse/api.ErrTxid", laid_copse_api_ErrTxid), ("copse/api.ErrOrder", laid_copse_api_ErrOrder), ("copse/api.ErrKind", laid_copse_api_ErrKind), ("unicode/utf8.first", laid_unicode_utf8_first)] }
def TupleOnlySaid : Prop := tupleOnlyRow.holds Tryd.pinned (OpenSpec.ofChange tupleOnlySpec)

/-- ITS FALSE NEIGHBOUR: 'it returns false'. Refute it at one input. -/
def tupleOnlyWrong : ChangeSpec := { name := "tupleOnly", fn := fun _ => fun
  | [d] => { results := [.lit (.bool false)], args := [d] }
  | _ => none }
def TupleOnlyWrongFalsely : Prop := tupleOnlyRow.holds Tryd.pinned (OpenSpec.ofChange tupleOnlyWrong)

/-- 'copselaw2.TupleMemory': WHATEVER THE INPUT: true; the input reads as it did. -/
def tupleMemorySpec : ChangeSpec := { name := "tupleMemory", fn := fun _ => fun
  | [d] => { results := [.lit (.bool true)], args := [d] }
  | _ => none }
def tupleMemoryRow : OpenClaim := { program := "ythlolfncdjaniaadoor", sum := "995339baa7ca350b75d7d49b21d4a16382cddc308ae2a18294f1663fe853d0b7", func := "copse/copselaw2.TupleMemory", spec := "tupleMemory", inPlace := ["internal/bytealg.CountString", "internal/bytealg.IndexByteString", "internal/bytealg.IndexString", "internal/abi.NoEscape", "internal/bytealg.MakeNoZero", "internal/bytealg.abigen_runtime_cmpstring"], unfollowed := true, recurses := true, named := ["copse/api.ErrMany", "copse/api.ErrArg", "internal/bytealg.MaxLen", "unicode/utf8.first", "unicode/utf8.acceptRanges", "copse/api.ErrText"], loops := true, apart := false, laid := [("unicode/utf8.acceptRanges", laid_unicode_utf8_acceptRanges), ("copse/api.ErrArg", laid_copse_api_ErrArg), ("copse/api.ErrText", laid_copse_api_ErrText), ("copse/api.ErrMany", laid_copse_api_ErrMany), ("unicode/utf8.first", laid_unicode_utf8_first)] }
def TupleMemorySaid : Prop := tupleMemoryRow.holds Tryd.pinned (OpenSpec.ofChange tupleMemorySpec)

/-- ITS FALSE NEIGHBOUR: 'it returns false'. Refute it at one input. -/
def tupleMemoryWrong : ChangeSpec := { name := "tupleMemory", fn := fun _ => fun
  | [d] => { results := [.lit (.bool false)], args := [d] }
  | _ => none }
def TupleMemoryWrongFalsely : Prop := tupleMemoryRow.holds Tryd.pinned (OpenSpec.ofChange tupleMemoryWrong)

/- THE SECOND FORM. 'bulk': how many values and letters a reading holds, each counted each time it is reached (what is shared counts as often as it is met; a slice's spare places count too). A statement '..UptoSaid' is the law's where the arguments, and the package variables that the reading takes, are together of bulk at most 1048576: NARROWER than '..Said'. Prove '..Said' where nothing that the law and all that it calls make is longer than what came in: it says more and counts as full. Else prove '..UptoSaid'. A law counts once. -/
mutual
def uptoBulk {H : Type} : DataW H → Nat
  | .lit (.string bytes) => bytes.length + 1
  | .lit _ => 1
  | .nil => 1
  | .ptr d => uptoBulk d + 1
  | .slice elems spare => uptoBulkAll elems + uptoBulkAll spare + 1
  | .agg parts => uptoBulkAll parts + 1
  | .iface _ d => uptoBulk d + 1
  | .map entries => uptoBulkEntries entries + 1
  | .held _ => 1
def uptoBulkAll {H : Type} : List (DataW H) → Nat
  | [] => 0
  | d :: r => uptoBulk d + uptoBulkAll r
def uptoBulkEntries {H : Type} : List (Lit × DataW H) → Nat
  | [] => 0
  | x :: r => uptoBulkEntry x + uptoBulkEntries r
def uptoBulkEntry {H : Type} : Lit × DataW H → Nat
  | (.string bytes, d) => bytes.length + uptoBulk d + 1
  | (_, d) => uptoBulk d + 1
 end
def uptoSmall : (H : Type) → List (DataW H) → Bool := fun _ ds => decide (uptoBulkAll ds ≤ 1048576)
def OpenSpec.upto (s : _root_.Go.ChangeSpec) : _root_.Go.OpenSpec := { _root_.Go.OpenSpec.ofChange s with cond := some uptoSmall }

/-- 'copselaw2.TupleUnpacks', WHERE WHAT IT READS IS OF BULK AT MOST 1048576: true; the input reads as it did. -/
def tupleUnpacksUptoRow : OpenClaim := { program := "ythlolfncdjaniaadoor", sum := "995339baa7ca350b75d7d49b21d4a16382cddc308ae2a18294f1663fe853d0b7", func := "copse/copselaw2.TupleUnpacks", spec := "tupleUnpacks", inPlace := ["internal/bytealg.IndexByteString", "internal/abi.NoEscape", "internal/bytealg.CountString", "internal/bytealg.IndexString"], unfollowed := true, recurses := true, named := ["copse/api.ErrText", "copse/api.ErrMany", "copse/api.ErrArg", "internal/bytealg.MaxLen", "copse/api.ErrShort", "copse/api.ErrTwice", "copse/api.ErrLost", "copse/api.ErrFull", "copse/api.ErrDead", "copse/api.ErrCorrupt", "copse/api.ErrStatus", "copse/api.ErrTxid", "copse/api.ErrOrder", "copse/api.ErrKind"], apart := false, laid := [("copse/api.ErrArg", laid_copse_api_ErrArg), ("copse/api.ErrText", laid_copse_api_ErrText), ("copse/api.ErrMany", laid_copse_api_ErrMany), ("copse/api.ErrShort", laid_copse_api_ErrShort), ("copse/api.ErrTwice", laid_copse_api_ErrTwice), ("copse/api.ErrLost", laid_copse_api_ErrLost), ("copse/api.ErrFull", laid_copse_api_ErrFull), ("copse/api.ErrDead", laid_copse_api_ErrDead), ("copse/api.ErrCorrupt", laid_copse_api_ErrCorrupt), ("copse/api.ErrStatus", laid_copse_api_ErrStatus), ("copse/api.ErrTxid", laid_copse_api_ErrTxid), ("copse/api.ErrOrder", laid_copse_api_ErrOrder), ("copse/api.ErrKind", laid_copse_api_ErrKind)], narrowed := true }
def TupleUnpacksUptoSaid : Prop := tupleUnpacksUptoRow.holds Tryd.pinned (OpenSpec.upto tupleUnpacksSpec)

/-- 'copselaw2.TuplePrefix', WHERE WHAT IT READS IS OF BULK AT MOST 1048576: true; the input reads as it did. -/
def tuplePrefixUptoRow : OpenClaim := { program := "ythlolfncdjaniaadoor", sum := "995339baa7ca350b75d7d49b21d4a16382cddc308ae2a18294f1663fe853d0b7", func := "copse/copselaw2.TuplePrefix", spec := "tuplePrefix", inPlace := ["internal/bytealg.CountString", "internal/bytealg.IndexByteString", "internal/bytealg.IndexString", "internal/abi.NoEscape", "internal/bytealg.MakeNoZero"], recurses := true, named := ["copse/api.ErrMany", "copse/api.ErrArg", "internal/bytealg.MaxLen", "unicode/utf8.first", "unicode/utf8.acceptRanges"], loops := true, apart := false, laid := [("unicode/utf8.acceptRanges", laid_unicode_utf8_acceptRanges), ("copse/api.ErrArg", laid_copse_api_ErrArg), ("copse/api.ErrMany", laid_copse_api_ErrMany), ("unicode/utf8.first", laid_unicode_utf8_first)], narrowed := true }
def TuplePrefixUptoSaid : Prop := tuplePrefixUptoRow.holds Tryd.pinned (OpenSpec.upto tuplePrefixSpec)

/-- 'copselaw2.TupleOrder', WHERE WHAT IT READS IS OF BULK AT MOST 1048576: true; the input reads as it did. -/
def tupleOrderUptoRow : OpenClaim := { program := "ythlolfncdjaniaadoor", sum := "995339baa7ca350b75d7d49b21d4a16382cddc308ae2a18294f1663fe853d0b7", func := "copse/copselaw2.TupleOrder", spec := "tupleOrder", inPlace := ["internal/bytealg.CountString", "internal/bytealg.IndexByteString", "internal/bytealg.IndexString", "internal/bytealg.abigen_runtime_cmpstring", "internal/abi.NoEscape", "internal/bytealg.MakeNoZero"], recurses := true, named := ["copse/api.ErrMany", "copse/api.ErrArg", "internal/bytealg.MaxLen", "unicode/utf8.first", "unicode/utf8.acceptRanges"], loops := true, apart := false, laid := [("unicode/utf8.acceptRanges", laid_unicode_utf8_acceptRanges), ("copse/api.ErrArg", laid_copse_api_ErrArg), ("copse/api.ErrMany", laid_copse_api_ErrMany), ("unicode/utf8.first", laid_unicode_utf8_first)], narrowed := true }
def TupleOrderUptoSaid : Prop := tupleOrderUptoRow.holds Tryd.pinned (OpenSpec.upto tupleOrderSpec)

/-- 'copselaw2.TupleBack', WHERE WHAT IT READS IS OF BULK AT MOST 1048576: true; the input reads as it did. -/
def tupleBackUptoRow : OpenClaim := { program := "ythlolfncdjaniaadoor", sum := "995339baa7ca350b75d7d49b21d4a16382cddc308ae2a18294f1663fe853d0b7", func := "copse/copselaw2.TupleBack", spec := "tupleBack", inPlace := ["internal/bytealg.CountString", "internal/bytealg.IndexByteString", "internal/bytealg.IndexString", "internal/abi.NoEscape", "internal/bytealg.MakeNoZero"], unfollowed := true, recurses := true, named := ["copse/api.ErrMany", "copse/api.ErrArg", "internal/bytealg.MaxLen", "unicode/utf8.first", "unicode/utf8.acceptRanges", "copse/api.ErrText"], loops := true, apart := false, laid := [("unicode/utf8.acceptRanges", laid_unicode_utf8_acceptRanges), ("copse/api.ErrArg", laid_copse_api_ErrArg), ("copse/api.ErrText", laid_copse_api_ErrText), ("copse/api.ErrMany", laid_copse_api_ErrMany), ("unicode/utf8.first", laid_unicode_utf8_first)], narrowed := true }
def TupleBackUptoSaid : Prop := tupleBackUptoRow.holds Tryd.pinned (OpenSpec.upto tupleBackSpec)

/-- 'copselaw2.TupleOnly', WHERE WHAT IT READS IS OF BULK AT MOST 1048576: true; the input reads as it did. -/
def tupleOnlyUptoRow : OpenClaim := { program := "ythlolfncdjaniaadoor", sum := "995339baa7ca350b75d7d49b21d4a16382cddc308ae2a18294f1663fe853d0b7", func := "copse/copselaw2.TupleOnly", spec := "tupleOnly", inPlace := ["internal/bytealg.CountString", "internal/bytealg.IndexByteString", "internal/bytealg.IndexString", "internal/abi.NoEscape", "internal/bytealg.MakeNoZero"], unfollowed := true, recurses := true, named := ["copse/api.ErrMany", "copse/api.ErrArg", "internal/bytealg.MaxLen", "unicode/utf8.first", "unicode/utf8.acceptRanges", "copse/api.ErrText", "copse/api.ErrShort", "copse/api.ErrTwice", "copse/api.ErrLost", "copse/api.ErrFull", "copse/api.ErrDead", "copse/api.ErrCorrupt", "copse/api.ErrStatus", "copse/api.ErrTxid", "copse/api.ErrOrder", "copse/api.ErrKind"], apart := false, laid := [("unicode/utf8.acceptRanges", laid_unicode_utf8_acceptRanges), ("copse/api.ErrArg", laid_copse_api_ErrArg), ("copse/api.ErrText", laid_copse_api_ErrText), ("copse/api.ErrMany", laid_copse_api_ErrMany), ("copse/api.ErrShort", laid_copse_api_ErrShort), ("copse/api.ErrTwice", laid_copse_api_ErrTwice), ("copse/api.ErrLost", laid_copse_api_ErrLost), ("copse/api.ErrFull", laid_copse_api_ErrFull), ("copse/api.ErrDead", laid_copse_api_ErrDead), ("copse/api.ErrCorrupt", laid_copse_api_ErrCorrupt), ("copse/api.ErrStatus", laid_copse_api_ErrStatus), ("copse/api.ErrTxid", laid_copse_api_ErrTxid), ("copse/api.ErrOrder", laid_copse_api_ErrOrder), ("copse/api.ErrKind", laid_copse_api_ErrKind), ("unicode/utf8.first", laid_unicode_utf8_first)], narrowed := true }
def TupleOnlyUptoSaid : Prop := tupleOnlyUptoRow.holds Tryd.pinned (OpenSpec.upto tupleOnlySpec)

/-- 'copselaw2.TupleMemory', WHERE WHAT IT READS IS OF BULK AT MOST 1048576: true; the input reads as it did. -/
def tupleMemoryUptoRow : OpenClaim := { program := "ythlolfncdjaniaadoor", sum := "995339baa7ca350b75d7d49b21d4a16382cddc308ae2a18294f1663fe853d0b7", func := "copse/copselaw2.TupleMemory", spec := "tupleMemory", inPlace := ["internal/bytealg.CountString", "internal/bytealg.IndexByteString", "internal/bytealg.IndexString", "internal/abi.NoEscape", "internal/bytealg.MakeNoZero", "internal/bytealg.abigen_runtime_cmpstring"], unfollowed := true, recurses := true, named := ["copse/api.ErrMany", "copse/api.ErrArg", "internal/bytealg.MaxLen", "unicode/utf8.first", "unicode/utf8.acceptRanges", "copse/api.ErrText"], loops := true, apart := false, laid := [("unicode/utf8.acceptRanges", laid_unicode_utf8_acceptRanges), ("copse/api.ErrArg", laid_copse_api_ErrArg), ("copse/api.ErrText", laid_copse_api_ErrText), ("copse/api.ErrMany", laid_copse_api_ErrMany), ("unicode/utf8.first", laid_unicode_utf8_first)], narrowed := true }
def TupleMemoryUptoSaid : Prop := tupleMemoryUptoRow.holds Tryd.pinned (OpenSpec.upto tupleMemorySpec)

end Rows
end Go.Proofs.YthlolfncdjaniaaDoor
