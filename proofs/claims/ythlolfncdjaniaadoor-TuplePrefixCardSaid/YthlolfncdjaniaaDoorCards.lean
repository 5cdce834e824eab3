/-
  DERIVED. GIVEN WITH THE SEED: THE CARDS: each row of YthlolfncdjaniaaDoorRows.lean that lists a variable, with what it lists TIED to the program's text (the seventh form; the later family's looks); each row that meets fmt, with fmt's text TOLD by the authors' own Lean function (tested against real Go, not proved from fmt's source: count such statements apart). THE CARD IS WHAT COUNTS. Prove the row's statement (the work); the ties are given (YthlolfncdjaniaaDoorTie.lean); close each card by the builder's one call (the guide's Derived/Test/ToyasCard.lean, 'card_holds'). Laid BY PROGRAM, IN A SANDBOX (cutbox-door.mjs). By AI agents, Wed Nov 11 2026. No macro, syntax, notation, axiom, sorry.
-/
import Derived.Test.YthlolfncdjaniaaDoorRows
import GoSem.ClaimSeven
namespace Go.Proofs.YthlolfncdjaniaaDoor
namespace Rows

/-- THE TIED CARD OF 'copselaw2.TupleUnpacks'. -/
def tupleUnpacksCard : Claim7 := { stood := { row := tupleUnpacksRow, standIns := [], harness := (true, "1387ac4c000ea624b88134269f57e152f74a24294af5a60f64b602a2400abfb5"), looks := true }, kinds := [], alts := [], laidByText := true, laidKinds := [.sentinel, .sentinel, .sentinel, .sentinel, .sentinel, .sentinel, .sentinel, .sentinel, .sentinel, .sentinel, .sentinel, .sentinel, .sentinel], laidTests := true, laidLooks := .later }
def TupleUnpacksCardSaid : Prop := Claim7.holds Tryd.pinned (.plain (OpenSpec.ofChange tupleUnpacksSpec)) tupleUnpacksCard

/-- THE TIED CARD OF 'copselaw2.TuplePrefix'. -/
def tuplePrefixCard : Claim7 := { stood := { row := tuplePrefixRow, standIns := [], harness := (true, "1387ac4c000ea624b88134269f57e152f74a24294af5a60f64b602a2400abfb5"), looks := true }, kinds := [], alts := [], laidByText := true, laidKinds := [.data, .sentinel, .sentinel, .pinned], laidTests := true, laidLooks := .later }
def TuplePrefixCardSaid : Prop := Claim7.holds Tryd.pinned (.plain (OpenSpec.ofChange tuplePrefixSpec)) tuplePrefixCard

/-- THE TIED CARD OF 'copselaw2.TupleOrder'. -/
def tupleOrderCard : Claim7 := { stood := { row := tupleOrderRow, standIns := [], harness := (true, "1387ac4c000ea624b88134269f57e152f74a24294af5a60f64b602a2400abfb5"), looks := true }, kinds := [], alts := [], laidByText := true, laidKinds := [.data, .sentinel, .sentinel, .pinned], laidTests := true, laidLooks := .later }
def TupleOrderCardSaid : Prop := Claim7.holds Tryd.pinned (.plain (OpenSpec.ofChange tupleOrderSpec)) tupleOrderCard

/-- THE TIED CARD OF 'copselaw2.TupleBack'. -/
def tupleBackCard : Claim7 := { stood := { row := tupleBackRow, standIns := [], harness := (true, "1387ac4c000ea624b88134269f57e152f74a24294af5a60f64b602a2400abfb5"), looks := true }, kinds := [], alts := [], laidByText := true, laidKinds := [.data, .sentinel, .sentinel, .sentinel, .pinned], laidTests := true, laidLooks := .later }
def TupleBackCardSaid : Prop := Claim7.holds Tryd.pinned (.plain (OpenSpec.ofChange tupleBackSpec)) tupleBackCard

/-- THE TIED CARD OF 'copselaw2.TupleOnly'. -/
def tupleOnlyCard : Claim7 := { stood := { row := tupleOnlyRow, standIns := [], harness := (true, "1387ac4c000ea624b88134269f57e152f74a24294af5a60f64b602a2400abfb5"), looks := true }, kinds := [], alts := [], laidByText := true, laidKinds := [.data, .sentinel, .sentinel, .sentinel, .sentinel, .sentinel, .sentinel, .sentinel, .sentinel, .sentinel, .sentinel, .sentinel, .sentinel, .sentinel, .pinned], laidTests := true, laidLooks := .later }
def TupleOnlyCardSaid : Prop := Claim7.holds Tryd.pinned (.plain (OpenSpec.ofChange tupleOnlySpec)) tupleOnlyCard

/-- THE TIED CARD OF 'copselaw2.TupleMemory'. -/
def tupleMemoryCard : Claim7 := { stood := { row := tupleMemoryRow, standIns := [], harness := (true, "1387ac4c000ea624b88134269f57e152f74a24294af5a60f64b602a2400abfb5"), looks := true }, kinds := [], alts := [], laidByText := true, laidKinds := [.data, .sentinel, .sentinel, .sentinel, .pinned], laidTests := true, laidLooks := .later }
def TupleMemoryCardSaid : Prop := Claim7.holds Tryd.pinned (.plain (OpenSpec.ofChange tupleMemorySpec)) tupleMemoryCard

/-- THE SECOND FORM's CARD OF 'copselaw2.TupleUnpacks'. -/
def tupleUnpacksUptoCard : Claim7 := { stood := { row := tupleUnpacksUptoRow, standIns := [], harness := (true, "1387ac4c000ea624b88134269f57e152f74a24294af5a60f64b602a2400abfb5"), looks := true }, kinds := [], alts := [], laidByText := true, laidKinds := [.sentinel, .sentinel, .sentinel, .sentinel, .sentinel, .sentinel, .sentinel, .sentinel, .sentinel, .sentinel, .sentinel, .sentinel, .sentinel], laidTests := true, laidLooks := .later }
def TupleUnpacksUptoCardSaid : Prop := Claim7.holds Tryd.pinned (.plain (OpenSpec.upto tupleUnpacksSpec)) tupleUnpacksUptoCard

/-- THE SECOND FORM's CARD OF 'copselaw2.TuplePrefix'. -/
def tuplePrefixUptoCard : Claim7 := { stood := { row := tuplePrefixUptoRow, standIns := [], harness := (true, "1387ac4c000ea624b88134269f57e152f74a24294af5a60f64b602a2400abfb5"), looks := true }, kinds := [], alts := [], laidByText := true, laidKinds := [.data, .sentinel, .sentinel, .pinned], laidTests := true, laidLooks := .later }
def TuplePrefixUptoCardSaid : Prop := Claim7.holds Tryd.pinned (.plain (OpenSpec.upto tuplePrefixSpec)) tuplePrefixUptoCard

/-- THE SECOND FORM's CARD OF 'copselaw2.TupleOrder'. -/
def tupleOrderUptoCard : Claim7 := { stood := { row := tupleOrderUptoRow, standIns := [], harness := (true, "1387ac4c000ea624b88134269f57e152f74a24294af5a60f64b602a2400abfb5"), looks := true }, kinds := [], alts := [], laidByText := true, laidKinds := [.data, .sentinel, .sentinel, .pinned], laidTests := true, laidLooks := .later }
def TupleOrderUptoCardSaid : Prop := Claim7.holds Tryd.pinned (.plain (OpenSpec.upto tupleOrderSpec)) tupleOrderUptoCard

/-- THE SECOND FORM's CARD OF 'copselaw2.TupleBack'. -/
def tupleBackUptoCard : Claim7 := { stood := { row := tupleBackUptoRow, standIns := [], harness := (true, "1387ac4c000ea624b88134269f57e152f74a24294af5a60f64b602a2400abfb5"), looks := true }, kinds := [], alts := [], laidByText := true, laidKinds := [.data, .sentinel, .sentinel, .sentinel, .pinned], laidTests := true, laidLooks := .later }
def TupleBackUptoCardSaid : Prop := Claim7.holds Tryd.pinned (.plain (OpenSpec.upto tupleBackSpec)) tupleBackUptoCard

/-- THE SECOND FORM's CARD OF 'copselaw2.TupleOnly'. -/
def tupleOnlyUptoCard : Claim7 := { stood := { row := tupleOnlyUptoRow, standIns := [], harness := (true, "1387ac4c000ea624b88134269f57e152f74a24294af5a60f64b602a2400abfb5"), looks := true }, kinds := [], alts := [], laidByText := true, laidKinds := [.data, .sentinel, .sentinel, .sentinel, .sentinel, .sentinel, .sentinel, .sentinel, .sentinel, .sentinel, .sentinel, .sentinel, .sentinel, .sentinel, .pinned], laidTests := true, laidLooks := .later }
def TupleOnlyUptoCardSaid : Prop := Claim7.holds Tryd.pinned (.plain (OpenSpec.upto tupleOnlySpec)) tupleOnlyUptoCard

/-- THE SECOND FORM's CARD OF 'copselaw2.TupleMemory'. -/
def tupleMemoryUptoCard : Claim7 := { stood := { row := tupleMemoryUptoRow, standIns := [], harness := (true, "1387ac4c000ea624b88134269f57e152f74a24294af5a60f64b602a2400abfb5"), looks := true }, kinds := [], alts := [], laidByText := true, laidKinds := [.data, .sentinel, .sentinel, .sentinel, .pinned], laidTests := true, laidLooks := .later }
def TupleMemoryUptoCardSaid : Prop := Claim7.holds Tryd.pinned (.plain (OpenSpec.upto tupleMemorySpec)) tupleMemoryUptoCard
end Rows
end Go.Proofs.YthlolfncdjaniaaDoor
