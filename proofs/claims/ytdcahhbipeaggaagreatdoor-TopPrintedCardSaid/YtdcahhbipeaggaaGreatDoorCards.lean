/-
  DERIVED. GIVEN WITH THE SEED: THE CARDS: each row of YtdcahhbipeaggaaGreatDoorRows.lean that lists a variable, with what it lists TIED to the program's text (the seventh form; the later family's looks); each row that meets fmt, with fmt's text TOLD by the authors' own Lean function (tested against real Go, not proved from fmt's source: count such statements apart). THE CARD IS WHAT COUNTS. Prove the row's statement (the work); the ties are given (YtdcahhbipeaggaaGreatDoorTie.lean); close each card by the builder's one call (the guide's Derived/Test/ToyasCard.lean, 'card_holds'). Laid BY PROGRAM, IN A SANDBOX (cutbox-door.mjs). By AI agents, Wed Nov 11 2026. No macro, syntax, notation, axiom, sorry.
-/
import Derived.Test.YtdcahhbipeaggaaGreatDoorRows
import GoSem.ClaimSeven
namespace Go.Proofs.YtdcahhbipeaggaaGreatDoor
namespace Rows

/-- THE TIED CARD OF 'loftblocktop.TopPrinted'. -/
def topPrintedCard : Claim7 := { stood := { row := topPrintedRow, standIns := [], harness := (true, "d6053f607bc41893136702103b9e96b1dc57156ecb07560643bbb16ea85d0ac8"), looks := true }, kinds := [], alts := [], laidByText := true, laidKinds := [.data, .data, .data, .sentinel, .sentinel], laidTests := true, laidLooks := .later }
def TopPrintedCardSaid : Prop := Claim7.holds Tryz.pinned (.plain (OpenSpec.ofChange topPrintedSpec)) topPrintedCard

/-- THE SECOND FORM's CARD OF 'loftblocktop.TopPrinted'. -/
def topPrintedUptoCard : Claim7 := { stood := { row := topPrintedUptoRow, standIns := [], harness := (true, "d6053f607bc41893136702103b9e96b1dc57156ecb07560643bbb16ea85d0ac8"), looks := true }, kinds := [], alts := [], laidByText := true, laidKinds := [.data, .data, .data, .sentinel, .sentinel], laidTests := true, laidLooks := .later }
def TopPrintedUptoCardSaid : Prop := Claim7.holds Tryz.pinned (.plain (OpenSpec.upto topPrintedSpec)) topPrintedUptoCard
end Rows
end Go.Proofs.YtdcahhbipeaggaaGreatDoor
