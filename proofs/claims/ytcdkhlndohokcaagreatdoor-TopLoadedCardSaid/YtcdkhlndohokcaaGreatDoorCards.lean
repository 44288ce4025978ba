/-
  DERIVED. GIVEN WITH THE SEED: THE CARDS: each row of YtcdkhlndohokcaaGreatDoorRows.lean that lists a variable, with what it lists TIED to the program's text (the seventh form; the later family's looks); each row that meets fmt, with fmt's text TOLD by the authors' own Lean function (tested against real Go, not proved from fmt's source: count such statements apart). THE CARD IS WHAT COUNTS. Prove the row's statement (the work); the ties are given (YtcdkhlndohokcaaGreatDoorTie.lean); close each card by the builder's one call (the guide's Derived/Test/ToyasCard.lean, 'card_holds'). Laid BY PROGRAM, IN A SANDBOX (cutbox-door.mjs). By AI agents, Wed Nov 11 2026. No macro, syntax, notation, axiom, sorry.
-/
import Derived.Test.YtcdkhlndohokcaaGreatDoorRows
import GoSem.ClaimSeven
namespace Go.Proofs.YtcdkhlndohokcaaGreatDoor
namespace Rows

/-- THE TIED CARD OF 'loftblocktop.TopLoaded'. -/
def topLoadedCard : Claim7 := { stood := { row := topLoadedRow, standIns := [], harness := (true, "32f5e6c40572119d56da6a28eb62b4a3f6d1ff61075a86c7f8459a97345bd65a"), looks := false }, kinds := [], alts := [], laidByText := true, laidKinds := [.data, .data, .data], laidTests := true, laidLooks := .later }
def TopLoadedCardSaid : Prop := Claim7.holds Tryz.pinned (.plain (OpenSpec.ofChange topLoadedSpec)) topLoadedCard

/-- THE SECOND FORM's CARD OF 'loftblocktop.TopLoaded'. -/
def topLoadedUptoCard : Claim7 := { stood := { row := topLoadedUptoRow, standIns := [], harness := (true, "32f5e6c40572119d56da6a28eb62b4a3f6d1ff61075a86c7f8459a97345bd65a"), looks := false }, kinds := [], alts := [], laidByText := true, laidKinds := [.data, .data, .data], laidTests := true, laidLooks := .later }
def TopLoadedUptoCardSaid : Prop := Claim7.holds Tryz.pinned (.plain (OpenSpec.upto topLoadedSpec)) topLoadedUptoCard
end Rows
end Go.Proofs.YtcdkhlndohokcaaGreatDoor
