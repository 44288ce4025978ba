/-
  DERIVED. GIVEN WITH THE SEED: THE CARDS: each row of YtliehhnnfpkciaaGreatDoorRows.lean that lists a variable, with what it lists TIED to the program's text (the seventh form; the later family's looks); each row that meets fmt, with fmt's text TOLD by the authors' own Lean function (tested against real Go, not proved from fmt's source: count such statements apart). THE CARD IS WHAT COUNTS. Prove the row's statement (the work); the ties are given (YtliehhnnfpkciaaGreatDoorTie.lean); close each card by the builder's one call (the guide's Derived/Test/ToyasCard.lean, 'card_holds'). Laid BY PROGRAM, IN A SANDBOX (cutbox-door.mjs). By AI agents, Wed Nov 11 2026. No macro, syntax, notation, axiom, sorry.
-/
import Derived.Test.YtliehhnnfpkciaaGreatDoorRows
import GoSem.ClaimSeven
namespace Go.Proofs.YtliehhnnfpkciaaGreatDoor
namespace Rows

/-- THE TIED CARD OF 'loftblocklaw33.GridplanCells'. -/
def gridplanCellsCard : Claim7 := { stood := { row := gridplanCellsRow, standIns := [], harness := (true, "e8b25c88b18c66d99747fa3779954c285a4754d260f1b6f8d6eb56fb33522b57"), looks := false }, kinds := [], alts := [], laidByText := true, laidKinds := [.data, .pinned], laidTests := true, laidLooks := .later }
def GridplanCellsCardSaid : Prop := Claim7.holds Tryz.pinned (.plain (OpenSpec.ofChange gridplanCellsSpec)) gridplanCellsCard

/-- THE TIED CARD OF 'loftblocklaw33.GridplanLegends'. -/
def gridplanLegendsCard : Claim7 := { stood := { row := gridplanLegendsRow, standIns := [], harness := (true, "e8b25c88b18c66d99747fa3779954c285a4754d260f1b6f8d6eb56fb33522b57"), looks := false }, kinds := [], alts := [], laidByText := true, laidKinds := [.data, .data, .data], laidTests := true, laidLooks := .later }
def GridplanLegendsCardSaid : Prop := Claim7.holds Tryz.pinned (.plain (OpenSpec.ofChange gridplanLegendsSpec)) gridplanLegendsCard

/-- THE SECOND FORM's CARD OF 'loftblocklaw33.GridplanCells'. -/
def gridplanCellsUptoCard : Claim7 := { stood := { row := gridplanCellsUptoRow, standIns := [], harness := (true, "e8b25c88b18c66d99747fa3779954c285a4754d260f1b6f8d6eb56fb33522b57"), looks := false }, kinds := [], alts := [], laidByText := true, laidKinds := [.data, .pinned], laidTests := true, laidLooks := .later }
def GridplanCellsUptoCardSaid : Prop := Claim7.holds Tryz.pinned (.plain (OpenSpec.upto gridplanCellsSpec)) gridplanCellsUptoCard

/-- THE SECOND FORM's CARD OF 'loftblocklaw33.GridplanLegends'. -/
def gridplanLegendsUptoCard : Claim7 := { stood := { row := gridplanLegendsUptoRow, standIns := [], harness := (true, "e8b25c88b18c66d99747fa3779954c285a4754d260f1b6f8d6eb56fb33522b57"), looks := false }, kinds := [], alts := [], laidByText := true, laidKinds := [.data, .data, .data], laidTests := true, laidLooks := .later }
def GridplanLegendsUptoCardSaid : Prop := Claim7.holds Tryz.pinned (.plain (OpenSpec.upto gridplanLegendsSpec)) gridplanLegendsUptoCard
end Rows
end Go.Proofs.YtliehhnnfpkciaaGreatDoor
