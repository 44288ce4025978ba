/-
  DERIVED. GIVEN WITH THE SEED: THE CARDS: each row of YtgamhdbcejkllaaGreatDoorRows.lean that lists a variable, with what it lists TIED to the program's text (the seventh form; the later family's looks); each row that meets fmt, with fmt's text TOLD by the authors' own Lean function (tested against real Go, not proved from fmt's source: count such statements apart). THE CARD IS WHAT COUNTS. Prove the row's statement (the work); the ties are given (YtgamhdbcejkllaaGreatDoorTie.lean); close each card by the builder's one call (the guide's Derived/Test/ToyasCard.lean, 'card_holds'). Laid BY PROGRAM, IN A SANDBOX (cutbox-door.mjs). By AI agents, Wed Nov 11 2026. No macro, syntax, notation, axiom, sorry.
-/
import Derived.Test.YtgamhdbcejkllaaGreatDoorRows
import GoSem.ClaimSeven
namespace Go.Proofs.YtgamhdbcejkllaaGreatDoor
namespace Rows

/-- THE TIED CARD OF 'loftblocklaw10.ReevingTexts'. -/
def reevingTextsCard : Claim7 := { stood := { row := reevingTextsRow, standIns := [], harness := (true, "10d251f9a3a803e3e1b170d151186c238e384a0b9ac4567ca344bf6e771eaf4e"), looks := true }, kinds := [], alts := [], laidByText := true, laidKinds := [.data, .data, .data, .data, .sentinel, .sentinel, .pinned], laidTests := true, laidLooks := .later }
def ReevingTextsCardSaid : Prop := Claim7.holds Tryz.pinned (.plain (OpenSpec.ofChange reevingTextsSpec)) reevingTextsCard

/-- THE SECOND FORM's CARD OF 'loftblocklaw10.ReevingTexts'. -/
def reevingTextsUptoCard : Claim7 := { stood := { row := reevingTextsUptoRow, standIns := [], harness := (true, "10d251f9a3a803e3e1b170d151186c238e384a0b9ac4567ca344bf6e771eaf4e"), looks := true }, kinds := [], alts := [], laidByText := true, laidKinds := [.data, .data, .data, .data, .sentinel, .sentinel, .pinned], laidTests := true, laidLooks := .later }
def ReevingTextsUptoCardSaid : Prop := Claim7.holds Tryz.pinned (.plain (OpenSpec.upto reevingTextsSpec)) reevingTextsUptoCard
end Rows
end Go.Proofs.YtgamhdbcejkllaaGreatDoor
