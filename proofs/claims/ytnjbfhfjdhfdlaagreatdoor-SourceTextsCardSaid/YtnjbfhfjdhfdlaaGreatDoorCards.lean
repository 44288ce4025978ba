/-
  DERIVED. GIVEN WITH THE SEED: THE CARDS: each row of YtnjbfhfjdhfdlaaGreatDoorRows.lean that lists a variable, with what it lists TIED to the program's text (the seventh form; the later family's looks); each row that meets fmt, with fmt's text TOLD by the authors' own Lean function (tested against real Go, not proved from fmt's source: count such statements apart). THE CARD IS WHAT COUNTS. Prove the row's statement (the work); the ties are given (YtnjbfhfjdhfdlaaGreatDoorTie.lean); close each card by the builder's one call (the guide's Derived/Test/ToyasCard.lean, 'card_holds'). Laid BY PROGRAM, IN A SANDBOX (cutbox-door.mjs). By AI agents, Wed Nov 11 2026. No macro, syntax, notation, axiom, sorry.
-/
import Derived.Test.YtnjbfhfjdhfdlaaGreatDoorRows
import GoSem.ClaimSeven
namespace Go.Proofs.YtnjbfhfjdhfdlaaGreatDoor
namespace Rows

/-- THE TIED CARD OF 'loftblocklaw31.SourceTexts'. -/
def sourceTextsCard : Claim7 := { stood := { row := sourceTextsRow, standIns := [], harness := (true, "a07de5ccfa1781556ef7826f49788ffd054865340218af8f3e7fbb7e65b703d6"), looks := true }, kinds := [], alts := [], laidByText := true, laidKinds := [.data, .data, .data, .sentinel, .sentinel], laidTests := true, laidLooks := .later }
def SourceTextsCardSaid : Prop := Claim7.holds Tryz.pinned (.plain (OpenSpec.ofChange sourceTextsSpec)) sourceTextsCard

/-- THE TIED CARD OF 'loftblocklaw31.SourceBack'. -/
def sourceBackCard : Claim7 := { stood := { row := sourceBackRow, standIns := [], harness := (true, "a07de5ccfa1781556ef7826f49788ffd054865340218af8f3e7fbb7e65b703d6"), looks := true }, kinds := [], alts := [], laidByText := true, laidKinds := [.data, .data, .data, .sentinel, .sentinel], laidTests := true, laidLooks := .later }
def SourceBackCardSaid : Prop := Claim7.holds Tryz.pinned (.plain (OpenSpec.ofChange sourceBackSpec)) sourceBackCard

/-- THE TIED CARD OF 'loftblocklaw31.SourceTwice'. -/
def sourceTwiceCard : Claim7 := { stood := { row := sourceTwiceRow, standIns := [], harness := (true, "a07de5ccfa1781556ef7826f49788ffd054865340218af8f3e7fbb7e65b703d6"), looks := true }, kinds := [], alts := [], laidByText := true, laidKinds := [.data, .data, .data, .sentinel, .sentinel], laidTests := true, laidLooks := .later }
def SourceTwiceCardSaid : Prop := Claim7.holds Tryz.pinned (.plain (OpenSpec.ofChange sourceTwiceSpec)) sourceTwiceCard

/-- THE TIED CARD OF 'loftblocklaw31.SourceCut'. -/
def sourceCutCard : Claim7 := { stood := { row := sourceCutRow, standIns := [], harness := (true, "a07de5ccfa1781556ef7826f49788ffd054865340218af8f3e7fbb7e65b703d6"), looks := true }, kinds := [], alts := [], laidByText := true, laidKinds := [.data, .data, .data, .sentinel, .sentinel], laidTests := true, laidLooks := .later }
def SourceCutCardSaid : Prop := Claim7.holds Tryz.pinned (.plain (OpenSpec.ofChange sourceCutSpec)) sourceCutCard

/-- THE TIED CARD OF 'loftblocklaw31.SourceBlanks'. -/
def sourceBlanksCard : Claim7 := { stood := { row := sourceBlanksRow, standIns := [], harness := (true, "a07de5ccfa1781556ef7826f49788ffd054865340218af8f3e7fbb7e65b703d6"), looks := true }, kinds := [], alts := [], laidByText := true, laidKinds := [.data, .data, .data, .data, .sentinel, .sentinel, .pinned], laidTests := true, laidLooks := .later }
def SourceBlanksCardSaid : Prop := Claim7.holds Tryz.pinned (.plain (OpenSpec.ofChange sourceBlanksSpec)) sourceBlanksCard

/-- THE SECOND FORM's CARD OF 'loftblocklaw31.SourceTexts'. -/
def sourceTextsUptoCard : Claim7 := { stood := { row := sourceTextsUptoRow, standIns := [], harness := (true, "a07de5ccfa1781556ef7826f49788ffd054865340218af8f3e7fbb7e65b703d6"), looks := true }, kinds := [], alts := [], laidByText := true, laidKinds := [.data, .data, .data, .sentinel, .sentinel], laidTests := true, laidLooks := .later }
def SourceTextsUptoCardSaid : Prop := Claim7.holds Tryz.pinned (.plain (OpenSpec.upto sourceTextsSpec)) sourceTextsUptoCard

/-- THE SECOND FORM's CARD OF 'loftblocklaw31.SourceBack'. -/
def sourceBackUptoCard : Claim7 := { stood := { row := sourceBackUptoRow, standIns := [], harness := (true, "a07de5ccfa1781556ef7826f49788ffd054865340218af8f3e7fbb7e65b703d6"), looks := true }, kinds := [], alts := [], laidByText := true, laidKinds := [.data, .data, .data, .sentinel, .sentinel], laidTests := true, laidLooks := .later }
def SourceBackUptoCardSaid : Prop := Claim7.holds Tryz.pinned (.plain (OpenSpec.upto sourceBackSpec)) sourceBackUptoCard

/-- THE SECOND FORM's CARD OF 'loftblocklaw31.SourceTwice'. -/
def sourceTwiceUptoCard : Claim7 := { stood := { row := sourceTwiceUptoRow, standIns := [], harness := (true, "a07de5ccfa1781556ef7826f49788ffd054865340218af8f3e7fbb7e65b703d6"), looks := true }, kinds := [], alts := [], laidByText := true, laidKinds := [.data, .data, .data, .sentinel, .sentinel], laidTests := true, laidLooks := .later }
def SourceTwiceUptoCardSaid : Prop := Claim7.holds Tryz.pinned (.plain (OpenSpec.upto sourceTwiceSpec)) sourceTwiceUptoCard

/-- THE SECOND FORM's CARD OF 'loftblocklaw31.SourceCut'. -/
def sourceCutUptoCard : Claim7 := { stood := { row := sourceCutUptoRow, standIns := [], harness := (true, "a07de5ccfa1781556ef7826f49788ffd054865340218af8f3e7fbb7e65b703d6"), looks := true }, kinds := [], alts := [], laidByText := true, laidKinds := [.data, .data, .data, .sentinel, .sentinel], laidTests := true, laidLooks := .later }
def SourceCutUptoCardSaid : Prop := Claim7.holds Tryz.pinned (.plain (OpenSpec.upto sourceCutSpec)) sourceCutUptoCard

/-- THE SECOND FORM's CARD OF 'loftblocklaw31.SourceBlanks'. -/
def sourceBlanksUptoCard : Claim7 := { stood := { row := sourceBlanksUptoRow, standIns := [], harness := (true, "a07de5ccfa1781556ef7826f49788ffd054865340218af8f3e7fbb7e65b703d6"), looks := true }, kinds := [], alts := [], laidByText := true, laidKinds := [.data, .data, .data, .data, .sentinel, .sentinel, .pinned], laidTests := true, laidLooks := .later }
def SourceBlanksUptoCardSaid : Prop := Claim7.holds Tryz.pinned (.plain (OpenSpec.upto sourceBlanksSpec)) sourceBlanksUptoCard
end Rows
end Go.Proofs.YtnjbfhfjdhfdlaaGreatDoor
