/-
  DERIVED. GIVEN WITH THE SEED: THE CARDS: each row of YtliehhnnfpkciaaDoorRows.lean that lists a variable, with what it lists TIED to the program's text (the seventh form; the later family's looks); each row that meets fmt, with fmt's text TOLD by the authors' own Lean function (tested against real Go, not proved from fmt's source: count such statements apart). THE CARD IS WHAT COUNTS. Prove the row's statement (the work); the ties are given (YtliehhnnfpkciaaDoorTie.lean); close each card by the builder's one call (the guide's Derived/Test/ToyasCard.lean, 'card_holds'). Laid BY PROGRAM, IN A SANDBOX (cutbox-door.mjs). By AI agents, Wed Nov 11 2026. No macro, syntax, notation, axiom, sorry.
-/
import Derived.Test.YtliehhnnfpkciaaDoorRows
import GoSem.ClaimSeven
namespace Go.Proofs.YtliehhnnfpkciaaDoor
namespace Rows

/-- THE TIED CARD OF 'loftblocklaw33.GridplanSeen'. -/
def gridplanSeenCard : Claim7 := { stood := { row := gridplanSeenRow, standIns := [], harness := (true, "e6d581ead8b47fe938bae065874e351bcaf63dd58d90afa5bcc0798b0c71348e"), looks := false }, kinds := [], alts := [], laidByText := true, laidKinds := [.data, .pinned], laidTests := true, laidLooks := .later }
def GridplanSeenCardSaid : Prop := Claim7.holds Tryd.pinned (.plain (OpenSpec.ofChange gridplanSeenSpec)) gridplanSeenCard

/-- THE TIED CARD OF 'loftblocklaw33.GridplanScales'. -/
def gridplanScalesCard : Claim7 := { stood := { row := gridplanScalesRow, standIns := [], harness := (true, "e6d581ead8b47fe938bae065874e351bcaf63dd58d90afa5bcc0798b0c71348e"), looks := false }, kinds := [], alts := [], laidByText := true, laidKinds := [.data, .pinned], laidTests := true, laidLooks := .later }
def GridplanScalesCardSaid : Prop := Claim7.holds Tryd.pinned (.plain (OpenSpec.ofChange gridplanScalesSpec)) gridplanScalesCard

/-- THE TIED CARD OF 'loftblocklaw33.GridplanLegend'. -/
def gridplanLegendCard : Claim7 := { stood := { row := gridplanLegendRow, standIns := [], harness := (true, "e6d581ead8b47fe938bae065874e351bcaf63dd58d90afa5bcc0798b0c71348e"), looks := false }, kinds := [], alts := [], laidByText := true, laidKinds := [.data, .data, .data, .data, .pinned], laidTests := true, laidLooks := .later }
def GridplanLegendCardSaid : Prop := Claim7.holds Tryd.pinned (.plain (OpenSpec.ofChange gridplanLegendSpec)) gridplanLegendCard

/-- THE TIED CARD OF 'loftblocklaw32.SectionMoves'. -/
def sectionMovesCard : Claim7 := { stood := { row := sectionMovesRow, standIns := [], harness := (true, "e6d581ead8b47fe938bae065874e351bcaf63dd58d90afa5bcc0798b0c71348e"), looks := false }, kinds := [], alts := [], laidByText := true, laidKinds := [.data, .pinned], laidTests := true, laidLooks := .later }
def SectionMovesCardSaid : Prop := Claim7.holds Tryd.pinned (.plain (OpenSpec.ofChange sectionMovesSpec)) sectionMovesCard

/-- THE TIED CARD OF 'loftblocklaw32.SectionShape'. -/
def sectionShapeCard : Claim7 := { stood := { row := sectionShapeRow, standIns := [], harness := (true, "e6d581ead8b47fe938bae065874e351bcaf63dd58d90afa5bcc0798b0c71348e"), looks := false }, kinds := [], alts := [], laidByText := true, laidKinds := [.data, .pinned], laidTests := true, laidLooks := .later }
def SectionShapeCardSaid : Prop := Claim7.holds Tryd.pinned (.plain (OpenSpec.ofChange sectionShapeSpec)) sectionShapeCard

/-- THE SECOND FORM's CARD OF 'loftblocklaw33.GridplanSeen'. -/
def gridplanSeenUptoCard : Claim7 := { stood := { row := gridplanSeenUptoRow, standIns := [], harness := (true, "e6d581ead8b47fe938bae065874e351bcaf63dd58d90afa5bcc0798b0c71348e"), looks := false }, kinds := [], alts := [], laidByText := true, laidKinds := [.data, .pinned], laidTests := true, laidLooks := .later }
def GridplanSeenUptoCardSaid : Prop := Claim7.holds Tryd.pinned (.plain (OpenSpec.upto gridplanSeenSpec)) gridplanSeenUptoCard

/-- THE SECOND FORM's CARD OF 'loftblocklaw33.GridplanScales'. -/
def gridplanScalesUptoCard : Claim7 := { stood := { row := gridplanScalesUptoRow, standIns := [], harness := (true, "e6d581ead8b47fe938bae065874e351bcaf63dd58d90afa5bcc0798b0c71348e"), looks := false }, kinds := [], alts := [], laidByText := true, laidKinds := [.data, .pinned], laidTests := true, laidLooks := .later }
def GridplanScalesUptoCardSaid : Prop := Claim7.holds Tryd.pinned (.plain (OpenSpec.upto gridplanScalesSpec)) gridplanScalesUptoCard

/-- THE SECOND FORM's CARD OF 'loftblocklaw33.GridplanLegend'. -/
def gridplanLegendUptoCard : Claim7 := { stood := { row := gridplanLegendUptoRow, standIns := [], harness := (true, "e6d581ead8b47fe938bae065874e351bcaf63dd58d90afa5bcc0798b0c71348e"), looks := false }, kinds := [], alts := [], laidByText := true, laidKinds := [.data, .data, .data, .data, .pinned], laidTests := true, laidLooks := .later }
def GridplanLegendUptoCardSaid : Prop := Claim7.holds Tryd.pinned (.plain (OpenSpec.upto gridplanLegendSpec)) gridplanLegendUptoCard

/-- THE SECOND FORM's CARD OF 'loftblocklaw32.SectionMoves'. -/
def sectionMovesUptoCard : Claim7 := { stood := { row := sectionMovesUptoRow, standIns := [], harness := (true, "e6d581ead8b47fe938bae065874e351bcaf63dd58d90afa5bcc0798b0c71348e"), looks := false }, kinds := [], alts := [], laidByText := true, laidKinds := [.data, .pinned], laidTests := true, laidLooks := .later }
def SectionMovesUptoCardSaid : Prop := Claim7.holds Tryd.pinned (.plain (OpenSpec.upto sectionMovesSpec)) sectionMovesUptoCard

/-- THE SECOND FORM's CARD OF 'loftblocklaw32.SectionShape'. -/
def sectionShapeUptoCard : Claim7 := { stood := { row := sectionShapeUptoRow, standIns := [], harness := (true, "e6d581ead8b47fe938bae065874e351bcaf63dd58d90afa5bcc0798b0c71348e"), looks := false }, kinds := [], alts := [], laidByText := true, laidKinds := [.data, .pinned], laidTests := true, laidLooks := .later }
def SectionShapeUptoCardSaid : Prop := Claim7.holds Tryd.pinned (.plain (OpenSpec.upto sectionShapeSpec)) sectionShapeUptoCard
end Rows
end Go.Proofs.YtliehhnnfpkciaaDoor
