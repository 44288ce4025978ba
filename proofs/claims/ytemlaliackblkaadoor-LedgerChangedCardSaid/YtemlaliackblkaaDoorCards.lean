/-
  DERIVED. GIVEN WITH THE SEED: THE CARDS: each row of YtemlaliackblkaaDoorRows.lean that lists a variable, with what it lists TIED to the program's text (the seventh form; the later family's looks); each row that meets fmt, with fmt's text TOLD by the authors' own Lean function (tested against real Go, not proved from fmt's source: count such statements apart). THE CARD IS WHAT COUNTS. Prove the row's statement (the work); the ties are given (YtemlaliackblkaaDoorTie.lean); close each card by the builder's one call (the guide's Derived/Test/ToyasCard.lean, 'card_holds'). Laid BY PROGRAM, IN A SANDBOX (cutbox-door.mjs). By AI agents, Wed Nov 11 2026. No macro, syntax, notation, axiom, sorry.
-/
import Derived.Test.YtemlaliackblkaaDoorRows
import GoSem.ClaimSeven
namespace Go.Proofs.YtemlaliackblkaaDoor
namespace Rows

/-- THE TIED CARD OF 'loftblocklaw48.LedgerAppends'. -/
def ledgerAppendsCard : Claim7 := { stood := { row := ledgerAppendsRow, standIns := [], harness := (true, "701f4f311f11614bfa2e4ff71bad06de6087ee51d6e059a94faf2ff0830679ab"), looks := true }, kinds := [], alts := [], laidByText := true, laidKinds := [.data, .data, .data, .data, .sentinel, .sentinel, .pinned], laidTests := true, laidLooks := .later }
def LedgerAppendsCardSaid : Prop := Claim7.holds Tryd.pinned (.plain (OpenSpec.ofChange ledgerAppendsSpec)) ledgerAppendsCard

/-- THE TIED CARD OF 'loftblocklaw48.LedgerBytes'. -/
def ledgerBytesCard : Claim7 := { stood := { row := ledgerBytesRow, standIns := [], harness := (true, "701f4f311f11614bfa2e4ff71bad06de6087ee51d6e059a94faf2ff0830679ab"), looks := true }, kinds := [], alts := [], laidByText := true, laidKinds := [.data, .data, .data, .data, .sentinel, .sentinel, .pinned], laidTests := true, laidLooks := .later }
def LedgerBytesCardSaid : Prop := Claim7.holds Tryd.pinned (.plain (OpenSpec.ofChange ledgerBytesSpec)) ledgerBytesCard

/-- THE TIED CARD OF 'loftblocklaw48.LedgerRecovers'. -/
def ledgerRecoversCard : Claim7 := { stood := { row := ledgerRecoversRow, standIns := [], harness := (true, "701f4f311f11614bfa2e4ff71bad06de6087ee51d6e059a94faf2ff0830679ab"), looks := true }, kinds := [], alts := [], laidByText := true, laidKinds := [.data, .data, .data, .data, .sentinel, .sentinel, .pinned], laidTests := true, laidLooks := .later }
def LedgerRecoversCardSaid : Prop := Claim7.holds Tryd.pinned (.plain (OpenSpec.ofChange ledgerRecoversSpec)) ledgerRecoversCard

/-- THE TIED CARD OF 'loftblocklaw48.LedgerGrows'. -/
def ledgerGrowsCard : Claim7 := { stood := { row := ledgerGrowsRow, standIns := [], harness := (true, "701f4f311f11614bfa2e4ff71bad06de6087ee51d6e059a94faf2ff0830679ab"), looks := true }, kinds := [], alts := [], laidByText := true, laidKinds := [.data, .data, .data, .data, .sentinel, .sentinel, .pinned], laidTests := true, laidLooks := .later }
def LedgerGrowsCardSaid : Prop := Claim7.holds Tryd.pinned (.plain (OpenSpec.ofChange ledgerGrowsSpec)) ledgerGrowsCard

/-- THE TIED CARD OF 'loftblocklaw48.LedgerChanged'. -/
def ledgerChangedCard : Claim7 := { stood := { row := ledgerChangedRow, standIns := [], harness := (true, "701f4f311f11614bfa2e4ff71bad06de6087ee51d6e059a94faf2ff0830679ab"), looks := true }, kinds := [], alts := [], laidByText := true, laidKinds := [.data, .data, .data, .data, .sentinel, .sentinel, .pinned], laidTests := true, laidLooks := .later }
def LedgerChangedCardSaid : Prop := Claim7.holds Tryd.pinned (.plain (OpenSpec.ofChange ledgerChangedSpec)) ledgerChangedCard

/-- THE TIED CARD OF 'loftblocklaw48.LedgerRead'. -/
def ledgerReadCard : Claim7 := { stood := { row := ledgerReadRow, standIns := [], harness := (true, "701f4f311f11614bfa2e4ff71bad06de6087ee51d6e059a94faf2ff0830679ab"), looks := true }, kinds := [], alts := [], laidByText := true, laidKinds := [.data, .data, .data, .data, .sentinel, .sentinel, .pinned], laidTests := true, laidLooks := .later }
def LedgerReadCardSaid : Prop := Claim7.holds Tryd.pinned (.plain (OpenSpec.ofChange ledgerReadSpec)) ledgerReadCard

/-- THE SECOND FORM's CARD OF 'loftblocklaw48.LedgerAppends'. -/
def ledgerAppendsUptoCard : Claim7 := { stood := { row := ledgerAppendsUptoRow, standIns := [], harness := (true, "701f4f311f11614bfa2e4ff71bad06de6087ee51d6e059a94faf2ff0830679ab"), looks := true }, kinds := [], alts := [], laidByText := true, laidKinds := [.data, .data, .data, .data, .sentinel, .sentinel, .pinned], laidTests := true, laidLooks := .later }
def LedgerAppendsUptoCardSaid : Prop := Claim7.holds Tryd.pinned (.plain (OpenSpec.upto ledgerAppendsSpec)) ledgerAppendsUptoCard

/-- THE SECOND FORM's CARD OF 'loftblocklaw48.LedgerBytes'. -/
def ledgerBytesUptoCard : Claim7 := { stood := { row := ledgerBytesUptoRow, standIns := [], harness := (true, "701f4f311f11614bfa2e4ff71bad06de6087ee51d6e059a94faf2ff0830679ab"), looks := true }, kinds := [], alts := [], laidByText := true, laidKinds := [.data, .data, .data, .data, .sentinel, .sentinel, .pinned], laidTests := true, laidLooks := .later }
def LedgerBytesUptoCardSaid : Prop := Claim7.holds Tryd.pinned (.plain (OpenSpec.upto ledgerBytesSpec)) ledgerBytesUptoCard

/-- THE SECOND FORM's CARD OF 'loftblocklaw48.LedgerRecovers'. -/
def ledgerRecoversUptoCard : Claim7 := { stood := { row := ledgerRecoversUptoRow, standIns := [], harness := (true, "701f4f311f11614bfa2e4ff71bad06de6087ee51d6e059a94faf2ff0830679ab"), looks := true }, kinds := [], alts := [], laidByText := true, laidKinds := [.data, .data, .data, .data, .sentinel, .sentinel, .pinned], laidTests := true, laidLooks := .later }
def LedgerRecoversUptoCardSaid : Prop := Claim7.holds Tryd.pinned (.plain (OpenSpec.upto ledgerRecoversSpec)) ledgerRecoversUptoCard

/-- THE SECOND FORM's CARD OF 'loftblocklaw48.LedgerGrows'. -/
def ledgerGrowsUptoCard : Claim7 := { stood := { row := ledgerGrowsUptoRow, standIns := [], harness := (true, "701f4f311f11614bfa2e4ff71bad06de6087ee51d6e059a94faf2ff0830679ab"), looks := true }, kinds := [], alts := [], laidByText := true, laidKinds := [.data, .data, .data, .data, .sentinel, .sentinel, .pinned], laidTests := true, laidLooks := .later }
def LedgerGrowsUptoCardSaid : Prop := Claim7.holds Tryd.pinned (.plain (OpenSpec.upto ledgerGrowsSpec)) ledgerGrowsUptoCard

/-- THE SECOND FORM's CARD OF 'loftblocklaw48.LedgerChanged'. -/
def ledgerChangedUptoCard : Claim7 := { stood := { row := ledgerChangedUptoRow, standIns := [], harness := (true, "701f4f311f11614bfa2e4ff71bad06de6087ee51d6e059a94faf2ff0830679ab"), looks := true }, kinds := [], alts := [], laidByText := true, laidKinds := [.data, .data, .data, .data, .sentinel, .sentinel, .pinned], laidTests := true, laidLooks := .later }
def LedgerChangedUptoCardSaid : Prop := Claim7.holds Tryd.pinned (.plain (OpenSpec.upto ledgerChangedSpec)) ledgerChangedUptoCard

/-- THE SECOND FORM's CARD OF 'loftblocklaw48.LedgerRead'. -/
def ledgerReadUptoCard : Claim7 := { stood := { row := ledgerReadUptoRow, standIns := [], harness := (true, "701f4f311f11614bfa2e4ff71bad06de6087ee51d6e059a94faf2ff0830679ab"), looks := true }, kinds := [], alts := [], laidByText := true, laidKinds := [.data, .data, .data, .data, .sentinel, .sentinel, .pinned], laidTests := true, laidLooks := .later }
def LedgerReadUptoCardSaid : Prop := Claim7.holds Tryd.pinned (.plain (OpenSpec.upto ledgerReadSpec)) ledgerReadUptoCard
end Rows
end Go.Proofs.YtemlaliackblkaaDoor
