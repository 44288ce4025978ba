/-
  DERIVED. GIVEN WITH THE SEED: THE CARDS: each row of YtgamhdbcejkllaaDoorRows.lean that lists a variable, with what it lists TIED to the program's text (the seventh form; the later family's looks); each row that meets fmt, with fmt's text TOLD by the authors' own Lean function (tested against real Go, not proved from fmt's source: count such statements apart). THE CARD IS WHAT COUNTS. Prove the row's statement (the work); the ties are given (YtgamhdbcejkllaaDoorTie.lean); close each card by the builder's one call (the guide's Derived/Test/ToyasCard.lean, 'card_holds'). Laid BY PROGRAM, IN A SANDBOX (cutbox-door.mjs). By AI agents, Wed Nov 11 2026. No macro, syntax, notation, axiom, sorry.
-/
import Derived.Test.YtgamhdbcejkllaaDoorRows
import GoSem.ClaimSeven
namespace Go.Proofs.YtgamhdbcejkllaaDoor
namespace Rows

/-- THE TIED CARD OF 'loftblocklaw10.ReevingAdds'. -/
def reevingAddsCard : Claim7 := { stood := { row := reevingAddsRow, standIns := [], harness := (true, "c054576177e65caabbfcb332e3856d2dccf59ec2d98eb7a8c608002cfa36d315"), looks := false }, kinds := [], alts := [], laidByText := true, laidKinds := [.data, .data, .data], laidTests := true, laidLooks := .later }
def ReevingAddsCardSaid : Prop := Claim7.holds Tryd.pinned (.plain (OpenSpec.ofChange reevingAddsSpec)) reevingAddsCard

/-- THE TIED CARD OF 'loftblocklaw10.ReevingForms'. -/
def reevingFormsCard : Claim7 := { stood := { row := reevingFormsRow, standIns := [], harness := (true, "c054576177e65caabbfcb332e3856d2dccf59ec2d98eb7a8c608002cfa36d315"), looks := false }, kinds := [], alts := [], laidByText := true, laidKinds := [.data, .data, .data], laidTests := true, laidLooks := .later }
def ReevingFormsCardSaid : Prop := Claim7.holds Tryd.pinned (.plain (OpenSpec.ofChange reevingFormsSpec)) reevingFormsCard

/-- THE TIED CARD OF 'loftblocklaw10.ReevingTurned'. -/
def reevingTurnedCard : Claim7 := { stood := { row := reevingTurnedRow, standIns := [], harness := (true, "c054576177e65caabbfcb332e3856d2dccf59ec2d98eb7a8c608002cfa36d315"), looks := false }, kinds := [], alts := [], laidByText := true, laidKinds := [.data, .data, .data], laidTests := true, laidLooks := .later }
def ReevingTurnedCardSaid : Prop := Claim7.holds Tryd.pinned (.plain (OpenSpec.ofChange reevingTurnedSpec)) reevingTurnedCard

/-- THE TIED CARD OF 'loftblocklaw10.ReevingPulls'. -/
def reevingPullsCard : Claim7 := { stood := { row := reevingPullsRow, standIns := [], harness := (true, "c054576177e65caabbfcb332e3856d2dccf59ec2d98eb7a8c608002cfa36d315"), looks := false }, kinds := [], alts := [], laidByText := true, laidKinds := [.data, .data, .data], laidTests := true, laidLooks := .later }
def ReevingPullsCardSaid : Prop := Claim7.holds Tryd.pinned (.plain (OpenSpec.ofChange reevingPullsSpec)) reevingPullsCard

/-- THE TIED CARD OF 'loftblocklaw10.ReevingSheaves'. -/
def reevingSheavesCard : Claim7 := { stood := { row := reevingSheavesRow, standIns := [], harness := (true, "c054576177e65caabbfcb332e3856d2dccf59ec2d98eb7a8c608002cfa36d315"), looks := false }, kinds := [], alts := [], laidByText := true, laidKinds := [.data, .data, .data], laidTests := true, laidLooks := .later }
def ReevingSheavesCardSaid : Prop := Claim7.holds Tryd.pinned (.plain (OpenSpec.ofChange reevingSheavesSpec)) reevingSheavesCard

/-- THE SECOND FORM's CARD OF 'loftblocklaw10.ReevingAdds'. -/
def reevingAddsUptoCard : Claim7 := { stood := { row := reevingAddsUptoRow, standIns := [], harness := (true, "c054576177e65caabbfcb332e3856d2dccf59ec2d98eb7a8c608002cfa36d315"), looks := false }, kinds := [], alts := [], laidByText := true, laidKinds := [.data, .data, .data], laidTests := true, laidLooks := .later }
def ReevingAddsUptoCardSaid : Prop := Claim7.holds Tryd.pinned (.plain (OpenSpec.upto reevingAddsSpec)) reevingAddsUptoCard

/-- THE SECOND FORM's CARD OF 'loftblocklaw10.ReevingForms'. -/
def reevingFormsUptoCard : Claim7 := { stood := { row := reevingFormsUptoRow, standIns := [], harness := (true, "c054576177e65caabbfcb332e3856d2dccf59ec2d98eb7a8c608002cfa36d315"), looks := false }, kinds := [], alts := [], laidByText := true, laidKinds := [.data, .data, .data], laidTests := true, laidLooks := .later }
def ReevingFormsUptoCardSaid : Prop := Claim7.holds Tryd.pinned (.plain (OpenSpec.upto reevingFormsSpec)) reevingFormsUptoCard

/-- THE SECOND FORM's CARD OF 'loftblocklaw10.ReevingTurned'. -/
def reevingTurnedUptoCard : Claim7 := { stood := { row := reevingTurnedUptoRow, standIns := [], harness := (true, "c054576177e65caabbfcb332e3856d2dccf59ec2d98eb7a8c608002cfa36d315"), looks := false }, kinds := [], alts := [], laidByText := true, laidKinds := [.data, .data, .data], laidTests := true, laidLooks := .later }
def ReevingTurnedUptoCardSaid : Prop := Claim7.holds Tryd.pinned (.plain (OpenSpec.upto reevingTurnedSpec)) reevingTurnedUptoCard

/-- THE SECOND FORM's CARD OF 'loftblocklaw10.ReevingPulls'. -/
def reevingPullsUptoCard : Claim7 := { stood := { row := reevingPullsUptoRow, standIns := [], harness := (true, "c054576177e65caabbfcb332e3856d2dccf59ec2d98eb7a8c608002cfa36d315"), looks := false }, kinds := [], alts := [], laidByText := true, laidKinds := [.data, .data, .data], laidTests := true, laidLooks := .later }
def ReevingPullsUptoCardSaid : Prop := Claim7.holds Tryd.pinned (.plain (OpenSpec.upto reevingPullsSpec)) reevingPullsUptoCard

/-- THE SECOND FORM's CARD OF 'loftblocklaw10.ReevingSheaves'. -/
def reevingSheavesUptoCard : Claim7 := { stood := { row := reevingSheavesUptoRow, standIns := [], harness := (true, "c054576177e65caabbfcb332e3856d2dccf59ec2d98eb7a8c608002cfa36d315"), looks := false }, kinds := [], alts := [], laidByText := true, laidKinds := [.data, .data, .data], laidTests := true, laidLooks := .later }
def ReevingSheavesUptoCardSaid : Prop := Claim7.holds Tryd.pinned (.plain (OpenSpec.upto reevingSheavesSpec)) reevingSheavesUptoCard
end Rows
end Go.Proofs.YtgamhdbcejkllaaDoor
