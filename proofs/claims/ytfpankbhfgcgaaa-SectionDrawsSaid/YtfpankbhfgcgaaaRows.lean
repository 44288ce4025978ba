/-
  No cell of these rows narrows 'for every input' (looked for: loops, veiled, ifaces, maps, wideKeys, modest, calm, conditions, laid).
  DERIVED. THE GIVEN ROWS OF THIS SEAT. 4 by the template 'for every input the law returns true; each argument reads behind the call as it read before'; 0 by the template 'total and deterministic' (their statements: YtfpankbhfgcgaaaTotals.lean).
  GIVEN WITH THE SEED: the statements are not yours to turn. If you find one false, say at which input.
  Laid BY PROGRAM, IN A SANDBOX (cutbox-rows.mjs): the forced cells as the released guide's own fill.sh prints them over the translation 9a5fc2175f4f8f2e… (all of the seat's roots in one cut). By AI agents, Wed Nov 11 2026. No macro, syntax, notation, axiom, sorry.
-/
import Derived.Test.YtfpankbhfgcgaaaChecked
import GoSem.Claim
import GoSem.ClaimJoined
import GoSem.ClaimMapViews
import Derived.JoinedTies
import Derived.KernelRfl
namespace Go.Proofs.Ytfpankbhfgcgaaa
/- THE CELL 'sum', in the pinned program and in every row, IS THE sha256 OF THE DUMP (.gsa) THAT YtfpankbhfgcgaaaProg.lean LOADS. Nothing in Lean hashes anything: it is a label: what it is worth is what the hold of that sum in a sandbox is worth. -/
noncomputable def Try.pinned : Pinned := { name := "ytfpankbhfgcgaaa", sum := "9a5fc2175f4f8f2e33cb1cc62307a35b815634050cdff46485e0d7e8fe25f906", checked := Try.checked }
namespace Rows
def none {H : Type} : Left H := { results := [], args := [] }

/-- 'loftblocklaw33.GridplanDraws': WHATEVER THE INPUT: true; the input reads as it did. -/
def gridplanDrawsSpec : ChangeSpec := { name := "gridplanDraws", fn := fun _ => fun
  | [d1, d2] => { results := [.lit (.bool true)], args := [d1, d2] }
  | _ => none }
def gridplanDrawsRow : OpenClaim := { program := "ytfpankbhfgcgaaa", sum := "9a5fc2175f4f8f2e33cb1cc62307a35b815634050cdff46485e0d7e8fe25f906", func := "loftblock/loftblocklaw33.GridplanDraws", spec := "gridplanDraws", inPlace := ["internal/abi.NoEscape"], unfollowed := true, recurses := true, apart := false }
def GridplanDrawsSaid : Prop := gridplanDrawsRow.holds Try.pinned (OpenSpec.ofChange gridplanDrawsSpec)

/-- ITS FALSE NEIGHBOUR: 'it returns false'. Refute it at one input. -/
def gridplanDrawsWrong : ChangeSpec := { name := "gridplanDraws", fn := fun _ => fun
  | [d1, d2] => { results := [.lit (.bool false)], args := [d1, d2] }
  | _ => none }
def GridplanDrawsWrongFalsely : Prop := gridplanDrawsRow.holds Try.pinned (OpenSpec.ofChange gridplanDrawsWrong)

/-- 'loftblocklaw32.SectionDraws': WHATEVER THE INPUT: true; the input reads as it did. -/
def sectionDrawsSpec : ChangeSpec := { name := "sectionDraws", fn := fun _ => fun
  | [d1, d2, d3] => { results := [.lit (.bool true)], args := [d1, d2, d3] }
  | _ => none }
def sectionDrawsRow : OpenClaim := { program := "ytfpankbhfgcgaaa", sum := "9a5fc2175f4f8f2e33cb1cc62307a35b815634050cdff46485e0d7e8fe25f906", func := "loftblock/loftblocklaw32.SectionDraws", spec := "sectionDraws", inPlace := ["internal/bytealg.MakeNoZero"], unfollowed := true, recurses := true, apart := false }
def SectionDrawsSaid : Prop := sectionDrawsRow.holds Try.pinned (OpenSpec.ofChange sectionDrawsSpec)

/-- ITS FALSE NEIGHBOUR: 'it returns false'. Refute it at one input. -/
def sectionDrawsWrong : ChangeSpec := { name := "sectionDraws", fn := fun _ => fun
  | [d1, d2, d3] => { results := [.lit (.bool false)], args := [d1, d2, d3] }
  | _ => none }
def SectionDrawsWrongFalsely : Prop := sectionDrawsRow.holds Try.pinned (OpenSpec.ofChange sectionDrawsWrong)

/-- 'loftblocklaw32.SectionPlaces': WHATEVER THE INPUT: true; the input reads as it did. -/
def sectionPlacesSpec : ChangeSpec := { name := "sectionPlaces", fn := fun _ => fun
  | [d1, d2, d3, d4] => { results := [.lit (.bool true)], args := [d1, d2, d3, d4] }
  | _ => none }
def sectionPlacesRow : OpenClaim := { program := "ytfpankbhfgcgaaa", sum := "9a5fc2175f4f8f2e33cb1cc62307a35b815634050cdff46485e0d7e8fe25f906", func := "loftblock/loftblocklaw32.SectionPlaces", spec := "sectionPlaces", inPlace := ["internal/bytealg.MakeNoZero"], unfollowed := true, recurses := true, apart := false }
def SectionPlacesSaid : Prop := sectionPlacesRow.holds Try.pinned (OpenSpec.ofChange sectionPlacesSpec)

/-- ITS FALSE NEIGHBOUR: 'it returns false'. Refute it at one input. -/
def sectionPlacesWrong : ChangeSpec := { name := "sectionPlaces", fn := fun _ => fun
  | [d1, d2, d3, d4] => { results := [.lit (.bool false)], args := [d1, d2, d3, d4] }
  | _ => none }
def SectionPlacesWrongFalsely : Prop := sectionPlacesRow.holds Try.pinned (OpenSpec.ofChange sectionPlacesWrong)

/-- 'loftblocklaw32.SectionCoarser': WHATEVER THE INPUT: true; the input reads as it did. -/
def sectionCoarserSpec : ChangeSpec := { name := "sectionCoarser", fn := fun _ => fun
  | [d1, d2, d3, d4] => { results := [.lit (.bool true)], args := [d1, d2, d3, d4] }
  | _ => none }
def sectionCoarserRow : OpenClaim := { program := "ytfpankbhfgcgaaa", sum := "9a5fc2175f4f8f2e33cb1cc62307a35b815634050cdff46485e0d7e8fe25f906", func := "loftblock/loftblocklaw32.SectionCoarser", spec := "sectionCoarser", inPlace := ["internal/bytealg.MakeNoZero"], unfollowed := true, recurses := true, apart := false }
def SectionCoarserSaid : Prop := sectionCoarserRow.holds Try.pinned (OpenSpec.ofChange sectionCoarserSpec)

/-- ITS FALSE NEIGHBOUR: 'it returns false'. Refute it at one input. -/
def sectionCoarserWrong : ChangeSpec := { name := "sectionCoarser", fn := fun _ => fun
  | [d1, d2, d3, d4] => { results := [.lit (.bool false)], args := [d1, d2, d3, d4] }
  | _ => none }
def SectionCoarserWrongFalsely : Prop := sectionCoarserRow.holds Try.pinned (OpenSpec.ofChange sectionCoarserWrong)

/- THE SECOND FORM. 'bulk': how many values and letters a reading holds, each counted each time it is reached (what is shared counts as often as it is met; a slice's spare places count too). A statement '..UptoSaid' is the law's where the arguments, and the package variables that the reading takes, are together of bulk at most 1048576: NARROWER than '..Said'. Prove '..Said' where nothing that the law and all that it calls make is longer than what came in: it says more and counts as full. Else prove '..UptoSaid'. A law counts once. -/
mutual
def uptoBulk {H : Type} : DataW H → Nat
  | .lit (.string bytes) => bytes.length + 1
  | .lit _ => 1
  | .nil => 1
  | .ptr d => uptoBulk d + 1
  | .slice elems spare => uptoBulkAll elems + uptoBulkAll spare + 1
  | .agg parts => uptoBulkAll parts + 1
  | .iface _ d => uptoBulk d + 1
  | .map entries => uptoBulkEntries entries + 1
  | .held _ => 1
def uptoBulkAll {H : Type} : List (DataW H) → Nat
  | [] => 0
  | d :: r => uptoBulk d + uptoBulkAll r
def uptoBulkEntries {H : Type} : List (Lit × DataW H) → Nat
  | [] => 0
  | x :: r => uptoBulkEntry x + uptoBulkEntries r
def uptoBulkEntry {H : Type} : Lit × DataW H → Nat
  | (.string bytes, d) => bytes.length + uptoBulk d + 1
  | (_, d) => uptoBulk d + 1
 end
def uptoSmall : (H : Type) → List (DataW H) → Bool := fun _ ds => decide (uptoBulkAll ds ≤ 1048576)
def OpenSpec.upto (s : _root_.Go.ChangeSpec) : _root_.Go.OpenSpec := { _root_.Go.OpenSpec.ofChange s with cond := some uptoSmall }

/-- 'loftblocklaw33.GridplanDraws', WHERE WHAT IT READS IS OF BULK AT MOST 1048576: true; the input reads as it did. -/
def gridplanDrawsUptoRow : OpenClaim := { program := "ytfpankbhfgcgaaa", sum := "9a5fc2175f4f8f2e33cb1cc62307a35b815634050cdff46485e0d7e8fe25f906", func := "loftblock/loftblocklaw33.GridplanDraws", spec := "gridplanDraws", inPlace := ["internal/abi.NoEscape"], unfollowed := true, recurses := true, apart := false, narrowed := true }
def GridplanDrawsUptoSaid : Prop := gridplanDrawsUptoRow.holds Try.pinned (OpenSpec.upto gridplanDrawsSpec)

/-- 'loftblocklaw32.SectionDraws', WHERE WHAT IT READS IS OF BULK AT MOST 1048576: true; the input reads as it did. -/
def sectionDrawsUptoRow : OpenClaim := { program := "ytfpankbhfgcgaaa", sum := "9a5fc2175f4f8f2e33cb1cc62307a35b815634050cdff46485e0d7e8fe25f906", func := "loftblock/loftblocklaw32.SectionDraws", spec := "sectionDraws", inPlace := ["internal/bytealg.MakeNoZero"], unfollowed := true, recurses := true, apart := false, narrowed := true }
def SectionDrawsUptoSaid : Prop := sectionDrawsUptoRow.holds Try.pinned (OpenSpec.upto sectionDrawsSpec)

/-- 'loftblocklaw32.SectionPlaces', WHERE WHAT IT READS IS OF BULK AT MOST 1048576: true; the input reads as it did. -/
def sectionPlacesUptoRow : OpenClaim := { program := "ytfpankbhfgcgaaa", sum := "9a5fc2175f4f8f2e33cb1cc62307a35b815634050cdff46485e0d7e8fe25f906", func := "loftblock/loftblocklaw32.SectionPlaces", spec := "sectionPlaces", inPlace := ["internal/bytealg.MakeNoZero"], unfollowed := true, recurses := true, apart := false, narrowed := true }
def SectionPlacesUptoSaid : Prop := sectionPlacesUptoRow.holds Try.pinned (OpenSpec.upto sectionPlacesSpec)

/-- 'loftblocklaw32.SectionCoarser', WHERE WHAT IT READS IS OF BULK AT MOST 1048576: true; the input reads as it did. -/
def sectionCoarserUptoRow : OpenClaim := { program := "ytfpankbhfgcgaaa", sum := "9a5fc2175f4f8f2e33cb1cc62307a35b815634050cdff46485e0d7e8fe25f906", func := "loftblock/loftblocklaw32.SectionCoarser", spec := "sectionCoarser", inPlace := ["internal/bytealg.MakeNoZero"], unfollowed := true, recurses := true, apart := false, narrowed := true }
def SectionCoarserUptoSaid : Prop := sectionCoarserUptoRow.holds Try.pinned (OpenSpec.upto sectionCoarserSpec)

end Rows
end Go.Proofs.Ytfpankbhfgcgaaa
