/- What the world's shape gives at the row's first world: some number in MaxLen. -/
import Derived.Test.YtliehhnnfpkciaaGreatDoorTied
import Derived.Test.YtliehhnnfpkciaaGreatDoorLinesLib
import Derived.Test.YtliehhnnfpkciaaGreatDoorRows
namespace Go.Proofs.YtliehhnnfpkciaaGreatDoor
open Go.RowKit

theorem tabs_of {W : World} (hs : W.ShapedOpen Tryz.prog) : Tabs W := by
  obtain ⟨m, hm0⟩ := Tryz.laysM146.s1_3 W hs
  have hm : W.cell? ⟨2, 0, none⟩ = some (.int .i64 m) := hm0
  refine ⟨?_, m, hm⟩
  rcases Nat.lt_or_ge 2 W.heap.size with h | h
  · exact h
  · have : W.cell? ⟨2, 0, none⟩ = none := by simp [World.cell?, Array.getElem?_eq_none h]
    rw [this] at hm; cases hm
end Go.Proofs.YtliehhnnfpkciaaGreatDoor
