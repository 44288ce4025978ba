/- What the world's shape gives at the row's first world: some number in MaxLen. -/
import Derived.Test.YtliehhnnfpkciaaDoorTied
import Derived.Test.YtliehhnnfpkciaaDoorLinesLib
import Derived.Test.YtliehhnnfpkciaaDoorRows
namespace Go.Proofs.YtliehhnnfpkciaaDoor
open Go.RowKit

theorem tabs_of {W : World} (hs : W.ShapedOpen Tryd.prog) : Tabs W := by
  obtain ⟨m, hm0⟩ := Tryd.laysM146.s1_3 W hs
  have hm : W.cell? ⟨0, 0, none⟩ = some (.int .i64 m) := hm0
  refine ⟨?_, m, hm⟩
  rcases Nat.lt_or_ge 0 W.heap.size with h | h
  · exact h
  · have : W.cell? ⟨0, 0, none⟩ = none := by simp [World.cell?, Array.getElem?_eq_none h]
    rw [this] at hm; cases hm
end Go.Proofs.YtliehhnnfpkciaaDoor
