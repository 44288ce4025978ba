/- What the listed tables give at the row's first world. -/
import Derived.Test.YtplblogdgbnbdaaDoorTied
import Derived.Test.YtplblogdgbnbdaaDoorDecLib
import Derived.Test.YtplblogdgbnbdaaDoorRows
namespace Go.Proofs.YtplblogdgbnbdaaDoor
open Go.RowKit

theorem tabs_of {W : World} (h : laidMetH Tryd.prog Rows.decimalFormatsRow.laid W) (hs : W.ShapedOpen Tryd.prog) : Tabs W := by
  rw [MakeChecks.laidMetH_plain _ _ _ (by kernel_rfl)] at h
  have h2 := laidMet.tail (laidMet.tail h)
  have ht := Lib.tabIs_of_head (k := .u64) (zs := Lib.pow10Tab) (rest := []) (g := 1) (t := 103) (e := 84) (n := 20) (by kernel_rfl) (by kernel_rfl) (by kernel_rfl) (by kernel_rfl) (by kernel_rfl) (by kernel_rfl) h2
  obtain ⟨m, hm0⟩ := Tryd.laysM145.s1_3 W hs
  have hm : W.cell? ⟨0, 0, none⟩ = some (.int .i64 m) := hm0
  refine ⟨ht, ?_, m, hm⟩
  rcases Nat.lt_or_ge 0 W.heap.size with h | h
  · exact h
  · have : W.cell? ⟨0, 0, none⟩ = none := by simp [World.cell?, Array.getElem?_eq_none h]
    rw [this] at hm; cases hm
end Go.Proofs.YtplblogdgbnbdaaDoor
