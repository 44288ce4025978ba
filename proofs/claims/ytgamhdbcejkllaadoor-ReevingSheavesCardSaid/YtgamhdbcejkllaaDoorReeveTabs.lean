/- What the listed tables give at the row's first world. -/
import Derived.Test.YtgamhdbcejkllaaDoorTied
import Derived.Test.YtgamhdbcejkllaaDoorReeveLib
import Derived.Test.YtgamhdbcejkllaaDoorRows
namespace Go.Proofs.YtgamhdbcejkllaaDoor
open Go.RowKit

theorem tabs_of {W : World} (h : laidMetH Tryd.prog Rows.reevingAddsRow.laid W) : Tabs W := by
  rw [MakeChecks.laidMetH_plain _ _ _ (by kernel_rfl)] at h
  have h2 := laidMet.tail (laidMet.tail h)
  exact Lib.tabIs_of_head (k := .u64) (zs := Lib.pow10Tab) (rest := []) (g := 0) (t := 114) (e := 101) (n := 20) (by kernel_rfl) (by kernel_rfl) (by kernel_rfl) (by kernel_rfl) (by kernel_rfl) (by kernel_rfl) h2
end Go.Proofs.YtgamhdbcejkllaaDoor
