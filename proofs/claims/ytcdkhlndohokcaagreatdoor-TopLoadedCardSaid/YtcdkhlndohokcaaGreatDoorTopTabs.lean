/- What the listed tables give at the row's first world (TopLoaded). -/
import Derived.Test.YtcdkhlndohokcaaGreatDoorTied
import Derived.Test.YtcdkhlndohokcaaGreatDoorRows
import Derived.Test.YtcdkhlndohokcaaGreatDoorDecLib
namespace Go.Proofs.YtcdkhlndohokcaaGreatDoor
open Go.RowKit

theorem lt_of_cell {W : World} {g : Nat} {v : Value} (hm : W.cell? ⟨g, 0, none⟩ = some v) : g < W.heap.size := by
  rcases Nat.lt_or_ge g W.heap.size with h | h
  · exact h
  · have : W.cell? ⟨g, 0, none⟩ = none := by simp [World.cell?, Array.getElem?_eq_none h]
    rw [this] at hm; cases hm
theorem tabs_of {W : World} (h : laidMetH Tryz.prog Rows.topLoadedRow.laid W) (hs : W.ShapedOpen Tryz.prog) : Tabs W := by
  rw [MakeChecks.laidMetH_plain _ _ _ (by kernel_rfl)] at h
  have h2 := laidMet.tail (laidMet.tail h)
  have ht := Lib.tabIs_of_head (k := .u64) (zs := Lib.pow10Tab) (g := 1) (t := 163) (e := 140) (n := 20) (by kernel_rfl) (by kernel_rfl) (by kernel_rfl) (by kernel_rfl) (by kernel_rfl) (by kernel_rfl) h2
  obtain ⟨m, hm0⟩ := Go.Proofs.cell_of_shapedOpen_int (g := 0) (zero := #[.int .i64 0]) (t := 3) hs (of_decide_eq_true (by kernel_rfl)) (by kernel_rfl) rfl (by kernel_rfl) (by kernel_rfl) Tryz.underlying3
  have hm : W.cell? ⟨0, 0, none⟩ = some (.int .i64 m) := hm0
  exact ⟨ht, lt_of_cell hm, m, hm⟩
end Go.Proofs.YtcdkhlndohokcaaGreatDoor
