/- What the listed tables and errors give at the row's first world (SourceTexts). -/
import Derived.Test.YtnjbfhfjdhfdlaaGreatDoorTied
import Derived.Test.YtnjbfhfjdhfdlaaGreatDoorRows
import Derived.Test.YtnjbfhfjdhfdlaaGreatDoorSrcMem
namespace Go.Proofs.YtnjbfhfjdhfdlaaGreatDoor
open Go.RowKit

theorem errStar : "*" ++ "errors.errorString" = "*errors.errorString" := by decide
theorem errRow (u : TypeId) (h : Tryz.prog.typeName? 3 u = some "*errors.errorString") : u = 202 :=
  typeName_ptr_named (nm := "errors.errorString") (by rw [errStar]; kernel_rfl) (by kernel_rfl) (by decide) u (by rw [errStar]; exact h)
theorem lt_of_cell {W : World} {g : Nat} {v : Value} (hm : W.cell? ⟨g, 0, none⟩ = some v) : g < W.heap.size := by
  rcases Nat.lt_or_ge g W.heap.size with h | h
  · exact h
  · have : W.cell? ⟨g, 0, none⟩ = none := by simp [World.cell?, Array.getElem?_eq_none h]
    rw [this] at hm; cases hm
theorem tabs_of {W : World} (h : laidMetH Tryz.prog Rows.sourceTextsRow.laid W) (hs : W.ShapedOpen Tryz.prog) : TabsS W := by
  rw [MakeChecks.laidMetH_plain _ _ _ (by kernel_rfl)] at h
  have h2 := laidMet.tail (laidMet.tail h)
  have ht := Lib.tabIs_of_head (k := .u64) (zs := Lib.pow10Tab) (g := 3) (t := 191) (e := 179) (n := 20) (by kernel_rfl) (by kernel_rfl) (by kernel_rfl) (by kernel_rfl) (by kernel_rfl) (by kernel_rfl) h2
  have h4 := laidMet.tail h2
  obtain ⟨a0, s0, hv0, _⟩ := laid_sentinel h4 (g := 5) (ti := 111) (te := 204) (ts := 9) (by kernel_rfl) (by kernel_rfl) Tryz.underlying111 errRow Tryz.underlying202 Tryz.underlying204 rfl rfl Tryz.underlying9 (by kernel_rfl) (by kernel_rfl)
  obtain ⟨a1, s1, hv1, _⟩ := laid_sentinel (laidMet.tail h4) (g := 4) (ti := 111) (te := 204) (ts := 9) (by kernel_rfl) (by kernel_rfl) Tryz.underlying111 errRow Tryz.underlying202 Tryz.underlying204 rfl rfl Tryz.underlying9 (by kernel_rfl) (by kernel_rfl)
  have c0 : W.cell? ⟨5, 0, none⟩ = some (.iface 202 (.pointer (some a0))) := by have h0 := World.var?_cell (g := 5) (by kernel_rfl) hv0 0; simpa using h0
  have c1 : W.cell? ⟨4, 0, none⟩ = some (.iface 202 (.pointer (some a1))) := by have h0 := World.var?_cell (g := 4) (by kernel_rfl) hv1 0; simpa using h0
  obtain ⟨m, hm0⟩ := Tryz.laysM219.s1_3 W hs
  have hm : W.cell? ⟨0, 0, none⟩ = some (.int .i64 m) := hm0
  exact ⟨⟨ht, lt_of_cell hm, m, hm⟩, ⟨lt_of_cell c1, lt_of_cell c0⟩, ⟨_, _, c1⟩, _, _, c0⟩
end Go.Proofs.YtnjbfhfjdhfdlaaGreatDoor
