/- loftblockref21.Valid. -/
import Derived.Test.YtcdkhlndohokcaaGreatDoorRefItems
import Derived.Test.YtcdkhlndohokcaaGreatDoorRefBricks
import Derived.Test.YtcdkhlndohokcaaGreatDoorLines
namespace Go.Proofs.YtcdkhlndohokcaaGreatDoor
open Go.RowKit

theorem setFirst_iff {s : SetD} : setFirst s = true ↔ isName s.name = true ∧ betweenB s.depth 0 1048576 = true ∧ betweenB s.low 0 s.high = true ∧ betweenB s.high 0 1048576 = true ∧ betweenB s.length 1000 1048576 = true ∧ s.length % 1000 = 0 := by
  simp [setFirst, and_assoc]
theorem setSecond_iff {s : SetD} : setSecond s = true ↔ betweenB s.pipe 0 1048576 = true ∧ betweenB s.arbor 0 1048576 = true ∧ betweenB s.purchase 1 2 = true ∧ betweenB s.most 1 67108864 = true ∧ betweenB s.brake 0 67108864 = true := by
  simp [setSecond, and_assoc]
theorem setOk_first {s : SetD} (h : setFirst s = false) : setOk s = false := by rw [setOk, h]; rfl
theorem setOk_second {s : SetD} (h : setSecond s = false) : setOk s = false := by rw [setOk, h]; simp
theorem setOk_lines {s : SetD} (h : linesOk s.lines.l s.length = false) : setOk s = false := by rw [setOk, h]; simp
theorem setOk_rest {s : SetD} (h1 : setFirst s = true) (h2 : setSecond s = true) (h3 : linesOk s.lines.l s.length = true) : setOk s = (itemsOk s.items.l s.length && bricksOk s.bricks.l) := by rw [setOk, h1, h2, h3]; simp

end Go.Proofs.YtcdkhlndohokcaaGreatDoor
