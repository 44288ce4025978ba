/- loftblockref21.Bricks. -/
import Derived.Test.YtcdkhlndohokcaaGreatDoorSpecSet
namespace Go.Proofs.YtcdkhlndohokcaaGreatDoor
open Go.RowKit

theorem counts_next {l : List BrickD} {k : Nat} {b : BrickD} (h : l[k]? = some b) : counts (l.take (k + 1)) = counts (l.take k) + b.count := by
  rw [List.take_add_one, h]
  simp [counts, List.sum_append]
theorem counts_all (l : List BrickD) : counts (l.take l.length) = counts l := by rw [List.take_length]
theorem brickFine_iff {b : BrickD} : brickFine b = true ↔ isName b.name = true ∧ betweenB b.weight 1 1048576 = true ∧ betweenB b.count 0 60 = true := by
  simp [brickFine, and_assoc]
theorem brick_none {l : List BrickD} {nm : ByteArray} {k : Nat} (h : ∀ j (y : BrickD), j < k → l[j]? = some y → sameName y.name nm = false) : (l.take k).any (fun x => sameName x.name nm) = false :=
  UpTo.any_false (q := fun x : BrickD => sameName x.name nm) (fun j y hj hy => by simp [h j y hj hy])
theorem bricksOk_no {l : List BrickD} {k : Nat} {y : BrickD} (hy : l[k]? = some y) (h : brickAt l k y = false) : bricksOk l = false := by rw [bricksOk, allIdx_no hy h, Bool.and_false, Bool.false_and]
theorem bricksOk_long {l : List BrickD} (h : 8 < (l.length : Int)) : bricksOk l = false := by rw [bricksOk, decide_eq_false (by omega)]; rfl
theorem bricksOk_end {l : List BrickD} {k : Nat} (h : (l.length : Int) ≤ 8) (hk : k = l.length) (hu : UpTo (brickAt l) l k) : decide (counts (l.take k) ≤ 60) = bricksOk l := by
  subst hk
  rw [bricksOk, decide_eq_true (show l.length ≤ 8 by omega), hu.all (Nat.le_refl _), counts_all]; rfl

end Go.Proofs.YtcdkhlndohokcaaGreatDoor
