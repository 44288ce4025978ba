/- loftblockref21.items. -/
import Derived.Test.YtcdkhlndohokcaaGreatDoorItems
namespace Go.Proofs.YtcdkhlndohokcaaGreatDoor
open Go.RowKit

theorem itemFine_small2 {x : ItemD} {len : Int} (h : itemFine x len = true) (hl : len ≤ 1048576) : Small2 x := by
  obtain ⟨h0, h1, h2, h3⟩ := itemFine_small h hl
  exact ⟨h0, h1, h2, h3⟩
theorem clash_none {l : List ItemD} {x : ItemD} {k : Nat} (h : ∀ j (y : ItemD), j < k → l[j]? = some y → itemClash x y = false) : (l.take k).any (itemClash x) = false :=
  UpTo.any_false (q := itemClash x) (fun j y hj hy => by simp [h j y hj hy])

end Go.Proofs.YtcdkhlndohokcaaGreatDoor
