/- The sets of a right house are right. -/
import Derived.Test.YtliehhnnfpkciaaGreatDoorHouse
namespace Go.Proofs.YtliehhnnfpkciaaGreatDoor
open Go.RowKit

theorem set_of_ok {h : HouseD} (hh : houseOk h = true) {s : SetD} (hs : s ∈ h.sets.l) : setOk s = true := by
  rw [houseOk, Bool.and_eq_true] at hh
  obtain ⟨j, hj, e⟩ := List.getElem_of_mem hs
  have h1 := allIdx_iff.1 hh.2 j s (by rw [List.getElem?_eq_getElem hj, e])
  rw [setAt, Bool.and_eq_true, Bool.and_eq_true] at h1
  exact h1.1.1
end Go.Proofs.YtliehhnnfpkciaaGreatDoor
