/- What a valid house is; loftblockref30.Valid. -/
import Derived.Test.YtcdkhlndohokcaaGreatDoorRefSet
import Derived.Test.YtcdkhlndohokcaaGreatDoorRoofs
namespace Go.Proofs.YtcdkhlndohokcaaGreatDoor
open Go.RowKit

def houseHead (h : HouseD) : Bool := isName h.name && decide (1 ≤ h.height) && decide (h.height ≤ 1048576) && decide (h.sets.l.length ≤ 60) && roofsOk h.roofs.l
def setAt (l : List SetD) (height : Int) (i : Nat) (s : SetD) : Bool := setOk s && decide (s.high ≤ height) && decide (findSet l s.name = (i : Int))
def houseOk (h : HouseD) : Bool := houseHead h && allIdx (setAt h.sets.l h.height) h.sets.l
theorem houseHead_iff {h : HouseD} : houseHead h = true ↔ isName h.name = true ∧ 1 ≤ h.height ∧ h.height ≤ 1048576 ∧ (h.sets.l.length : Int) ≤ 60 ∧ roofsOk h.roofs.l = true := by
  simp only [houseHead, Bool.and_eq_true, decide_eq_true_eq, and_assoc]
  constructor <;> (rintro ⟨a, b, c, d, e⟩; exact ⟨a, b, c, by omega, e⟩)
theorem houseOk_head {h : HouseD} (hh : houseHead h = false) : houseOk h = false := by rw [houseOk, hh]; rfl
theorem houseOk_no {h : HouseD} {k : Nat} {s : SetD} (hs : h.sets.l[k]? = some s) (hn : setAt h.sets.l h.height k s = false) : houseOk h = false := by rw [houseOk, allIdx_no hs hn, Bool.and_false]
theorem houseOk_yes {h : HouseD} {k : Nat} (hh : houseHead h = true) (hk : h.sets.l.length ≤ k) (hu : UpTo (setAt h.sets.l h.height) h.sets.l k) : houseOk h = true := by rw [houseOk, hh, hu.all hk]; rfl
theorem setAt_yes {l : List SetD} {height : Int} {k : Nat} {s : SetD} (h1 : setOk s = true) (h2 : s.high ≤ height) (h3 : (findSet l s.name != (k : Int)) = false) : setAt l height k s = true := by
  rw [bne_eq_false_iff_eq] at h3
  rw [setAt, h1, decide_eq_true h2, decide_eq_true h3]; rfl
theorem setAt_not {l : List SetD} {height : Int} {k : Nat} {s : SetD} (h3 : (findSet l s.name != (k : Int)) = true) : setAt l height k s = false := by
  rw [bne_iff_ne] at h3
  rw [setAt, decide_eq_false h3, Bool.and_false]
theorem setAt_high {l : List SetD} {height : Int} {k : Nat} {s : SetD} (h2 : height < s.high) : setAt l height k s = false := by
  rw [setAt, decide_eq_false (show ¬ s.high ≤ height by omega), Bool.and_false, Bool.false_and]
theorem setAt_set {l : List SetD} {height : Int} {k : Nat} {s : SetD} (h1 : setOk s = false) : setAt l height k s = false := by rw [setAt, h1]; rfl

end Go.Proofs.YtcdkhlndohokcaaGreatDoor
