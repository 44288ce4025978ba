/- slices.Equal at blocks and holds, slices.EqualFunc at ropes, reeving.Same; loftblockref10.sameRope, Same. -/
import Derived.Test.YtgamhdbcejkllaaGreatDoorReeveParts
namespace Go.Proofs.YtgamhdbcejkllaaGreatDoor
open Go.RowKit

def eqAt {α : Type} (eq : α → α → Bool) (l' : List α) (i : Nat) (x : α) : Bool := match l'[i]? with | some y => eq x y | none => false
def listEq {α : Type} (eq : α → α → Bool) (l l' : List α) : Bool := decide (l.length = l'.length) && allIdx (eqAt eq l') l
theorem listEq_len {α : Type} {eq : α → α → Bool} {l l' : List α} (h : l.length ≠ l'.length) : listEq eq l l' = false := by rw [listEq, decide_eq_false h]; rfl
theorem listEq_no {α : Type} {eq : α → α → Bool} {l l' : List α} {k : Nat} {x y : α} (hx : l[k]? = some x) (hy : l'[k]? = some y) (h : eq x y = false) : listEq eq l l' = false := by
  rw [listEq, allIdx_no hx (by rw [eqAt, hy]; exact h), Bool.and_false]
theorem listEq_yes {α : Type} {eq : α → α → Bool} {l l' : List α} {k : Nat} (h : l.length = l'.length) (hk : l.length ≤ k) (hu : UpTo (eqAt eq l') l k) : listEq eq l l' = true := by
  rw [listEq, decide_eq_true h, hu.all hk]; rfl
theorem upTo_eq {α : Type} {eq : α → α → Bool} {l l' : List α} {k : Nat} {x y : α} (hu : UpTo (eqAt eq l') l k) (hx : l[k]? = some x) (hy : l'[k]? = some y) (h : eq x y = true) : UpTo (eqAt eq l') l (k + 1) := hu.next hx (by rw [eqAt, hy]; exact h)
def blockEq (x y : BlockD) : Bool := x.name.toList == y.name.toList && (x.weight == y.weight)
def holdEq (x y : HoldD) : Bool := x.block.toList == y.block.toList && ((x.pulls == y.pulls) && ((x.num == y.num) && (x.den == y.den)))
def ropeEq (x y : RopeD) : Bool := x.name.toList == y.name.toList && ((x.hauled == y.hauled) && listEq holdEq x.holds.l y.holds.l)
def sameS (a b : SysD) : Bool := listEq blockEq a.blocks.l b.blocks.l && listEq ropeEq a.ropes.l b.ropes.l
theorem blockEq_cases (x y : BlockD) : ((x.name.toList == y.name.toList) = false ∧ blockEq x y = false) ∨ ((x.name.toList == y.name.toList) = true ∧ (x.weight == y.weight) = false ∧ blockEq x y = false) ∨ ((x.name.toList == y.name.toList) = true ∧ (x.weight == y.weight) = true ∧ blockEq x y = true) := by
  unfold blockEq
  cases (x.name.toList == y.name.toList) <;> cases (x.weight == y.weight) <;> simp
theorem holdEq_cases (x y : HoldD) : ((x.block.toList == y.block.toList) = false ∧ holdEq x y = false) ∨ ((x.block.toList == y.block.toList) = true ∧ (x.pulls == y.pulls) = false ∧ holdEq x y = false) ∨ ((x.block.toList == y.block.toList) = true ∧ (x.pulls == y.pulls) = true ∧ (x.num == y.num) = false ∧ holdEq x y = false) ∨ ((x.block.toList == y.block.toList) = true ∧ (x.pulls == y.pulls) = true ∧ (x.num == y.num) = true ∧ (x.den == y.den) = false ∧ holdEq x y = false) ∨ ((x.block.toList == y.block.toList) = true ∧ (x.pulls == y.pulls) = true ∧ (x.num == y.num) = true ∧ (x.den == y.den) = true ∧ holdEq x y = true) := by
  unfold holdEq
  cases (x.block.toList == y.block.toList) <;> cases (x.pulls == y.pulls) <;> cases (x.num == y.num) <;> cases (x.den == y.den) <;> simp
theorem ropeEq_cases (x y : RopeD) : ((x.name.toList == y.name.toList) = false ∧ ropeEq x y = false) ∨ ((x.name.toList == y.name.toList) = true ∧ x.hauled ≠ y.hauled ∧ ropeEq x y = false) ∨ ((x.name.toList == y.name.toList) = true ∧ x.hauled = y.hauled ∧ ropeEq x y = listEq holdEq x.holds.l y.holds.l) := by
  unfold ropeEq
  cases (x.name.toList == y.name.toList) <;> cases x.hauled <;> cases y.hauled <;> simp
end Go.Proofs.YtgamhdbcejkllaaGreatDoor
