/- reeving.Parts of a valid system. -/
import Derived.Test.YtgamhdbcejkllaaGreatDoorReeveMat
namespace Go.Proofs.YtgamhdbcejkllaaGreatDoor
open Go.RowKit

def rowTo (f : Nat → Nat → Int) (i k : Nat) : Int := ((List.range k).map (f i)).sum
theorem rowTo_next (f : Nat → Nat → Int) (i k : Nat) : rowTo f i (k + 1) = rowTo f i k + f i k := by simp [rowTo, List.range_succ]
def MatSmall (f : Nat → Nat → Int) : Prop := ∀ i k, -20 ≤ f i k ∧ f i k ≤ 20
theorem rowTo_bound {f : Nat → Nat → Int} (h : MatSmall f) (i : Nat) : ∀ k : Nat, -(20 * (k : Int)) ≤ rowTo f i k ∧ rowTo f i k ≤ 20 * (k : Int)
  | 0 => by simp [rowTo]
  | k + 1 => by
    have h1 := rowTo_bound h i k
    have h2 := h i k
    rw [rowTo_next]; omega
theorem matF_small {s : SysD} (h : sysOk s = true) : MatSmall (matF s.blocks.l s.ropes.l) := fun i k => by
  unfold matF
  cases hk : s.ropes.l[k]? with
  | none => simp
  | some r =>
    have hr := ropeOk_of h (List.mem_of_getElem? hk)
    have h1 := pullIdx_bound s.blocks.l i r.holds.l (small_of_rope hr)
    have h2 := (ropeOk_parts hr).2.1
    simp only; omega
def partsV (s : SysD) (nm : ByteArray) : Value := if findB s.blocks.l nm < 0 then .tuple #[.int .i64 0, .int .i64 9] else .tuple #[.int .i64 (rowTo (matF s.blocks.l s.ropes.l) (findB s.blocks.l nm).toNat s.ropes.l.length), .int .i64 0]

end Go.Proofs.YtgamhdbcejkllaaGreatDoor
