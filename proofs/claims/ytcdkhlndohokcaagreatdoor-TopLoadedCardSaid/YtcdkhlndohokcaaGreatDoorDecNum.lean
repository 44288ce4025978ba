/- The numbers that texts stand for, in plain Lean. -/
import Derived.Lib.IndexMore
import Derived.Test.YtcdkhlndohokcaaGreatDoorDigits
namespace Go.Proofs.YtcdkhlndohokcaaGreatDoor
open Go

/-- the value of digits behind a number; none if it grows beyond 2^60 -/
def accum : List UInt8 → Int → Option Int
  | [], n => some n
  | c :: l, n => if (1152921504606846976 - ((c.toNat : Int) - 48)) / 10 < n then none else accum l (10 * n + ((c.toNat : Int) - 48))
/-- the whole part, the part behind the point, whether there is a point: is that the form of a number? -/
def formB (whole part : List UInt8) (point : Bool) (k : Nat) : Bool :=
  allDig whole && !(decide (1 < whole.length) && whole.head? == some 48) && (!point || (allDig part && decide (part.length ≤ k)))
def numE (neg : Bool) : Option Int → Int × Int
  | none => (0, 5)
  | some n => (if neg then -n else n, 0)
def parseParts (neg : Bool) (whole part : List UInt8) (point : Bool) (k : Nat) : Int × Int :=
  if formB whole part point k then numE neg (accum (whole ++ part ++ List.replicate (k - part.length) 48) 0) else (0, 7)
/-- what Parse returns: the number, the error's number -/
def parseE (l : List UInt8) (k : Nat) : Int × Int :=
  parseParts (Lib.hasPrefix l [45]) (Lib.cut (Lib.trimPrefix l [45]) [46]).1 (Lib.cut (Lib.trimPrefix l [45]) [46]).2.1 (Lib.cut (Lib.trimPrefix l [45]) [46]).2.2 k
/-- from place i to place j there are digits -/
def DigTo (l : List UInt8) (i j : Nat) : Prop := ∀ m, i ≤ m → m < j → ∃ c, l[m]? = some c ∧ isDig c = true
theorem DigTo.start (l : List UInt8) (i : Nat) : DigTo l i i := fun m h1 h2 => by omega
theorem DigTo.next {l : List UInt8} {i j : Nat} {c : UInt8} (h : DigTo l i j) (hc : l[j]? = some c) (hd : isDig c = true) : DigTo l i (j + 1) := fun m h1 h2 => by
  by_cases e : m = j
  · subst e; exact ⟨c, hc, hd⟩
  · exact h m h1 (by omega)
theorem dig_ne {c : UInt8} (h : isDig c = true) : c ≠ 46 := fun e => by subst e; revert h; decide
theorem DigTo.before {l r : List UInt8} {i j : Nat} (h : DigTo l i j) (hr : r = l.drop i) : ∀ m, m < j - i → ∀ d, r[m]? = some d → isDig d = true := by
  intro m hm d hd
  obtain ⟨c, hc, hdig⟩ := h (i + m) (by omega) (by omega)
  rw [hr, List.getElem?_drop, hc] at hd
  cases hd
  exact hdig
theorem head_of_get {s : ByteArray} (h : 0 < s.size) : (bs s).head? = some s[0] := by rw [List.head?_eq_getElem?, bs_get s 0 h]
end Go.Proofs.YtcdkhlndohokcaaGreatDoor
