/- The numbers that texts stand for, in plain Lean. -/
import Derived.Lib.IndexMore
import Derived.Test.YtplblogdgbnbdaaDoorNames
namespace Go.Proofs.YtplblogdgbnbdaaDoor
open Go

def isDig (c : UInt8) : Bool := digitB (c.toNat : Int)
/-- digits alone, at least one -/
def allDig (l : List UInt8) : Bool := !l.isEmpty && l.all isDig
/-- the value of digits behind a number; none if it grows beyond 2^60 -/
def accum : List UInt8 → Int → Option Int
  | [], n => some n
  | c :: l, n => if (1152921504606846976 - ((c.toNat : Int) - 48)) / 10 < n then none else accum l (10 * n + ((c.toNat : Int) - 48))
/-- the whole part, the part behind the point, whether there is a point: is that the form of a number? -/
def formB (whole part : List UInt8) (point : Bool) (k : Nat) : Bool :=
  allDig whole && !(decide (1 < whole.length) && whole.head? == some 48) && (!point || (allDig part && decide (part.length ≤ k)))
def numE (neg : Bool) : Option Int → Int × Int
  | none => (0, 5)
  | some n => (if neg then -n else n, 0)
def parseParts (neg : Bool) (whole part : List UInt8) (point : Bool) (k : Nat) : Int × Int :=
  if formB whole part point k then numE neg (accum (whole ++ part ++ List.replicate (k - part.length) 48) 0) else (0, 7)
/-- what Parse returns: the number, the error's number -/
def parseE (l : List UInt8) (k : Nat) : Int × Int :=
  parseParts (Lib.hasPrefix l [45]) (Lib.cut (Lib.trimPrefix l [45]) [46]).1 (Lib.cut (Lib.trimPrefix l [45]) [46]).2.1 (Lib.cut (Lib.trimPrefix l [45]) [46]).2.2 k
end Go.Proofs.YtplblogdgbnbdaaDoor
