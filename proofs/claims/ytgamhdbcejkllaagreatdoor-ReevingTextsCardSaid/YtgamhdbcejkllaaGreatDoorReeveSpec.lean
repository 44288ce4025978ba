/- What a valid system of ropes is, in plain Lean, and its matrix. -/
import Derived.Test.YtgamhdbcejkllaaGreatDoorReeveData
import Derived.Test.YtgamhdbcejkllaaGreatDoorIndex
import Derived.Test.YtgamhdbcejkllaaGreatDoorNames
namespace Go.Proofs.YtgamhdbcejkllaaGreatDoor
open Go.RowKit

def sameName (a b : ByteArray) : Bool := a.toList == b.toList
theorem sameName_iff {a b : ByteArray} : sameName a b = true ↔ a = b := ⟨fun h => bs_inj (by simpa [sameName, bs] using h), fun h => by subst h; simp [sameName]⟩
theorem sameName_refl (a : ByteArray) : sameName a a = true := sameName_iff.2 rfl
theorem sameName_false {a b : ByteArray} : sameName a b = false ↔ a ≠ b := by rw [← Bool.not_eq_true, sameName_iff]
def betweenB (n lo hi : Int) : Bool := decide (lo ≤ n) && decide (n ≤ hi)
theorem betweenB_iff {n lo hi : Int} : betweenB n lo hi = true ↔ lo ≤ n ∧ n ≤ hi := by simp [betweenB]
theorem betweenB_false {n lo hi : Int} : betweenB n lo hi = false ↔ n < lo ∨ hi < n := by
  rw [← Bool.not_eq_true, betweenB_iff]; omega
def findB (l : List BlockD) (nm : ByteArray) : Int := idx (fun b => sameName b.name nm) l
def findR (l : List RopeD) (nm : ByteArray) : Int := idx (fun b => sameName b.name nm) l

/-- a fraction in lowest terms, not too large -/
def fracOk (n d : Int) : Bool := betweenB d 1 1152921504606846976 && betweenB n (-1152921504606846976) 1152921504606846976 && decide (Nat.gcd n.natAbs d.natAbs = 1)
def lossOk (n d : Int) : Bool := fracOk n d && decide (d ≤ n) && decide (n ≤ 100)
def endLoss (n d : Int) : Bool := decide (n = 1) && decide (d = 1)
def pullOk (bl : List BlockD) (h : HoldD) (e : Bool) : Bool :=
  if h.block.toList.isEmpty then decide (h.pulls = 0)
  else if findB bl h.block < 0 then false
  else if e then decide (h.pulls = 1) || decide (h.pulls = -1)
  else decide (h.pulls = 2) || decide (h.pulls = 0) || decide (h.pulls = -2)
def holdOk (bl : List BlockD) (h : HoldD) (e : Bool) : Bool := (if e then endLoss h.num h.den else lossOk h.num h.den) && pullOk bl h e
def isEnd (n i : Nat) : Bool := decide (i = 0) || decide (i + 1 = n)
def lastFree (l : List HoldD) : Bool := match l.getLast? with | some h => h.block.toList.isEmpty | none => false
def holdsOk (bl : List BlockD) (l : List HoldD) : Bool := allIdx (fun i h => holdOk bl h (isEnd l.length i)) l
def ropeOk (bl : List BlockD) (r : RopeD) : Bool := betweenB (r.holds.l.length : Int) 2 10 && holdsOk bl r.holds.l && (!r.hauled || lastFree r.holds.l)
def blockAt (bl : List BlockD) (i : Nat) (b : BlockD) : Bool := isName b.name && decide (findB bl b.name = (i : Int)) && betweenB b.weight 0 16777216
def ropeAt (bl : List BlockD) (rl : List RopeD) (i : Nat) (r : RopeD) : Bool := isName r.name && decide (findR rl r.name = (i : Int)) && decide (findB bl r.name < 0) && ropeOk bl r
def hauls (l : List RopeD) : Nat := (l.filter (·.hauled)).length
def sysHead (s : SysD) : Bool := betweenB (s.blocks.l.length : Int) 1 6 && betweenB (s.ropes.l.length : Int) 1 6
def sysOk (s : SysD) : Bool := sysHead s && allIdx (blockAt s.blocks.l) s.blocks.l && allIdx (ropeAt s.blocks.l s.ropes.l) s.ropes.l && decide (hauls s.ropes.l ≤ 1)

/-- the pull of a rope at a block -/
def pullAt (nm : ByteArray) (l : List HoldD) : Int := (l.map fun h => if sameName h.block nm then h.pulls else 0).sum
def matrixE (s : SysD) : List (List Int) := s.blocks.l.map fun b => s.ropes.l.map fun r => pullAt b.name r.holds.l
def partsE (s : SysD) (nm : ByteArray) : Int := (s.ropes.l.map fun r => pullAt nm r.holds.l).sum
def hauledE (s : SysD) : List Int := s.ropes.l.map fun r => if r.hauled then 1 else 0
end Go.Proofs.YtgamhdbcejkllaaGreatDoor
