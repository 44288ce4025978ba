/- What a valid line set is, in plain Lean: items, bricks, lift lines. -/
import Derived.Test.YtcdkhlndohokcaaGreatDoorGrid
namespace Go.Proofs.YtcdkhlndohokcaaGreatDoor
open Go.RowKit

theorem betweenB_iff {n lo hi : Int} : betweenB n lo hi = true ↔ lo ≤ n ∧ n ≤ hi := by simp [betweenB]
theorem betweenB_false {n lo hi : Int} : betweenB n lo hi = false ↔ n < lo ∨ hi < n := by
  rw [← Bool.not_eq_true, betweenB_iff]; omega

def apartB (a b : ItemD) : Bool := decide (a.place + a.width ≤ b.place) || decide (b.place + b.width ≤ a.place)
def itemAlone (x : ItemD) : Bool := isName x.name && betweenB x.weight 0 1048576 && betweenB x.hang 0 1048576 && betweenB x.front 0 1048576 && betweenB x.back 0 1048576
def itemInside (x : ItemD) (len : Int) : Bool := decide (0 ≤ x.place) && betweenB x.width 1 1048576 && decide (x.place ≤ len - x.width)
def itemFine (x : ItemD) (len : Int) : Bool := itemAlone x && itemInside x len
def itemClash (x y : ItemD) : Bool := sameName y.name x.name || !apartB y x
def itemAt (l : List ItemD) (len : Int) (i : Nat) (x : ItemD) : Bool := itemFine x len && !(l.take i).any (itemClash x)
def itemsOk (l : List ItemD) (len : Int) : Bool := decide (l.length ≤ 40) && allIdx (itemAt l len) l
theorem itemsOk_yes {l : List ItemD} {len : Int} (h : (l.length : Int) ≤ 40) (hu : UpTo (itemAt l len) l l.length) : itemsOk l len = true := by
  rw [itemsOk, decide_eq_true (by omega), hu.all (Nat.le_refl _)]; rfl
theorem itemsOk_long {l : List ItemD} {len : Int} (h : 40 < (l.length : Int)) : itemsOk l len = false := by rw [itemsOk, decide_eq_false (by omega)]; rfl
theorem itemsOk_no {l : List ItemD} {len : Int} {k : Nat} {y : ItemD} (hy : l[k]? = some y) (h : itemAt l len k y = false) : itemsOk l len = false := by rw [itemsOk, allIdx_no hy h, Bool.and_false]
theorem itemFine_iff {x : ItemD} {len : Int} : itemFine x len = true ↔ isName x.name = true ∧ betweenB x.width 1 1048576 = true ∧ betweenB x.place 0 (len - x.width) = true ∧ betweenB x.weight 0 1048576 = true ∧ betweenB x.hang 0 1048576 = true ∧ betweenB x.front 0 1048576 = true ∧ betweenB x.back 0 1048576 = true := by
  simp only [itemFine, itemAlone, itemInside, betweenB, Bool.and_eq_true, decide_eq_true_eq]
  constructor
  · rintro ⟨⟨⟨⟨⟨h0, h1⟩, h2⟩, h3⟩, h4⟩, ⟨h5, h6⟩, h7⟩; exact ⟨h0, h6, ⟨h5, h7⟩, h1, h2, h3, h4⟩
  · rintro ⟨h0, h6, ⟨h5, h7⟩, h1, h2, h3, h4⟩; exact ⟨⟨⟨⟨⟨h0, h1⟩, h2⟩, h3⟩, h4⟩, ⟨h5, h6⟩, h7⟩
/-- a right item's place and width are small -/
theorem itemFine_small {x : ItemD} {len : Int} (h : itemFine x len = true) (hl : len ≤ 1048576) : 0 ≤ x.place ∧ x.place ≤ 1048576 ∧ 1 ≤ x.width ∧ x.width ≤ 1048576 := by
  obtain ⟨_, h1, h2, _⟩ := itemFine_iff.1 h
  rw [betweenB_iff] at h1 h2
  omega

def brickFine (b : BrickD) : Bool := isName b.name && betweenB b.weight 1 1048576 && betweenB b.count 0 60
def brickAt (l : List BrickD) (i : Nat) (b : BrickD) : Bool := brickFine b && !(l.take i).any (fun x => sameName x.name b.name)
def counts (l : List BrickD) : Int := (l.map (·.count)).sum
def bricksOk (l : List BrickD) : Bool := decide (l.length ≤ 8) && allIdx (brickAt l) l && decide (counts l ≤ 60)

def nth (l : List Int) (k : Nat) : Int := l.getD k 0
theorem nth_get {l : List Int} {k : Nat} (h : k < l.length) : l[k]? = some (nth l k) := by rw [nth, List.getD, List.getElem?_eq_getElem h]; rfl
theorem nth_of {l : List Int} {k : Nat} {y : Int} (h : l[k]? = some y) : nth l k = y := by rw [nth, List.getD, h]; rfl
def lineAt (l : List Int) (len : Int) (i : Nat) (n : Int) : Bool := betweenB n 0 len && (decide (i = 0) || decide (nth l (i - 1) < n))
def linesOk (l : List Int) (len : Int) : Bool := betweenB (l.length : Int) 2 10 && allIdx (lineAt l len) l

def setFirst (s : SetD) : Bool := isName s.name && betweenB s.depth 0 1048576 && betweenB s.low 0 s.high && betweenB s.high 0 1048576 && betweenB s.length 1000 1048576 && decide (s.length % 1000 = 0)
def setSecond (s : SetD) : Bool := betweenB s.pipe 0 1048576 && betweenB s.arbor 0 1048576 && betweenB s.purchase 1 2 && betweenB s.most 1 67108864 && betweenB s.brake 0 67108864
def setOk (s : SetD) : Bool := setFirst s && linesOk s.lines.l s.length && setSecond s && itemsOk s.items.l s.length && bricksOk s.bricks.l
end Go.Proofs.YtcdkhlndohokcaaGreatDoor
