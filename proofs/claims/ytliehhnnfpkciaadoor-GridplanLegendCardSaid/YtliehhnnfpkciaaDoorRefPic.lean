/- loftblockref33.line, item, pipe: what a cell of the reference's plan shows of one set. -/
import Derived.Test.YtliehhnnfpkciaaDoorRank
namespace Go.Proofs.YtliehhnnfpkciaaDoor
open Go.RowKit

theorem any_some {α : Type} {p : α → Bool} {l : List α} {k : Nat} {x : α} (h : l[k]? = some x) (hp : p x = true) : l.any p = true := List.any_eq_true.2 ⟨x, List.mem_of_getElem? h, hp⟩
theorem any_none {α : Type} {p : α → Bool} {l : List α} (hn : ∀ j y, j < l.length → l[j]? = some y → p y = false) : l.any p = false := by
  rw [List.any_eq_false]
  intro x hx
  obtain ⟨j, hj, e⟩ := List.getElem_of_mem hx
  rw [hn j x hj (by rw [List.getElem?_eq_getElem hj, e])]
  simp
def seenLine (d scale r c : Int) (p : Int) : Bool := decide (d / scale = r) && decide (p / scale = c)
def seenItem (d scale r c : Int) (i : ItemD) : Bool := decide (d / scale = r) && itemIn (c * scale) ((c + 1) * scale) i
def seenPipe (s : SetD) (scale r c : Int) : Bool := decide (s.depth / scale = r) && decide (c * scale ≤ s.length)
end Go.Proofs.YtliehhnnfpkciaaDoor
