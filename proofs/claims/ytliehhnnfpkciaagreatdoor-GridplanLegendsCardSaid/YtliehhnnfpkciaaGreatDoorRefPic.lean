/- loftblockref33.line, item, pipe: what a cell of the reference's plan shows of one set. -/
import Derived.Test.YtliehhnnfpkciaaGreatDoorRank
namespace Go.Proofs.YtliehhnnfpkciaaGreatDoor
open Go.RowKit

theorem any_some {α : Type} {p : α → Bool} {l : List α} {k : Nat} {x : α} (h : l[k]? = some x) (hp : p x = true) : l.any p = true := List.any_eq_true.2 ⟨x, List.mem_of_getElem? h, hp⟩
theorem any_none {α : Type} {p : α → Bool} {l : List α} (hn : ∀ j y, j < l.length → l[j]? = some y → p y = false) : l.any p = false := by
  rw [List.any_eq_false]
  intro x hx
  obtain ⟨j, hj, e⟩ := List.getElem_of_mem hx
  rw [hn j x hj (by rw [List.getElem?_eq_getElem hj, e])]
  simp
def seenLine (d scale r c : Int) (p : Int) : Bool := decide (d / scale = r) && decide (p / scale = c)
def seenItem (d scale r c : Int) (i : ItemD) : Bool := decide (d / scale = r) && itemIn (c * scale) ((c + 1) * scale) i
def seenPipe (s : SetD) (scale r c : Int) : Bool := decide (s.depth / scale = r) && decide (c * scale ≤ s.length)
set_option maxHeartbeats 1000000 in
theorem refPipe_any (s : SetD) (hd0 : 0 ≤ s.depth) (hd1 : s.depth ≤ 1048576) (scale r c : Int) (hs1 : 1 ≤ scale) (hs2 : scale ≤ 1048576) (hc1 : 0 ≤ c) (hc2 : c ≤ 1048576) (w : World) :
    Calls Tryz.prog 49 #[.agg #[.string s.name, .int .i64 s.depth, .int .i64 s.low, .int .i64 s.high, .int .i64 s.length, .slice s.lines.A s.lines.l.length s.lines.cap, .int .i64 s.pipe, .int .i64 s.arbor, .int .i64 s.purchase, .int .i64 s.most, .int .i64 s.brake, .slice s.items.A s.items.l.length s.items.cap, .slice s.bricks.A s.bricks.l.length s.bricks.cap], .int .i64 scale, .int .i64 r, .int .i64 c] w (Gives w (.bool (seenPipe s scale r c))) := by
  have m1 : 0 ≤ c * scale := Int.mul_nonneg hc1 (by omega)
  have m2 : c * scale ≤ 1048576 * 1048576 := Int.mul_le_mul hc2 hs2 (by omega) (by omega)
  obtain ⟨q0, q1⟩ := quo_bound hd0 hd1 hs1
  by_cases g1 : s.depth / scale = r
  all_goals by_cases g2 : c * scale ≤ s.length
  all_goals
    have HE := hide (show seenPipe s scale r c = _ from rfl)
    go_enter Tryz.func49, Tryz.ntmps49
    go_wp2
    go_ret
    exact Gives.mk (by simp [seenPipe, g1, g2]) ((Below.refl _ _).alloc (Nat.le_refl _) _)
end Go.Proofs.YtliehhnnfpkciaaGreatDoor
