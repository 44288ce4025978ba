/- The plan at a doubled scale: half as many rows and columns; a dot exactly where all its quarters are dots. -/
import Derived.Test.YtliehhnnfpkciaaDoorPlanSeen
namespace Go.Proofs.YtliehhnnfpkciaaDoor
open Go.RowKit

theorem div_two (a : Int) {n : Int} (hn : 1 ≤ n) : a / (2 * n) = a / n / 2 := by
  rw [Int.ediv_ediv_of_nonneg (by omega), Int.mul_comm]
theorem foldRows_two {n : Int} (hn : 1 ≤ n) : ∀ (l : List SetD) (m : Int), l.foldl (fun m s => max m (s.depth / (2 * n) + 1)) ((m + 1) / 2) = (l.foldl (fun m s => max m (s.depth / n + 1)) m + 1) / 2
  | [], _ => rfl
  | s :: l, m => by
    rw [List.foldl_cons, List.foldl_cons, ← foldRows_two hn l]
    congr 1
    rw [div_two _ hn]
    omega
theorem foldCols_two {n : Int} (hn : 1 ≤ n) : ∀ (l : List SetD) (m : Int), l.foldl (fun m s => max m (s.length / (2 * n) + 1)) ((m + 1) / 2) = (l.foldl (fun m s => max m (s.length / n + 1)) m + 1) / 2
  | [], _ => rfl
  | s :: l, m => by
    rw [List.foldl_cons, List.foldl_cons, ← foldCols_two hn l]
    congr 1
    rw [div_two _ hn]
    omega
theorem rowsTo_two {n : Int} (hn : 1 ≤ n) (l : List SetD) : rowsTo l (2 * n) = (rowsTo l n + 1) / 2 := foldRows_two hn l 0
theorem colsTo_two {n : Int} (hn : 1 ≤ n) (l : List SetD) : colsTo l (2 * n) = (colsTo l n + 1) / 2 := foldCols_two hn l 0

/-- the t-th quarter of a cell: a dot, as far as it is there -/
def quarterB (l : List SetD) (n : Int) (r c j k t : Nat) : Bool := !(decide (2 * j + t / 2 < r) && decide (2 * k + t % 2 < c)) || decide (marks l n (2 * j + t / 2) (2 * k + t % 2) = 0)
def dotsTo (l : List SetD) (n : Int) (r c j k t : Nat) : Bool := (List.range t).all (quarterB l n r c j k)
theorem dotsTo_next (l : List SetD) (n : Int) (r c j k t : Nat) : dotsTo l n r c j k (t + 1) = (dotsTo l n r c j k t && quarterB l n r c j k t) := by
  simp [dotsTo, List.range_succ]
theorem quarter_in {l : List SetD} {n : Int} {r c j k t p q : Nat} (hp : p = 2 * j + t / 2) (hq : q = 2 * k + t % 2) (h1 : p < r) (h2 : q < c) : quarterB l n r c j k t = decide (marks l n p q = 0) := by
  unfold quarterB
  rw [← hp, ← hq, decide_eq_true h1, decide_eq_true h2]; rfl
theorem quarter_out {l : List SetD} {n : Int} {r c j k t p q : Nat} (hp : p = 2 * j + t / 2) (hq : q = 2 * k + t % 2) (h : ¬ (p < r ∧ q < c)) : quarterB l n r c j k t = true := by
  unfold quarterB
  rw [← hp, ← hq]
  have : (decide (p < r) && decide (q < c)) = false := by
    rw [← Bool.decide_and]; exact decide_eq_false h
  rw [this]; rfl
theorem dots_all {l : List SetD} {n : Int} (hn : 1 ≤ n) (hl : ∀ s ∈ l, OnPipe s) (hd : ∀ s ∈ l, 0 ≤ s.depth ∧ 0 ≤ s.length) {r c : Nat} (hr : rowsTo l n = (r : Int)) (hc : colsTo l n = (c : Int)) (j k : Nat) :
    dotsTo l n r c j k 4 = decide (marks l (2 * n) j k = 0) := by
  rw [Bool.eq_iff_iff, decide_eq_true_eq, marks_zero (by omega) hl]
  have e4 : List.range 4 = [0, 1, 2, 3] := rfl
  have hq : ∀ t, quarterB l n r c j k t = true ↔ (2 * j + t / 2 < r ∧ 2 * k + t % 2 < c → ∀ s ∈ l, s.depth / n = ((2 * j + t / 2 : Nat) : Int) → ¬ ((2 * k + t % 2 : Nat) : Int) ≤ s.length / n) := fun t => by
    rw [← marks_zero hn hl]
    unfold quarterB
    by_cases h1 : 2 * j + t / 2 < r <;> by_cases h2 : 2 * k + t % 2 < c <;> simp [h1, h2]
  unfold dotsTo
  rw [e4]
  simp only [List.all_cons, List.all_nil, Bool.and_true, Bool.and_eq_true, hq]
  constructor
  · rintro ⟨a0, a1, a2, a3⟩ s hs hds hks
    rw [div_two _ hn] at hds hks
    have h1 := rowsTo_mem n hs
    have h2 := colsTo_mem n hs
    rw [hr] at h1
    rw [hc] at h2
    have h0 := Int.ediv_nonneg (hd s hs).1 (show 0 ≤ n by omega)
    rcases (show s.depth / n = ((2 * j : Nat) : Int) ∨ s.depth / n = ((2 * j + 1 : Nat) : Int) by omega) with e | e
    · exact a0 ⟨by omega, by omega⟩ s hs (by omega) (by omega)
    · exact a2 ⟨by omega, by omega⟩ s hs (by omega) (by omega)
  · intro h
    refine ⟨?_, ?_, ?_, ?_⟩
    all_goals
      intro _ s hs hds hks
      refine h s hs ?_ ?_
      all_goals
        rw [div_two _ hn]
        omega
end Go.Proofs.YtliehhnnfpkciaaDoor
