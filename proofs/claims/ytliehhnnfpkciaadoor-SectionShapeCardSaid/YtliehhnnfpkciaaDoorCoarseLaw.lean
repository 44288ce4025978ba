/- With twice the scale: rows and columns half as far, in plain Lean. -/
import Derived.Test.YtliehhnnfpkciaaDoorSecSize
namespace Go.Proofs.YtliehhnnfpkciaaDoor
open Go.RowKit

theorem div_two (a : Int) {n : Int} (hn : 1 ≤ n) : a / (2 * n) = a / n / 2 := by
  rw [Int.ediv_ediv_of_nonneg (by omega), Int.mul_comm]
theorem farItems_two (d : Int) {n : Int} (hn : 1 ≤ n) : ∀ (l : List ItemD) (m : Int), l.foldl (farItem d (2 * n)) (m / 2) = l.foldl (farItem d n) m / 2
  | [], _ => rfl
  | i :: l, m => by
    rw [List.foldl_cons, List.foldl_cons, ← farItems_two d hn l]
    congr 1
    unfold farItem
    rw [div_two _ hn]
    omega
theorem farSet_two {n m : Int} (hn : 1 ≤ n) (s : SetD) : farSet (2 * n) (m / 2) s = farSet n m s / 2 := by
  unfold farSet
  rw [← farItems_two s.depth hn, div_two _ hn]
  congr 1
  omega
theorem farFold_two {n : Int} (hn : 1 ≤ n) : ∀ (l : List SetD) (m : Int), l.foldl (farSet (2 * n)) (m / 2) = l.foldl (farSet n) m / 2
  | [], _ => rfl
  | s :: l, m => by rw [List.foldl_cons, List.foldl_cons, farSet_two hn, farFold_two hn l]
theorem farTo_two {n : Int} (hn : 1 ≤ n) (l : List SetD) : farTo l (2 * n) = farTo l n / 2 := farFold_two hn l 0
theorem secRows_two (h : HouseD) {n : Int} (hn : 1 ≤ n) : secRows h (2 * n) = (secRows h n - 1) / 2 + 1 := by
  unfold secRows
  rw [div_two _ hn]
  omega
theorem secCols_two (h : HouseD) {n : Int} (hn : 1 ≤ n) : secCols h (2 * n) = (secCols h n - 1) / 2 + 1 := by
  unfold secCols
  rw [farTo_two hn]
  omega
theorem secE_two {h : HouseD} {n : Int} (hn2 : n ≤ 65536) (h0 : secE h n = 0) : secE h (2 * n) = 0 := by
  obtain ⟨hg, hr, hc⟩ := secE_zero h0
  obtain ⟨hh, h1, h2⟩ := givenE_zero hg
  obtain ⟨a, _, b, _⟩ := rows_bound h0
  exact secE_ok (givenE_ok hh (by omega) (by omega)) ⟨by rw [secRows_two h h1]; omega, by rw [secCols_two h h1]; omega⟩
/-- of a right house each set is the one that its name finds -/
theorem find_self {h : HouseD} (hh : houseOk h = true) {k : Nat} {s : SetD} (hs : h.sets.l[k]? = some s) : findSet h.sets.l s.name = (k : Int) := by
  rw [houseOk, Bool.and_eq_true] at hh
  have := allIdx_iff.1 hh.2 k s hs
  rw [setAt, Bool.and_eq_true, decide_eq_true_eq] at this
  exact this.2
end Go.Proofs.YtliehhnnfpkciaaDoor
