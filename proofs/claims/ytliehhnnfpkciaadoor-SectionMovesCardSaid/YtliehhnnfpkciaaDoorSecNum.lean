/- The section's numbers: quotients rounded down (section.down, loftblockref32.down), rows (picture.row, loftblockref32.Row); the picture's own struct. -/
import Derived.Test.YtliehhnnfpkciaaDoorPlanSize
import Derived.Test.YtliehhnnfpkciaaDoorSetOf
import Derived.Deep.DrawnRows
import Derived.Deep.OwnRows
import Derived.Deep.RegionLaw
import Derived.Deep.RegionWith
import Derived.Laws.Externs
import Derived.Laws.IdiomCopy
import Derived.Lib.Builder
import Derived.Lib.UnsafeStr
import Derived.Lib.Walk
import Derived.Shelf.Strings.Builder1
namespace Go.Proofs.YtliehhnnfpkciaaDoor
open Go.RowKit

theorem tdiv_facts {n b : Int} (hn : n < 0) (hb : 1 ≤ b) : n ≤ n.tdiv b * b ∧ n.tdiv b * b ≤ 0 ∧ (n.tdiv b - 1) * b < n ∧ n ≤ n.tdiv b ∧ n.tdiv b ≤ 0 := by
  obtain ⟨m, rfl⟩ : ∃ m : Int, n = -m := ⟨-n, by omega⟩
  rw [Int.neg_tdiv, Int.tdiv_eq_ediv_of_nonneg (by omega)]
  have h1 := Int.ediv_mul_le m (show b ≠ 0 by omega)
  have h2 := Int.lt_ediv_add_one_mul_self m (show 0 < b by omega)
  have h3 : 0 ≤ m / b := Int.ediv_nonneg (by omega) (by omega)
  have h4 : m / b ≤ m := Int.ediv_le_self _ (by omega)
  have h5 : 0 ≤ m / b * b := Int.mul_nonneg h3 (by omega)
  have e1 : -(m / b) * b = -(m / b * b) := by rw [Int.neg_mul]
  have e2 : (-(m / b) - 1) * b = -((m / b + 1) * b) := by rw [← Int.neg_mul]; congr 1; omega
  omega
theorem ediv_of_tdiv {n b : Int} (hn : n < 0) (hb : 1 ≤ b) : n / b = if n < n.tdiv b * b then n.tdiv b - 1 else n.tdiv b := by
  obtain ⟨f1, f2, f3, f4, f5⟩ := tdiv_facts hn hb
  have e : (n.tdiv b - 1) * b = n.tdiv b * b - b := by rw [Int.sub_mul, Int.one_mul]
  have e' : (n.tdiv b + 1) * b = n.tdiv b * b + b := by rw [Int.add_mul, Int.one_mul]
  split
  · exact Int.ediv_eq_iff_of_pos (by omega) |>.2 ⟨by omega, by omega⟩
  · exact Int.ediv_eq_iff_of_pos (by omega) |>.2 ⟨by omega, by omega⟩
set_option maxHeartbeats 1000000 in
theorem down_any (n b : Int) (h1 : -2097152 ≤ n) (h2 : n ≤ 2097152) (h3 : 1 ≤ b) (h4 : b ≤ 1048576) (w : World) : Calls Tryd.prog 54 #[.int .i64 n, .int .i64 b] w (Gives w (.int .i64 (n / b))) := by
  by_cases hn : 0 ≤ n
  · obtain ⟨q0, q1⟩ : 0 ≤ n / b ∧ n / b ≤ 2097152 := ⟨Int.ediv_nonneg hn (by omega), Int.le_trans (Int.ediv_le_self _ hn) h2⟩
    have m1 := Int.ediv_mul_le n (show b ≠ 0 by omega)
    have m2 : 0 ≤ n / b * b := Int.mul_nonneg q0 (by omega)
    go_enter Tryd.func54, Tryd.ntmps54
    go_wp2
    go_ret
    exact Gives.mk rfl (Below.refl _ _)
  · obtain ⟨f1, f2, f3, f4, f5⟩ := tdiv_facts (show n < 0 by omega) h3
    have HE := hide (ediv_of_tdiv (show n < 0 by omega) h3)
    clear f3
    by_cases ht : n < n.tdiv b * b
    all_goals
      go_enter Tryd.func54, Tryd.ntmps54
      go_wp2
      go_ret
      exact Gives.mk (congrArg (Value.int IntKind.i64) (show _ = n / b by rw [HE.out]; first | rw [if_pos ht] | rw [if_neg (by omega)])) (Below.refl _ _)
set_option maxHeartbeats 1000000 in
theorem refDown_any (n b : Int) (h1 : -2097152 ≤ n) (h2 : n ≤ 2097152) (h3 : 1 ≤ b) (h4 : b ≤ 1048576) (w : World) : Calls Tryd.prog 108 #[.int .i64 n, .int .i64 b] w (Gives w (.int .i64 (n / b))) := by
  by_cases hn : 0 ≤ n
  · obtain ⟨q0, q1⟩ : 0 ≤ n / b ∧ n / b ≤ 2097152 := ⟨Int.ediv_nonneg hn (by omega), Int.le_trans (Int.ediv_le_self _ hn) h2⟩
    go_enter Tryd.func108, Tryd.ntmps108
    go_wp2
    go_ret
    exact Gives.mk rfl (Below.refl _ _)
  · obtain ⟨f1, f2, f3, f4, f5⟩ := tdiv_facts (show n < 0 by omega) h3
    have HE := hide (ediv_of_tdiv (show n < 0 by omega) h3)
    have hmod := Int.mul_tdiv_add_tmod n b
    rw [Int.mul_comm] at hmod
    clear f3
    by_cases ht : n < n.tdiv b * b
    · have hb : (n.tmod b != 0) = true := by rw [bne_iff_ne]; omega
      clear hmod
      go_enter Tryd.func108, Tryd.ntmps108
      go_wp2
      go_ret
      exact Gives.mk (congrArg (Value.int IntKind.i64) (show _ = n / b by rw [HE.out, if_pos ht])) (Below.refl _ _)
    · have hb : (n.tmod b != 0) = false := by rw [bne_eq_false_iff_eq]; omega
      clear hmod
      go_enter Tryd.func108, Tryd.ntmps108
      go_wp2
      go_ret
      exact Gives.mk (congrArg (Value.int IntKind.i64) (show _ = n / b by rw [HE.out, if_neg (by omega)])) (Below.refl _ _)
end Go.Proofs.YtliehhnnfpkciaaDoor
