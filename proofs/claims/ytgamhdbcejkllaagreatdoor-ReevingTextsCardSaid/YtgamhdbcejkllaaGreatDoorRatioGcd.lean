/- ratio.gcd, size; the reference's parts of the greatest common divisor. -/
import Derived.Test.YtgamhdbcejkllaaGreatDoorReeveSpec
import Derived.Test.YtgamhdbcejkllaaGreatDoorGcdLaw
import Derived.Test.YtgamhdbcejkllaaGreatDoorOwn
namespace Go.Proofs.YtgamhdbcejkllaaGreatDoor
open Go.RowKit

set_option maxRecDepth 100000 in
set_option maxHeartbeats 1000000 in
theorem gcd_any (a b : Nat) (ha : a < 18446744073709551616) (hb : b < 18446744073709551616) (w : World) :
    Calls Tryz.prog 66 #[.int .u64 a, .int .u64 b] w (Gives w (.int .u64 (Nat.gcd a b))) := by
  go_enter Tryz.func66, Tryz.ntmps66
  go_wp2
  go_loopw [0, 1] (fun u v wr => ∃ x y : Nat, u = .int .u64 x ∧ v = .int .u64 y ∧ x < 18446744073709551616 ∧ y < 18446744073709551616 ∧ Nat.gcd x y = Nat.gcd a b ∧ ∃ z : After w.heap.size w, wr = z.val) (fun _ v _ => (intOf v).toNat)
  case atStart => exact ⟨a, b, rfl, rfl, ha, hb, rfl, After.refl _ _, rfl⟩
  case round =>
    obtain ⟨x, y, rfl, rfl, hx, hy, hg, z, rfl⟩ := hrel
    by_cases h0 : y = 0
    · subst h0
      go_wp2
      go_ret
      rw [Nat.gcd_zero_right] at hg
      exact Gives.mk (by simp [hg]) z.below
    · have hne : ((y : Int) == 0) = false := by simp; omega
      have hne' : ((y : Int) != 0) = true := by simp; omega
      have hn : ¬ (y : Int) = 0 := by omega
      go_wp2
      refine wp_region_after z (by kernel_rfl) (by kernel_rfl) ?_
      repeat (go_big_quiet_step (fail))
      refine wpQuiet_nil ?_
      intro z
      go_wp2
      refine ⟨⟨y, x % y, rfl, ?_, hy, Nat.lt_of_lt_of_le (Nat.mod_lt _ (by omega)) (by omega), by rw [← hg, Nat.gcd_comm x y, Nat.gcd_rec y x, Nat.gcd_comm], z, rfl⟩, ?_⟩
      · rw [Int.natCast_emod]
      · simp only [intOf, ← Int.natCast_emod, Int.toNat_natCast]; exact Nat.mod_lt _ (by omega)
theorem size_any (n : Int) (h : I64 n) (w : World) : Calls Tryz.prog 67 #[.int .i64 n] w (Gives w (.int .u64 (n.natAbs : Nat))) := by
  obtain ⟨h1, h2⟩ := h
  go_enter Tryz.func67, Tryz.ntmps67
  go_wp2
  all_goals
    go_ret
    exact Gives.mk (congrArg (Value.int .u64) (by first | omega | (rw [IntKind.wrap_u64, IntKind.wrap_u64]; omega))) (Below.refl _ _)
theorem refSize02_any (n : Int) (h : I64 n) (w : World) : Calls Tryz.prog 52 #[.int .i64 n] w (Gives w (.int .u64 (n.natAbs : Nat))) := by
  obtain ⟨h1, h2⟩ := h
  go_enter Tryz.func52, Tryz.ntmps52
  go_wp2
  all_goals
    go_ret
    exact Gives.mk (congrArg (Value.int .u64) (by first | omega | (rw [IntKind.wrap_u64, IntKind.wrap_u64]; omega))) (Below.refl _ _)
def uD (x : Nat) : Value := .agg #[.int .u64 0, .int .u64 (x : Int)]
set_option maxRecDepth 100000 in
theorem half_any (x : Nat) (hx : x < 2305843009213693952) (w : World) : Calls Tryz.prog 108 #[.agg #[.int .u64 0, .int .u64 (x : Int)]] w (Gives w (.agg #[.int .u64 0, .int .u64 ((x / 2 : Nat) : Int)])) := by
  go_enter Tryz.func108, Tryz.ntmps108
  go_wp2
  go_returns
  exact Gives.mk (by rw [Int.natCast_ediv]; rfl) (((Below.refl _ _).alloc (Nat.le_refl _) _).alloc (by simp) _)
set_option maxRecDepth 100000 in
theorem less_any (x y : Nat) (w : World) : Calls Tryz.prog 109 #[.agg #[.int .u64 0, .int .u64 (x : Int)], .agg #[.int .u64 0, .int .u64 (y : Int)]] w (Gives w (.bool (decide (x < y)))) := by
  go_enter Tryz.func109, Tryz.ntmps109
  go_wp2
  go_ret
  exact Gives.mk rfl (((Below.refl _ _).alloc (Nat.le_refl _) _).alloc (by simp) _)
set_option maxRecDepth 100000 in
theorem minus_any (x y : Nat) (hy : y ≤ x) (hx : x < 2305843009213693952) (w : World) : Calls Tryz.prog 110 #[.agg #[.int .u64 0, .int .u64 (x : Int)], .agg #[.int .u64 0, .int .u64 (y : Int)]] w (Gives w (.agg #[.int .u64 0, .int .u64 ((x - y : Nat) : Int)])) := by
  have hd : ¬ (x : Int) < (y : Int) := by omega
  go_enter Tryz.func110, Tryz.ntmps110
  go_wp2
  go_returns
  exact Gives.mk (by rw [Int.ofNat_sub hy]) ((((Below.refl _ _).alloc (Nat.le_refl _) _).alloc (by simp) _).alloc (by simp; omega) _)
set_option maxRecDepth 100000 in
theorem plus_any (x y : Nat) (hx : x < 2305843009213693952) (hy : y < 2305843009213693952) (w : World) : Calls Tryz.prog 111 #[.agg #[.int .u64 0, .int .u64 (x : Int)], .agg #[.int .u64 0, .int .u64 (y : Int)]] w (Gives w (.agg #[.int .u64 0, .int .u64 ((x + y : Nat) : Int)])) := by
  go_enter Tryz.func111, Tryz.ntmps111
  go_wp2
  go_returns
  exact Gives.mk (by rw [Int.natCast_add]) ((((Below.refl _ _).alloc (Nat.le_refl _) _).alloc (by simp) _).alloc (by simp; omega) _)
end Go.Proofs.YtgamhdbcejkllaaGreatDoor
