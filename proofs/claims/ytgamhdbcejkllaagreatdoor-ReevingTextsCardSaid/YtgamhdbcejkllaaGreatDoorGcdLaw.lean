/- The greatest common divisor by halving and subtracting: the steps, in plain Lean. -/
import Derived.Test.YtgamhdbcejkllaaGreatDoorBase
namespace Go.Proofs.YtgamhdbcejkllaaGreatDoor

theorem gcd_half {x b : Nat} (h : Nat.gcd (2 * x) b % 2 = 1) : Nat.gcd x b = Nat.gcd (2 * x) b := by
  apply Nat.dvd_antisymm
  · exact Nat.dvd_gcd (Nat.dvd_trans (Nat.gcd_dvd_left x b) (Nat.dvd_mul_left x 2)) (Nat.gcd_dvd_right x b)
  · have hc : Nat.Coprime (Nat.gcd (2 * x) b) 2 := by
      have h1 : Nat.gcd (Nat.gcd (2 * x) b) 2 ∣ 2 := Nat.gcd_dvd_right _ _
      have h2 : Nat.gcd (Nat.gcd (2 * x) b) 2 ∣ Nat.gcd (2 * x) b := Nat.gcd_dvd_left _ _
      have h3 := Nat.le_of_dvd (by omega) h1
      have h4 : Nat.gcd (Nat.gcd (2 * x) b) 2 ≠ 2 := fun e => by rw [e] at h2; omega
      have h5 : Nat.gcd (Nat.gcd (2 * x) b) 2 ≠ 0 := fun e => by rw [e] at h1; omega
      show Nat.gcd (Nat.gcd (2 * x) b) 2 = 1
      omega
    exact Nat.dvd_gcd (hc.dvd_of_dvd_mul_left (Nat.gcd_dvd_left (2 * x) b)) (Nat.gcd_dvd_right (2 * x) b)
theorem gcd_half' {x b : Nat} (h : Nat.gcd b (2 * x) % 2 = 1) : Nat.gcd b x = Nat.gcd b (2 * x) := by
  rw [Nat.gcd_comm b x, Nat.gcd_comm b (2 * x)]
  rw [Nat.gcd_comm] at h
  exact gcd_half h
theorem gcd_both (x y : Nat) : Nat.gcd (2 * x) (2 * y) = 2 * Nat.gcd x y := Nat.gcd_mul_left 2 x y
theorem gcd_minus {a b : Nat} (h : b ≤ a) : Nat.gcd (a - b) b = Nat.gcd a b := Nat.gcd_sub_self_left h
theorem gcd_odd {a b : Nat} (h : a % 2 = 1 ∨ b % 2 = 1) : Nat.gcd a b % 2 = 1 := by
  have h1 := Nat.gcd_dvd_left a b
  have h2 := Nat.gcd_dvd_right a b
  rcases Nat.mod_two_eq_zero_or_one (Nat.gcd a b) with e | e
  · have e2 := Nat.dvd_of_mod_eq_zero e
    have := Nat.dvd_trans e2 h1
    have := Nat.dvd_trans e2 h2
    omega
  · exact e
end Go.Proofs.YtgamhdbcejkllaaGreatDoor
