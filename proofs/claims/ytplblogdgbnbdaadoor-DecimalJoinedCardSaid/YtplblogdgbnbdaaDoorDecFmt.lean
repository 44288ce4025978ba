/- Decimal numerals as lists of bytes: what Format gives, in plain Lean. -/
import Derived.Lib.ItoaNum
import Derived.Test.YtplblogdgbnbdaaDoorBase
namespace Go.Proofs.YtplblogdgbnbdaaDoor
open Go Go.Lib

/-- the j lowest decimal digits of u -/
def lowDigits (u : Nat) : Nat → List UInt8
  | 0 => []
  | j + 1 => dg u j :: lowDigits u j
theorem lowDigits_length (u : Nat) : ∀ j, (lowDigits u j).length = j
  | 0 => rfl
  | j + 1 => by simp [lowDigits, lowDigits_length u j]
theorem dg_add (u a b : Nat) : dg u (a + b) = dg (u / 10 ^ b) a := by
  unfold dg
  rw [Nat.div_div_eq_div_mul, ← Nat.pow_add, Nat.add_comm b a]
theorem lowDigits_add (u b : Nat) : ∀ a, lowDigits u (a + b) = lowDigits (u / 10 ^ b) a ++ lowDigits u b
  | 0 => by simp [lowDigits]
  | a + 1 => by
    rw [Nat.add_right_comm]
    simp [lowDigits, lowDigits_add u b a, dg_add]
theorem lowDigits_one (u : Nat) : lowDigits u 1 = [UInt8.ofNat (48 + u % 10)] := by simp [lowDigits, dg]
theorem lowDigits_succ (u j : Nat) : lowDigits u (j + 1) = lowDigits (u / 10) j ++ [UInt8.ofNat (48 + u % 10)] := by
  rw [lowDigits_add u 1 j, lowDigits_one, Nat.pow_one]
theorem decDigits_low (u : Nat) : decDigits u = lowDigits u (nDigits u) := by
  induction u using Nat.strongRecOn with
  | _ u ih =>
    by_cases h : u < 10
    · rw [decDigits, dif_pos h, nDigits_small h, lowDigits_one, Nat.mod_eq_of_lt h]
    · rw [decDigits, dif_neg h, nDigits_big h, ih (u / 10) (by omega), lowDigits_succ]
theorem nDigits_div (u : Nat) : ∀ k, nDigits (u / 10 ^ k) + k = max (k + 1) (nDigits u)
  | 0 => by have := nDigits_pos u; simp; omega
  | k + 1 => by
    have ih := nDigits_div u k
    have hp := nDigits_pos (u / 10 ^ k / 10)
    rw [Nat.pow_succ, ← Nat.div_div_eq_div_mul]
    by_cases h : u / 10 ^ k < 10
    · rw [nDigits_small h] at ih
      rw [nDigits_small (show u / 10 ^ k / 10 < 10 by omega)]
      omega
    · rw [nDigits_big h] at ih
      omega
/-- a numeral of at least m digits -/
def padDec (u m : Nat) : List UInt8 := List.replicate (m - nDigits u) 48 ++ decDigits u
theorem dg_far (u j : Nat) (h : nDigits u ≤ j) : dg u j = 48 := by
  have h1 := lt_pow_nDigits u
  have h2 : 10 ^ nDigits u ≤ 10 ^ j := Nat.pow_le_pow_right (by decide) h
  unfold dg
  rw [Nat.div_eq_of_lt (by omega)]
  rfl
theorem lowDigits_far (u : Nat) : ∀ j, lowDigits u (j + nDigits u) = List.replicate j 48 ++ decDigits u
  | 0 => by simp [decDigits_low]
  | j + 1 => by
    rw [Nat.add_right_comm]
    simp only [lowDigits, List.replicate_succ, List.cons_append]
    rw [lowDigits_far u j, dg_far u _ (by omega)]
theorem padDec_low (u m : Nat) : padDec u m = lowDigits u (max m (nDigits u)) := by
  unfold padDec
  rw [← lowDigits_far, show m - nDigits u + nDigits u = max m (nDigits u) by omega]
theorem padDec_length (u m : Nat) : (padDec u m).length = max m (nDigits u) := by rw [padDec_low, lowDigits_length]
theorem padDec_split (u k : Nat) : padDec u (k + 1) = decDigits (u / 10 ^ k) ++ lowDigits u k := by
  rw [padDec_low, ← nDigits_div, lowDigits_add, decDigits_low]
theorem padDec_take (u k : Nat) : (padDec u (k + 1)).take ((padDec u (k + 1)).length - k) = decDigits (u / 10 ^ k) := by
  rw [padDec_split]
  simp [lowDigits_length]
theorem padDec_drop (u k : Nat) : (padDec u (k + 1)).drop ((padDec u (k + 1)).length - k) = lowDigits u k := by
  rw [padDec_split]
  simp [lowDigits_length]
/-- the decimal text of a number that is not negative -/
def fmtAbs (u k : Nat) : List UInt8 := decDigits (u / 10 ^ k) ++ if k = 0 then [] else 46 :: lowDigits u k
/-- the decimal text of a number -/
def fmtL (n : Int) (k : Nat) : List UInt8 := (if n < 0 then [45] else []) ++ fmtAbs n.natAbs k
theorem fmtAbs_zero (u : Nat) : fmtAbs u 0 = decDigits u := by simp [fmtAbs]
theorem padDec_one (u : Nat) : padDec u 1 = decDigits u := by
  have := nDigits_pos u
  unfold padDec
  rw [show 1 - nDigits u = 0 by omega]
  rfl
theorem fmtAbs_cut (u k : Nat) (hk : 0 < k) : fmtAbs u k = (padDec u (k + 1)).take ((padDec u (k + 1)).length - k) ++ 46 :: (padDec u (k + 1)).drop ((padDec u (k + 1)).length - k) := by
  rw [padDec_take, padDec_drop, fmtAbs, if_neg (by omega)]
theorem nDigits_le (u k : Nat) (h : u < 10 ^ (k + 1)) : nDigits u ≤ k + 1 := by
  have := nDigits_div u k
  have h2 : u / 10 ^ k < 10 := Nat.div_lt_of_lt_mul (by rw [← Nat.pow_succ]; exact h)
  rw [nDigits_small h2] at this
  omega
end Go.Proofs.YtplblogdgbnbdaaDoor
