/- Decimal numerals as lists of bytes, in plain Lean. -/
import Derived.Lib.ItoaNum
import Derived.Test.YtcdkhlndohokcaaGreatDoorNames
namespace Go.Proofs.YtcdkhlndohokcaaGreatDoor
open Go Go.Lib

def isDig (c : UInt8) : Bool := digitB (c.toNat : Int)
/-- digits alone, at least one -/
def allDig (l : List UInt8) : Bool := !l.isEmpty && l.all isDig
/-- the j lowest decimal digits of u -/
def lowDigits (u : Nat) : Nat → List UInt8
  | 0 => []
  | j + 1 => dg u j :: lowDigits u j
theorem lowDigits_length (u : Nat) : ∀ j, (lowDigits u j).length = j
  | 0 => rfl
  | j + 1 => by simp [lowDigits, lowDigits_length u j]
theorem dg_add (u a b : Nat) : dg u (a + b) = dg (u / 10 ^ b) a := by
  unfold dg
  rw [Nat.div_div_eq_div_mul, ← Nat.pow_add, Nat.add_comm b a]
theorem lowDigits_add (u b : Nat) : ∀ a, lowDigits u (a + b) = lowDigits (u / 10 ^ b) a ++ lowDigits u b
  | 0 => by simp [lowDigits]
  | a + 1 => by
    rw [Nat.add_right_comm]
    simp [lowDigits, lowDigits_add u b a, dg_add]
theorem lowDigits_one (u : Nat) : lowDigits u 1 = [UInt8.ofNat (48 + u % 10)] := by simp [lowDigits, dg]
theorem lowDigits_succ (u j : Nat) : lowDigits u (j + 1) = lowDigits (u / 10) j ++ [UInt8.ofNat (48 + u % 10)] := by
  rw [lowDigits_add u 1 j, lowDigits_one, Nat.pow_one]
theorem decDigits_low (u : Nat) : decDigits u = lowDigits u (nDigits u) := by
  induction u using Nat.strongRecOn with
  | _ u ih =>
    by_cases h : u < 10
    · rw [decDigits, dif_pos h, nDigits_small h, lowDigits_one, Nat.mod_eq_of_lt h]
    · rw [decDigits, dif_neg h, nDigits_big h, ih (u / 10) (by omega), lowDigits_succ]
theorem nDigits_div (u : Nat) : ∀ k, nDigits (u / 10 ^ k) + k = max (k + 1) (nDigits u)
  | 0 => by have := nDigits_pos u; simp; omega
  | k + 1 => by
    have ih := nDigits_div u k
    have hp := nDigits_pos (u / 10 ^ k / 10)
    rw [Nat.pow_succ, ← Nat.div_div_eq_div_mul]
    by_cases h : u / 10 ^ k < 10
    · rw [nDigits_small h] at ih
      rw [nDigits_small (show u / 10 ^ k / 10 < 10 by omega)]
      omega
    · rw [nDigits_big h] at ih
      omega
/-- a numeral of at least m digits -/
def padDec (u m : Nat) : List UInt8 := List.replicate (m - nDigits u) 48 ++ decDigits u
theorem nDigits_le (u k : Nat) (h : u < 10 ^ (k + 1)) : nDigits u ≤ k + 1 := by
  have := nDigits_div u k
  have h2 : u / 10 ^ k < 10 := Nat.div_lt_of_lt_mul (by rw [← Nat.pow_succ]; exact h)
  rw [nDigits_small h2] at this
  omega
/-- the value of digits behind a number -/
def valN (n : Nat) (l : List UInt8) : Nat := l.foldl (fun n c => 10 * n + (c.toNat - 48)) n
theorem valN_nil (n : Nat) : valN n [] = n := by unfold valN; rw [List.foldl_nil]
theorem valN_cons (n : Nat) (c : UInt8) (l : List UInt8) : valN n (c :: l) = valN (10 * n + (c.toNat - 48)) l := by unfold valN; rw [List.foldl_cons]
theorem valN_append (l l' : List UInt8) (n : Nat) : valN n (l ++ l') = valN (valN n l) l' := by
  unfold valN
  rw [List.foldl_append]
theorem valN_from : ∀ (l : List UInt8) (n : Nat), valN n l = n * 10 ^ l.length + valN 0 l
  | [], n => by simp [valN_nil]
  | c :: l, n => by
    simp only [valN_cons, List.length_cons]
    rw [valN_from l (10 * n + (c.toNat - 48)), valN_from l (10 * 0 + (c.toNat - 48)), Nat.pow_succ, Nat.add_mul, Nat.mul_comm 10 n, Nat.mul_assoc, Nat.mul_comm 10 (10 ^ l.length)]
    simp [Nat.add_assoc]
theorem valN_ge (l : List UInt8) (n : Nat) : n ≤ valN n l := by
  rw [valN_from]
  have : 1 ≤ 10 ^ l.length := Nat.one_le_pow _ _ (by decide)
  have : n * 1 ≤ n * 10 ^ l.length := Nat.mul_le_mul_left _ this
  omega
theorem dig_bounds {c : UInt8} (h : isDig c = true) : 48 ≤ c.toNat ∧ c.toNat ≤ 57 := by
  have : 48 ≤ (c.toNat : Int) ∧ (c.toNat : Int) ≤ 57 := by simpa [isDig, digitB] using h
  omega
theorem valN_lt : ∀ (l : List UInt8), l.all isDig = true → valN 0 l < 10 ^ l.length
  | [], _ => by simp [valN_nil]
  | c :: l, h => by
    simp only [List.all_cons, Bool.and_eq_true] at h
    have hc := dig_bounds h.1
    have := valN_lt l h.2
    simp only [valN_cons, List.length_cons]
    rw [valN_from, Nat.pow_succ]
    have : (10 * 0 + (c.toNat - 48)) * 10 ^ l.length ≤ 9 * 10 ^ l.length := Nat.mul_le_mul_right _ (by omega)
    omega
theorem isDig_dg (u j : Nat) : isDig (dg u j) = true := by
  have hm : u / 10 ^ j % 10 < 10 := Nat.mod_lt _ (by decide)
  have : (dg u j).toNat = 48 + u / 10 ^ j % 10 := by
    unfold dg
    exact UInt8.toNat_ofNat_of_lt' (by simp only [UInt8.size]; omega)
  simp [isDig, digitB, this]
  omega
theorem dg_toNat (u j : Nat) : (dg u j).toNat = 48 + u / 10 ^ j % 10 := by
  have hm : u / 10 ^ j % 10 < 10 := Nat.mod_lt _ (by decide)
  unfold dg
  exact UInt8.toNat_ofNat_of_lt' (by simp only [UInt8.size]; omega)
theorem lowDigits_all (u : Nat) : ∀ j, (lowDigits u j).all isDig = true
  | 0 => rfl
  | j + 1 => by simp [lowDigits, isDig_dg, lowDigits_all u j]
theorem decDigits_all (u : Nat) : (decDigits u).all isDig = true := by rw [decDigits_low]; exact lowDigits_all _ _
theorem valN_low (u : Nat) : ∀ j, valN 0 (lowDigits u j) = u % 10 ^ j
  | 0 => by simp [lowDigits, valN_nil, Nat.mod_one]
  | j + 1 => by
    simp only [lowDigits, valN_cons]
    rw [valN_from, lowDigits_length, valN_low u j, dg_toNat, Nat.mod_pow_succ]
    simp [Nat.mul_comm, Nat.add_comm]
theorem valN_dec (u : Nat) : valN 0 (decDigits u) = u := by
  rw [decDigits_low, valN_low, Nat.mod_eq_of_lt (lt_pow_nDigits u)]
theorem low_val : ∀ (l : List UInt8), l.all isDig = true → ∀ n : Nat, lowDigits (n * 10 ^ l.length + valN 0 l) l.length = l
  | [], _, _ => rfl
  | c :: l, h, n => by
    simp only [List.all_cons, Bool.and_eq_true] at h
    have hc := dig_bounds h.1
    have hlt := valN_lt l h.2
    simp only [valN_cons, List.length_cons, lowDigits]
    rw [valN_from l (10 * 0 + (c.toNat - 48)), Nat.mul_zero, Nat.zero_add]
    have e : n * 10 ^ (l.length + 1) + ((c.toNat - 48) * 10 ^ l.length + valN 0 l) = (n * 10 + (c.toNat - 48)) * 10 ^ l.length + valN 0 l := by
      rw [Nat.pow_succ, Nat.mul_comm (10 ^ l.length) 10, ← Nat.mul_assoc, Nat.add_mul, Nat.add_assoc]
    rw [e, low_val l h.2]
    congr 1
    apply UInt8.toNat_inj.1
    rw [dg_toNat, Nat.mul_comm, Nat.mul_add_div (Nat.pow_pos (by decide)), Nat.div_eq_of_lt hlt]
    omega
theorem allDig_dec (u : Nat) : allDig (decDigits u) = true := by
  have h1 := nDigits_pos u
  have h2 := decDigits_length u
  have h3 := decDigits_all u
  cases hd : decDigits u with
  | nil => rw [hd] at h2; simp at h2; omega
  | cons c l => rw [hd] at h3; unfold allDig; rw [h3]; rfl
/-- a numeral of more digits than one does not begin with a zero -/
theorem dec_head (u : Nat) (h : 1 < (decDigits u).length) : (decDigits u).head? ≠ some 48 := by
  rw [decDigits_length] at h
  obtain ⟨k, hk⟩ : ∃ k, nDigits u = k + 1 := ⟨nDigits u - 1, by omega⟩
  rw [decDigits_low, hk]
  simp only [lowDigits, List.head?_cons, ne_eq, Option.some.injEq]
  intro e
  have e2 : (dg u k).toNat = 48 := by rw [e]; rfl
  rw [dg_toNat] at e2
  have hlt := lt_pow_nDigits u
  rw [hk, Nat.pow_succ] at hlt
  have : u / 10 ^ k < 10 := Nat.div_lt_of_lt_mul hlt
  rw [Nat.mod_eq_of_lt this] at e2
  have h0 : u < 10 ^ k := by
    rcases Nat.lt_or_ge u (10 ^ k) with h | h
    · exact h
    · have := Nat.div_pos h (Nat.pow_pos (by decide)); omega
  have := nDigits_le u (k - 1) (by rw [show k - 1 + 1 = k by omega]; exact h0)
  omega
theorem all_of_allDig {l : List UInt8} (h : allDig l = true) : l.all isDig = true := by
  unfold allDig at h; rw [Bool.and_eq_true] at h; exact h.2
/-- digits without a zero ahead are the numeral of their value -/
theorem dec_val {ds : List UInt8} (h : allDig ds = true) (h0 : (decide (1 < ds.length) && ds.head? == some 48) = false) : decDigits (valN 0 ds) = ds := by
  have hall := all_of_allDig h
  have hlt := valN_lt ds hall
  have hpos : 0 < ds.length := by
    cases ds with
    | nil => simp [allDig] at h
    | cons => simp
  have hn : nDigits (valN 0 ds) = ds.length := by
    by_cases h1 : 1 < ds.length
    · obtain ⟨k, hk⟩ : ∃ k, ds.length = k + 1 := ⟨ds.length - 1, by omega⟩
      rw [hk] at hlt ⊢
      refine nDigits_unique k _ ?_ hlt
      cases ds with
      | nil => simp at hpos
      | cons c l =>
        simp only [List.all_cons, Bool.and_eq_true] at hall
        have hc := dig_bounds hall.1
        simp only [List.length_cons, Nat.add_right_cancel_iff] at hk
        have hne : c.toNat ≠ 48 := by
          intro e
          have : c = 48 := UInt8.toNat_inj.1 e
          rw [this] at h0
          simp only [List.length_cons, List.head?_cons] at h0
          simp at h0
          rw [h0] at h1
          simp at h1
        rw [valN_cons, valN_from, hk]
        have : 1 * 10 ^ k ≤ (10 * 0 + (c.toNat - 48)) * 10 ^ k := Nat.mul_le_mul_right _ (by omega)
        omega
    · have e : ds.length = 1 := by omega
      rw [e] at hlt ⊢
      exact nDigits_small (by simpa using hlt)
  rw [decDigits_low, hn]
  have := low_val ds hall 0
  rwa [Nat.zero_mul, Nat.zero_add] at this
end Go.Proofs.YtcdkhlndohokcaaGreatDoor
