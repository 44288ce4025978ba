/- The reference's Decimal of layer 10: the decimal numeral of any int. -/
import Derived.Test.YtgamhdbcejkllaaGreatDoorShelf
import Derived.Test.YtgamhdbcejkllaaGreatDoorBase
import Derived.Lib.ItoaNum
import Derived.Lib.ItoaLen
namespace Go.Proofs.YtgamhdbcejkllaaGreatDoor
open Go.RowKit

/-- the decimal numeral of a number, as a string -/
def numB (n : Int) : ByteArray := ⟨(Lib.itoa n).toArray⟩
theorem numB_size (n : Int) (h : I64 n) : (numB n).size ≤ 21 := by
  have := Lib.itoa_length_le n h.1 h.2
  simpa [numB, ByteArray.size] using this
theorem digit_utf8 : ∀ k : Nat, k < 10 → Utf8.encode (48 + (k : Int)) = ⟨#[UInt8.ofNat (48 + k)]⟩
  | 0, _ => by rfl
  | 1, _ => by rfl
  | 2, _ => by rfl
  | 3, _ => by rfl
  | 4, _ => by rfl
  | 5, _ => by rfl
  | 6, _ => by rfl
  | 7, _ => by rfl
  | 8, _ => by rfl
  | 9, _ => by rfl
  | k + 10, h => by omega
theorem array_append (a b : List UInt8) : (⟨(a ++ b).toArray⟩ : ByteArray) = ⟨a.toArray⟩ ++ ⟨b.toArray⟩ := by
  apply ByteArray.ext
  rw [ByteArray.data_append]
  simp
theorem num_small (k : Nat) (h : k < 10) : numB (k : Int) = ⟨#[UInt8.ofNat (48 + k)]⟩ := by
  rw [numB, Lib.itoa, if_neg (by omega), show ((k : Int)).toNat = k by omega, Lib.decDigits, dif_pos h]
theorem num_big (q k : Nat) (h : k < 10) (hq : 0 < q) : numB ((10 * q + k : Nat) : Int) = numB (q : Int) ++ ⟨#[UInt8.ofNat (48 + k)]⟩ := by
  have e : Lib.itoa ((10 * q + k : Nat) : Int) = Lib.itoa (q : Int) ++ [UInt8.ofNat (48 + k)] := by
    rw [Lib.itoa, if_neg (by omega), Lib.itoa, if_neg (by omega), show (((10 * q + k : Nat) : Int)).toNat = 10 * q + k by omega, show ((q : Int)).toNat = q by omega, Lib.decDigits, dif_neg (by omega)]
    rw [show (10 * q + k) / 10 = q by omega, show (10 * q + k) % 10 = k by omega]
  rw [numB, e, array_append]; rfl
theorem num_neg_small (k : Nat) (h : k < 10) (h0 : 0 < k) : numB (-(k : Int)) = ⟨#[45]⟩ ++ ⟨#[UInt8.ofNat (48 + k)]⟩ := by
  have e : Lib.itoa (-(k : Int)) = [45] ++ [UInt8.ofNat (48 + k)] := by
    rw [Lib.itoa, if_pos (by omega), show (-(k : Int)).natAbs = k by omega, Lib.decDigits, dif_pos h]; rfl
  rw [numB, e, array_append]
theorem num_neg_big (q k : Nat) (h : k < 10) (hq : 0 < q) : numB (-((10 * q + k : Nat) : Int)) = numB (-(q : Int)) ++ ⟨#[UInt8.ofNat (48 + k)]⟩ := by
  have e : Lib.itoa (-((10 * q + k : Nat) : Int)) = Lib.itoa (-(q : Int)) ++ [UInt8.ofNat (48 + k)] := by
    rw [Lib.itoa, if_pos (by omega), Lib.itoa, if_pos (by omega), show (-((10 * q + k : Nat) : Int)).natAbs = 10 * q + k by omega, show (-(q : Int)).natAbs = q by omega]
    conv => lhs; rw [Lib.decDigits]
    rw [dif_neg (by omega), show (10 * q + k) / 10 = q by omega, show (10 * q + k) % 10 = k by omega, List.cons_append]
  rw [numB, e, array_append]; rfl
theorem one_size (c : UInt8) : (⟨#[c]⟩ : ByteArray).size = 1 := rfl
set_option maxRecDepth 100000 in
set_option maxHeartbeats 4000000 in
theorem refDecimal_nat : ∀ (m : Nat) (n : Int), n.natAbs = m → I64 n → ∀ w : World, Calls Tryz.prog 29 #[.int .i64 n] w (Gives w (.string (numB n))) := by
  intro m
  induction m using Nat.strongRecOn with
  | _ m ih =>
  intro n hm h64 w
  unfold I64 at h64
  rcases (show n < 0 ∨ 0 ≤ n by omega) with hneg | hpos
  · obtain ⟨q, k, hk, rfl⟩ : ∃ q k : Nat, k < 10 ∧ n = -((10 * q + k : Nat) : Int) := ⟨n.natAbs / 10, n.natAbs % 10, by omega, by omega⟩
    have hu := digit_utf8 k hk
    have hqk : (-((10 * q + k : Nat) : Int)) = -(10 * (q : Int) + (k : Int)) := by omega
    rcases Nat.eq_zero_or_pos q with h0 | h0
    · subst h0
      have hk0 : 0 < k := by omega
      have HF0 := num_neg_small k hk hk0
      have e0 : (-((10 * 0 + k : Nat) : Int)) = -(k : Int) := by omega
      rw [e0]
      obtain ⟨C, hC⟩ : ∃ C : ByteArray, C = ⟨#[UInt8.ofNat (48 + k)]⟩ := ⟨_, rfl⟩
      have hCs : C.size = 1 := by rw [hC]; rfl
      rw [← hC] at HF0 hu
      have HF := hide HF0
      have hlt : -(k : Int) < 0 := by omega
      have hgt : -10 < -(k : Int) := by omega
      clear HF0 ih hm hC e0 hqk hneg h64
      go_enter Tryz.func29, Tryz.ntmps29
      go_wp2
      go_ret
      exact Gives.mk (by rw [HF.out]; rfl) (Below.refl _ _)
    · have HF0 := num_neg_big q k hk h0
      have KI := hide (ih q (by omega) (-(q : Int)) (by omega) (by unfold I64; omega))
      have hs1 := numB_size (-(q : Int)) (by unfold I64; omega)
      rw [hqk] at HF0 ⊢
      obtain ⟨C, hC⟩ : ∃ C : ByteArray, C = ⟨#[UInt8.ofNat (48 + k)]⟩ := ⟨_, rfl⟩
      have hCs : C.size = 1 := by rw [hC]; rfl
      rw [← hC] at HF0 hu
      obtain ⟨S, hS⟩ : ∃ S, S = numB (-(q : Int)) := ⟨_, rfl⟩
      rw [← hS] at KI HF0 hs1
      obtain ⟨N, hN⟩ : ∃ N, N = -(10 * (q : Int) + (k : Int)) := ⟨_, rfl⟩
      obtain ⟨M, hM⟩ : ∃ M, M = (k : Int) := ⟨_, rfl⟩
      obtain ⟨Qn, hQ⟩ : ∃ Qn, Qn = -(q : Int) := ⟨_, rfl⟩
      have hdiv : N.tdiv 10 = Qn := by rw [hN, Int.neg_tdiv, Int.tdiv_eq_ediv_of_nonneg (by omega)]; omega
      have hmod : N.tmod 10 = -M := by rw [hN, Int.neg_tmod, Int.tmod_eq_emod_of_nonneg (by omega)]; omega
      have hm0 : 0 ≤ M := by omega
      have hm9 : M < 10 := by omega
      have hq9 : -9223372036854775808 ≤ Qn := by omega
      have hq8 : Qn < 0 := by omega
      rw [← hM] at hu
      rw [← hQ] at KI
      have hlt : N < 0 := by omega
      have hgt : N ≤ -10 := by omega
      have hlo : -9223372036854775808 ≤ N := by omega
      rw [← hN] at HF0 ⊢
      have HF := hide HF0
      clear HF0 ih hm hC hS hqk hN hM hQ h64 hneg hk h0
      go_enter Tryz.func29, Tryz.ntmps29
      go_wp2_with fail
      refine (KI.out _).mono ?_
      rintro e w1 ⟨rfl, hb⟩
      go_wp2
      go_ret
      exact Gives.mk (by rw [HF.out]; rfl) hb
  · obtain ⟨q, k, hk, rfl⟩ : ∃ q k : Nat, k < 10 ∧ n = ((10 * q + k : Nat) : Int) := ⟨n.natAbs / 10, n.natAbs % 10, by omega, by omega⟩
    have hqk : ((10 * q + k : Nat) : Int) = 10 * (q : Int) + (k : Int) := by omega
    have hu := digit_utf8 k hk
    rcases Nat.eq_zero_or_pos q with h0 | h0
    · subst h0
      have HF0 := num_small k hk
      have e0 : ((10 * 0 + k : Nat) : Int) = (k : Int) := by omega
      rw [e0]
      obtain ⟨C, hC⟩ : ∃ C : ByteArray, C = ⟨#[UInt8.ofNat (48 + k)]⟩ := ⟨_, rfl⟩
      have hCs : C.size = 1 := by rw [hC]; rfl
      rw [← hC] at HF0 hu
      obtain ⟨N, hN⟩ : ∃ N, N = (k : Int) := ⟨_, rfl⟩
      obtain ⟨M, hM⟩ : ∃ M, M = (k : Int) := ⟨_, rfl⟩
      have hmod : N.tmod 10 = M := by rw [Int.tmod_eq_emod_of_nonneg (by omega)]; omega
      have hmod2 : N % 10 = M := by omega
      have hlt : N < 10 := by omega
      have hlt0 : ¬ N < 0 := by omega
      have hm0 : 0 ≤ M := by omega
      have hm9 : M < 10 := by omega
      rw [← hM] at hu
      rw [← hN] at HF0 ⊢
      have HF := hide HF0
      clear HF0 ih hm hC e0 hqk hN hM hpos h64 hk
      go_enter Tryz.func29, Tryz.ntmps29
      go_wp2
      go_ret
      exact Gives.mk (by rw [HF.out]; rfl) (Below.refl _ _)
    · have HF0 := num_big q k hk h0
      have KI := hide (ih q (by omega) (q : Int) (by omega) (by unfold I64; omega))
      have hs1 := numB_size (q : Int) (by unfold I64; omega)
      rw [hqk] at HF0 ⊢
      obtain ⟨C, hC⟩ : ∃ C : ByteArray, C = ⟨#[UInt8.ofNat (48 + k)]⟩ := ⟨_, rfl⟩
      have hCs : C.size = 1 := by rw [hC]; rfl
      rw [← hC] at HF0 hu
      obtain ⟨S, hS⟩ : ∃ S, S = numB (q : Int) := ⟨_, rfl⟩
      rw [← hS] at KI HF0 hs1
      have hdiv : (10 * (q : Int) + (k : Int)).tdiv 10 = (q : Int) := by rw [Int.tdiv_eq_ediv_of_nonneg (by omega)]; omega
      have hmod : (10 * (q : Int) + (k : Int)).tmod 10 = (k : Int) := by rw [Int.tmod_eq_emod_of_nonneg (by omega)]; omega
      have hdiv2 : (10 * (q : Int) + (k : Int)) / 10 = (q : Int) := by omega
      have hmod2 : (10 * (q : Int) + (k : Int)) % 10 = (k : Int) := by omega
      have hge : 10 ≤ 10 * (q : Int) + (k : Int) := by omega
      have hge0 : ¬ 10 * (q : Int) + (k : Int) < 0 := by omega
      have HF := hide HF0
      clear HF0 ih hm hS hC
      go_enter Tryz.func29, Tryz.ntmps29
      go_wp2_with fail
      refine (KI.out _).mono ?_
      rintro e w1 ⟨rfl, hb⟩
      go_wp2
      go_ret
      exact Gives.mk (by rw [HF.out]; rfl) hb
theorem refDecimal_any (n : Int) (h : I64 n) (w : World) : Calls Tryz.prog 29 #[.int .i64 n] w (Gives w (.string (numB n))) := refDecimal_nat _ n rfl h w
end Go.Proofs.YtgamhdbcejkllaaGreatDoor
