/- decimal.numeral and decimal.symbol: what they compute. -/
import Derived.Test.YtcdkhlndohokcaaGreatDoorDecTok
import Derived.Test.YtcdkhlndohokcaaGreatDoorDecLib
namespace Go.Proofs.YtcdkhlndohokcaaGreatDoor
open Go.RowKit

theorem DigTo.len {s : ByteArray} {i k : Nat} (h : DigTo (bs s) i k) (hi : i ≤ k) (hk : k ≤ s.size) (hn : ∀ c, (bs s)[k]? = some c → isDig c = false) : i + digLen ((bs s).drop i) = k := by
  rw [digLen_spec ((bs s).drop i) (k - i) (fun j hj => by simpa using h (i + j) (by omega) (by omega)) (fun c hc => hn c (by rw [List.getElem?_drop] at hc; rw [← hc]; congr 1; omega)) (by simp [bs_length]; omega)]
  omega
theorem bs_none {s : ByteArray} {k : Nat} (h : s.size ≤ k) (c : UInt8) : (bs s)[k]? = some c → isDig c = false := fun hc => by
  have := (List.getElem?_eq_some_iff.1 hc).1; rw [bs_length] at this; omega
theorem bs_not {s : ByteArray} {k : Nat} (h : k < s.size) (hd : digitB (s[k].toNat : Int) = false) (c : UInt8) : (bs s)[k]? = some c → isDig c = false := fun hc => by
  rw [bs_get s k h] at hc; injection hc with hc; rw [← hc]; exact hd
theorem numLen_no {l : List UInt8} {k : Nat} (h : digLen l = k) (hp : pointAt l k = false) : numLen l = k := by
  unfold numLen; rw [h, hp]; rfl
theorem numLen_yes {l : List UInt8} {k m : Nat} (h : digLen l = k) (hp : pointAt l k = true) (h2 : k + 1 + digLen (l.drop (k + 1)) = m) : numLen l = m := by
  unfold numLen; rw [h, hp]; exact h2

theorem oneB_fin : ∀ k : Fin 256, decide (0 ≤ Lib.indexByte alone (UInt8.ofNat k.val)) = oneB (UInt8.ofNat k.val) := by decide +kernel
theorem oneB_index (c : UInt8) : decide (0 ≤ Lib.indexByte alone c) = oneB c := by
  have := oneB_fin ⟨c.toNat, c.toNat_lt⟩
  simpa using this
theorem twoB_or {l : List UInt8} (h1 : Lib.hasPrefix l [62, 61] = false) (h2 : Lib.hasPrefix l [60, 61] = false) (h3 : Lib.hasPrefix l [58, 61] = false) : twoB l = false := by
  unfold twoB
  unfold Lib.hasPrefix at h1 h2 h3
  rw [h1, h2, h3]; rfl
theorem symLen_two {l : List UInt8} (h : twoB l = true) : symLen l = 2 := by simp [symLen, h]
theorem symLen_one {s : ByteArray} (h0 : 0 < s.size) (h : twoB (bs s) = false) : symLen (bs s) = if (0 : Int) ≤ Lib.indexByte alone s[0] then 1 else 0 := by
  have e : (bs s).headD 0 = s[0] := by rw [List.headD_eq_head?_getD, head_of_get h0]; rfl
  unfold symLen
  rw [h, e, ← oneB_index]
  simp
theorem bool_or (b : Bool) : b = false ∨ b = true := by cases b <;> simp
end Go.Proofs.YtcdkhlndohokcaaGreatDoor
