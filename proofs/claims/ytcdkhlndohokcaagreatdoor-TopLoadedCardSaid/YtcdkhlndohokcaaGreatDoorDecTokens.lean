/- decimal.Tokens: what it computes. -/
import Derived.Test.YtcdkhlndohokcaaGreatDoorDecSym
import Derived.Deep.DeepCutAuto
import Derived.Test.YtcdkhlndohokcaaGreatDoorOwn
import Derived.Test.YtcdkhlndohokcaaGreatDoorQuietTail

namespace Go.Proofs.YtcdkhlndohokcaaGreatDoor
open Go.RowKit

def TokD.cells (t : TokD) : List Value := [.int .i64 t.kind, .string t.text, .int .i64 t.line, .int .i64 t.col]
def tokCells (l : List TokD) : List Value := l.flatMap TokD.cells
theorem tokCells_append (a b : List TokD) : tokCells (a ++ b) = tokCells a ++ tokCells b := by simp [tokCells]
theorem tokCells_one (t : TokD) : tokCells [t] = TokD.cells t := by simp [tokCells]
section
variable {w : World} {tv : Value} {acc : List TokD} {line col : Int} {wr : World}
end
theorem ext_size (S : ByteArray) (n : Nat) : (S.extract n S.size).size = S.size - n := by rw [ByteArray.size_extract]; omega
theorem bs_drop (S : ByteArray) (n : Nat) : bs (S.extract n S.size) = (bs S).drop n := by
  rw [bs_data, bs_data, Lib.extract_data, List.take_of_length_le]
  rw [List.length_drop, ← bs_data, bs_length]
  omega
theorem bs_take (S : ByteArray) (n : Nat) : S.extract 0 n = ⟨((bs S).take n).toArray⟩ := by
  rw [Lib.extract_eq, bs_data]; simp
theorem letter_bounds {c : Int} (h : letterB c = true) : 65 ≤ c ∧ c ≤ 122 := by
  unfold letterB at h
  simp only [Bool.or_eq_true, Bool.and_eq_true, decide_eq_true_eq] at h
  omega
theorem digit_bounds {c : Int} (h : digitB c = true) : 48 ≤ c ∧ c ≤ 57 := by
  unfold digitB at h
  simp only [Bool.and_eq_true, decide_eq_true_eq] at h
  omega
end Go.Proofs.YtcdkhlndohokcaaGreatDoor
