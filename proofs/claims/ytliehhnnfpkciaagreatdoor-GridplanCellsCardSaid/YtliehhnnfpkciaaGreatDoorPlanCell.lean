/- What a cell of the plan shows, and the set whose pipe covers it: in plain Lean. -/
import Derived.Test.YtliehhnnfpkciaaGreatDoorPlanSeen
import Derived.Test.YtliehhnnfpkciaaGreatDoorPlanAt
import Derived.Lib.SlTrimSet
namespace Go.Proofs.YtliehhnnfpkciaaGreatDoor
open Go.RowKit

theorem markByte_in (m : Int) : ([111, 35, 45, 46] : List UInt8).contains (markByte m) = true := by
  unfold markByte
  split
  · rfl
  · split
    · rfl
    · split <;> rfl
theorem dropWhile_all {p : UInt8 → Bool} : ∀ {l : List UInt8}, (∀ c ∈ l, p c = true) → l.dropWhile p = []
  | [], _ => rfl
  | c :: l, h => by
    rw [List.dropWhile_cons, if_pos (h c (by simp))]
    exact dropWhile_all fun d hd => h d (by simp [hd])
theorem trim_row {s : ByteArray} {l : List SetD} {scale : Int} {r : Nat} (h : ∀ c (h : c < s.size), s[c] = markByte (marks l scale r c)) : Lib.trimS s.data.toList [111, 35, 45, 46] = [] := by
  have hall : ∀ c ∈ s.data.toList, ([111, 35, 45, 46] : List UInt8).contains c = true := fun c hc => by
    rw [← bs_data] at hc
    obtain ⟨j, hj, e⟩ := List.getElem_of_mem hc
    rw [bs_length] at hj
    have h1 := bs_get s j hj
    rw [List.getElem?_eq_getElem (by rw [bs_length]; exact hj), e] at h1
    injection h1 with h1
    rw [h1, h j hj]
    exact markByte_in _
  have h2 : Lib.trimRightS s.data.toList [111, 35, 45, 46] = [] := by
    rw [Lib.trimRightS, dropWhile_all (fun c hc => hall c (List.mem_reverse.1 hc))]; rfl
  rw [Lib.trimS, h2]; rfl
theorem at_cell {l : List SetD} {scale : Int} (hs : 1 ≤ scale) (hl : ∀ s ∈ l, OnPipe s) (hn : ∀ s ∈ l, 0 < s.name.size) (r c : Nat) :
    (marks l scale r c = 0 ∧ atE l scale r c = .tuple #[.string ⟨#[]⟩, .int .i64 12]) ∨ (marks l scale r c ≠ 0 ∧ ∃ nm : ByteArray, 0 < nm.size ∧ atE l scale r c = .tuple #[.string nm, .int .i64 0]) := by
  have hz := marks_zero hs hl r c
  have hk : ∀ s : SetD, seenPipe s scale r c = true ↔ (s.depth / scale = (r : Int) ∧ (c : Int) ≤ s.length / scale) := fun s => by
    rw [Int.le_ediv_iff_mul_le (by omega)]
    simp [seenPipe]
  unfold atE
  cases hf : l.find? (fun s => seenPipe s scale r c) with
  | none =>
    refine Or.inl ⟨hz.2 fun s hsm hr hc => ?_, rfl⟩
    have := List.find?_eq_none.1 hf s hsm
    exact this ((hk s).2 ⟨hr, hc⟩)
  | some s =>
    have h1 := List.find?_some hf
    have h2 := List.mem_of_find?_eq_some hf
    refine Or.inr ⟨fun h => ?_, s.name, hn s h2, rfl⟩
    obtain ⟨a, b⟩ := (hk s).1 h1
    exact hz.1 h s h2 a b
theorem planText_ends (l : List SetD) (scale : Int) (C i : Nat) : Lib.hasSuffix (planText l scale C (i + 1)) [10] = true := by
  rw [planText_init]
  simp [Lib.hasSuffix]
end Go.Proofs.YtliehhnnfpkciaaGreatDoor
