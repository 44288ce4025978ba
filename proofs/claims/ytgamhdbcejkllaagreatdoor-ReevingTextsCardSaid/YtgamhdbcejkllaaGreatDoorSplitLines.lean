/- The parts of a text between the places of one byte, as the library splits them: in plain Lean. -/
import Derived.Lib.Split
import Derived.Test.YtgamhdbcejkllaaGreatDoorBase
namespace Go.Proofs.YtgamhdbcejkllaaGreatDoor
open Go

theorem occAt_one (l : List UInt8) (c : UInt8) (j : Nat) : Lib.occAt l [c] j = (l[j]? == some c) := by
  unfold Lib.occAt
  rcases Nat.lt_or_ge j l.length with h | h
  · rw [List.drop_eq_getElem_cons h, List.getElem?_eq_getElem h]
    simp [List.isPrefixOf, BEq.comm]
  · rw [List.drop_of_length_le h, List.getElem?_eq_none h]
    rfl
def partsOf (k : UInt8) : List UInt8 → List (List UInt8)
  | [] => [[]]
  | c :: l => if c = k then [] :: partsOf k l else match partsOf k l with | h :: t => (c :: h) :: t | [] => [[c]]
theorem partsOf_ne (k : UInt8) (l : List UInt8) : ∃ h t, partsOf k l = h :: t := by
  cases l with
  | nil => exact ⟨_, _, rfl⟩
  | cons c l =>
    unfold partsOf
    split
    · exact ⟨_, _, rfl⟩
    · split <;> exact ⟨_, _, rfl⟩
theorem partsOf_length (k : UInt8) : ∀ l : List UInt8, (partsOf k l).length = 1 + l.count k
  | [] => rfl
  | c :: l => by
    have ih := partsOf_length k l
    obtain ⟨h, t, e⟩ := partsOf_ne k l
    by_cases hc : c = k
    · subst hc; simp [partsOf, ih]; omega
    · rw [List.count_cons_of_ne hc, ← ih]
      simp [partsOf, hc, e]
theorem partsOf_cut {k : UInt8} : ∀ (w r : List UInt8), (∀ c ∈ w, c ≠ k) → partsOf k (w ++ k :: r) = w :: partsOf k r
  | [], r, _ => by simp [partsOf]
  | c :: w, r, h => by
    have hc : c ≠ k := h c (by simp)
    have := partsOf_cut w r (fun d hd => h d (by simp [hd]))
    simp [partsOf, hc, this]
theorem partsOf_plain {k : UInt8} : ∀ (w : List UInt8), (∀ c ∈ w, c ≠ k) → partsOf k w = [w]
  | [], _ => rfl
  | c :: w, h => by
    have hc : c ≠ k := h c (by simp)
    have := partsOf_plain w (fun d hd => h d (by simp [hd]))
    simp [partsOf, hc, this]
theorem partsOf_at (k : UInt8) : ∀ (a b : List UInt8), partsOf k (a ++ k :: b) = partsOf k a ++ partsOf k b
  | [], b => by simp [partsOf]
  | c :: a, b => by
    have ih := partsOf_at k a b
    by_cases hc : c = k
    · simp [partsOf, hc, ih]
    · obtain ⟨h, t, e⟩ := partsOf_ne k a
      simp [partsOf, hc, ih, e]
theorem cutAt (k : UInt8) (s : List UInt8) : (Lib.index s [k] = -1 ∧ ∀ c ∈ s, c ≠ k) ∨ ∃ w r, s = w ++ k :: r ∧ (∀ c ∈ w, c ≠ k) ∧ Lib.index s [k] = w.length := by
  rcases Lib.index_spec s [k] with ⟨h1, h2⟩ | ⟨m, h1, h2, h3, h4⟩
  · refine Or.inl ⟨h1, fun c hc e => ?_⟩
    obtain ⟨j, hj⟩ := List.mem_iff_getElem?.1 hc
    have := h2 j (Nat.le_of_lt (List.getElem?_eq_some_iff.1 hj).1)
    rw [occAt_one, hj, e] at this
    simp at this
  · rw [occAt_one] at h3
    have h3 : s[m]? = some k := by simpa using h3
    obtain ⟨hlt, e⟩ := List.getElem?_eq_some_iff.1 h3
    refine Or.inr ⟨s.take m, s.drop (m + 1), ?_, fun c hc => ?_, by rw [h1, List.length_take]; omega⟩
    · rw [← e]; simp
    · obtain ⟨j, hj⟩ := List.mem_iff_getElem?.1 hc
      have hjm : j < m := by have := (List.getElem?_eq_some_iff.1 hj).1; rw [List.length_take] at this; omega
      rw [List.getElem?_take_of_lt hjm] at hj
      have := h4 j hjm
      rw [occAt_one, hj] at this
      simpa using this
theorem count_none {k : UInt8} {s : List UInt8} (h : ∀ c ∈ s, c ≠ k) : s.count k = 0 := List.count_eq_zero.2 fun hc => h k hc rfl
theorem split_parts (k : UInt8) : ∀ (n : Nat) (s : List UInt8), s.length ≤ n → Lib.count s [k] = s.count k ∧ Lib.splitK [k] 0 (s.count k) s = partsOf k s
  | 0, s, h => by
    have : s = [] := List.eq_nil_of_length_eq_zero (by omega)
    subst this
    exact ⟨rfl, rfl⟩
  | n + 1, s, h => by
    rcases cutAt k s with ⟨h1, h2⟩ | ⟨w, r, rfl, hw, hi⟩
    · rw [count_none h2, partsOf_plain s h2]
      exact ⟨Lib.count_miss h1, rfl⟩
    · have hlen : r.length ≤ n := by simp at h; omega
      obtain ⟨i1, i2⟩ := split_parts k n r hlen
      have hdrop : (w ++ k :: r).drop (w.length + [k].length) = r := by simp
      have hc : (w ++ k :: r).count k = 1 + r.count k := by rw [List.count_append, count_none hw]; simp; omega
      refine ⟨?_, ?_⟩
      · rw [Lib.count_hit (i := w.length) (by simp) hi, hdrop, i1, hc]
      · rw [hc, Nat.add_comm, Lib.splitK, hi]
        have e : ((w.length : Int) == -1) = false := by rw [beq_eq_false_iff_ne]; omega
        rw [e]
        simp only [Bool.false_eq_true, if_false, Int.toNat_natCast, Nat.add_zero]
        rw [hdrop, i2, partsOf_cut w r hw]
        simp
end Go.Proofs.YtgamhdbcejkllaaGreatDoor
