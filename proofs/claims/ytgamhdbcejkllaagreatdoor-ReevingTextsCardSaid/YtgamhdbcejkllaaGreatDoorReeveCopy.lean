/- loftblockref10.Copy: a system in memory of its own. -/
import Derived.Test.YtgamhdbcejkllaaGreatDoorReeveRev
import Derived.Maps.AppendAt
namespace Go.Proofs.YtgamhdbcejkllaaGreatDoor
open Go.RowKit

instance : Inhabited HoldD := ⟨⟨⟨#[]⟩, 0, 0, 0⟩⟩
instance : Inhabited BlockD := ⟨⟨⟨#[]⟩, 0⟩⟩
instance : Inhabited RopeD := ⟨⟨⟨#[]⟩, ⟨none, 0, []⟩, false⟩⟩
def fnOf {α : Type} [Inhabited α] (l : List α) (p : Nat) : α := l.getD p default
theorem fnOf_get {α : Type} [Inhabited α] {l : List α} {p : Nat} {x : α} (h : l[p]? = some x) : fnOf l p = x := by rw [fnOf, List.getD, h]; rfl
theorem flat_split {α : Type} {cells : α → List Value} {size : Nat} (hs : ∀ x, (cells x).length = size) : ∀ (l : List α) (q : Nat) (u : Value), (l.flatMap cells)[q]? = some u → ∃ i j x, q = i * size + j ∧ l[i]? = some x ∧ (cells x)[j]? = some u
  | [], q, u, h => by simp at h
  | y :: l, q, u, h => by
    rw [List.flatMap_cons] at h
    by_cases hq : q < size
    · rw [List.getElem?_append_left (by rw [hs]; exact hq)] at h
      exact ⟨0, q, y, by simp, rfl, h⟩
    · rw [List.getElem?_append_right (by rw [hs]; omega), hs] at h
      obtain ⟨i, j, x, e, h1, h2⟩ := flat_split hs l (q - size) u h
      exact ⟨i + 1, j, x, by rw [Nat.succ_mul]; omega, by simpa using h1, h2⟩
theorem flat_len {α : Type} {cells : α → List Value} {size : Nat} (hs : ∀ x, (cells x).length = size) : ∀ l : List α, (l.flatMap cells).length = l.length * size
  | [] => by simp
  | y :: l => by rw [List.flatMap_cons, List.length_append, hs, flat_len hs l, List.length_cons, Nat.succ_mul]; omega
theorem flat_at {α : Type} {cells : α → List Value} {size : Nat} (hs : ∀ x, (cells x).length = size) : ∀ (l : List α) (i : Nat) (x : α) (j : Nat) (u : Value), l[i]? = some x → (cells x)[j]? = some u → (l.flatMap cells)[i * size + j]? = some u
  | [], i, x, j, u, h, _ => by simp at h
  | y :: l, 0, x, j, u, h, hu => by
    simp at h
    subst h
    have hj : j < (cells y).length := (List.getElem?_eq_some_iff.1 hu).1
    rw [List.flatMap_cons, Nat.zero_mul, Nat.zero_add, List.getElem?_append_left hj]
    exact hu
  | y :: l, i + 1, x, j, u, h, hu => by
    have h' : l[i]? = some x := by simpa using h
    rw [List.flatMap_cons, List.getElem?_append_right (by rw [hs y, Nat.succ_mul]; omega), hs y, show (i + 1) * size + j - size = i * size + j by rw [Nat.succ_mul]; omega]
    exact flat_at hs l i x j u h' hu
/-- an own row of elements is a block that begins with them -/
theorem own_rowFn {α : Type} [Inhabited α] {w : World} {base : Nat} {e : TypeId} {size : Nat} {cells : α → List Value} (hs : ∀ x, (cells x).length = size) {v : Value} {l : List α} (h : w.ownsRow base e size v l.length (l.flatMap cells)) (hn : l ≠ []) :
    ∃ g cap, v = .slice (some ⟨g, 0, none⟩) l.length cap ∧ base ≤ g ∧ l.length ≤ cap ∧ cap ≤ maxLen ∧ RowFn w g e size l.length cells (fnOf l) := by
  rcases h.2 with ⟨_, h0⟩ | ⟨g, cap, cur, hv, hg, hh, hnc, hcm, hcs, htake⟩
  · exact absurd (List.eq_nil_of_length_eq_zero h0) hn
  · refine ⟨g, cap, hv, hg, hnc, hcm, cur, hh, by rw [hcs]; exact Nat.mul_le_mul_right _ hnc, fun p hp c u hu => ?_⟩
    have hx : l[p]? = some l[p] := List.getElem?_eq_getElem hp
    rw [fnOf_get hx] at hu
    have hc : c < size := by rw [← hs l[p]]; exact (List.getElem?_eq_some_iff.1 hu).1
    have h1 := flat_at hs l p _ c u hx hu
    rw [← htake] at h1
    have hlt : p * size + c < l.length * size := by
      have : (p + 1) * size ≤ l.length * size := Nat.mul_le_mul_right size hp
      rw [Nat.succ_mul] at this; omega
    rw [List.getElem?_take_of_lt hlt] at h1
    simpa using h1
/-- the elements of a slice, as news for an append -/
theorem slAt_news {α : Type} {w : World} {size : Nat} {cells : α → List Value} (hs : ∀ x, (cells x).length = size) {b off : Nat} {l : List α} (hc : ∀ i x, l[i]? = some x → ∀ j u, (cells x)[j]? = some u → w.cell? ⟨b, off + (i * size + j), none⟩ = some u) : ∀ q u, (l.flatMap cells)[q]? = some u → w.cell? ((⟨b, off, none⟩ : Addr).add q) = some u := fun q u hq => by
  obtain ⟨i, j, x, e, h1, h2⟩ := flat_split hs l q u hq
  have h3 := hc i x h1 j u h2
  have e2 : (⟨b, off, none⟩ : Addr).add q = ⟨b, off + (i * size + j), none⟩ := by
    unfold Addr.add
    by_cases hz : q = 0
    · rw [if_pos hz, ← e, hz]; rfl
    · rw [if_neg hz, ← e]
  rw [e2]; exact h3
end Go.Proofs.YtgamhdbcejkllaaGreatDoor
