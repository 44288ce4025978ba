/- slices.IndexFunc and ContainsFunc at the element types of this family: what they give where the function value answers by a predicate. -/
import Derived.Test.YtgamhdbcejkllaaGreatDoorProg
import Derived.Test.YtgamhdbcejkllaaGreatDoorData
namespace Go.Proofs.YtgamhdbcejkllaaGreatDoor
open Go.RowKit

/-- the index of the first element with p; -1 if there is none -/
def idxFrom {α : Type} (p : α → Bool) : Nat → List α → Int
  | _, [] => -1
  | i, x :: l => if p x then (i : Int) else idxFrom p (i + 1) l
def idx {α : Type} (p : α → Bool) (l : List α) : Int := idxFrom p 0 l
theorem idxFrom_none {α : Type} {p : α → Bool} : ∀ (l : List α) (i : Nat), (∀ x ∈ l, p x = false) → idxFrom p i l = -1
  | [], _, _ => rfl
  | x :: l, i, h => by rw [idxFrom, h x (by simp)]; exact idxFrom_none l (i + 1) fun y hy => h y (by simp [hy])
theorem idxFrom_some {α : Type} {p : α → Bool} : ∀ (l : List α) (i k : Nat) (x : α), l[k]? = some x → p x = true → (∀ j y, j < k → l[j]? = some y → p y = false) → idxFrom p i l = ((i + k : Nat) : Int)
  | [], _, _, _, h, _, _ => by simp at h
  | z :: l, i, 0, x, h, hp, _ => by simp at h; subst h; simp [idxFrom, hp]
  | z :: l, i, k + 1, x, h, hp, hn => by
    rw [idxFrom, hn 0 z (by omega) rfl, idxFrom_some l (i + 1) k x (by simpa using h) hp (fun j y hj hy => hn (j + 1) y (by omega) (by simpa using hy))]
    simp; omega
theorem idx_none {α : Type} {p : α → Bool} {l : List α} (h : ∀ j y, j < l.length → l[j]? = some y → p y = false) : idx p l = -1 := idxFrom_none l 0 fun x hx => by
  obtain ⟨j, hj, e⟩ := List.getElem_of_mem hx
  exact h j x hj (by rw [List.getElem?_eq_getElem hj, e])
theorem idx_some {α : Type} {p : α → Bool} {l : List α} {k : Nat} {x : α} (h : l[k]? = some x) (hp : p x = true) (hn : ∀ j y, j < k → l[j]? = some y → p y = false) : idx p l = (k : Int) := by
  have := idxFrom_some l 0 k x h hp hn
  simpa [idx] using this
theorem idx_nonneg {α : Type} (p : α → Bool) (l : List α) : decide (0 ≤ idx p l) = l.any p := by
  have key : ∀ (l : List α) (i : Nat), decide (0 ≤ idxFrom p i l) = l.any p := by
    intro l
    induction l with
    | nil => intro i; simp [idxFrom]
    | cons x l ih => intro i; rw [idxFrom, List.any_cons]; cases hp : p x <;> simp [ih]
  exact key l 0

theorem none_next {α : Type} {p : α → Bool} {l : List α} {k : Nat} {z : α} (h : ∀ j y, j < k → l[j]? = some y → p y = false) (hz : l[k]? = some z) (hp : p z = false) : ∀ j y, j < k + 1 → l[j]? = some y → p y = false := fun j y hj hy => by
  by_cases e : j = k
  · subst e; rw [hz] at hy; injection hy with hy; rw [← hy]; exact hp
  · exact h j y (by omega) hy

theorem oneOne (a b : Value) : #[a] ++ #[b] = #[a, b] := rfl
theorem oneTwo (a b c : Value) : #[a] ++ #[b, c] = #[a, b, c] := rfl
/-- What a function value is asked for: at each element, in every world that comes behind, it answers by p. -/
def Answers {α : Type} (P : Program) (g : Nat) (lb : Array Value) (val : α → Value) (p : α → Bool) (B : Nat) (W : World) (l : List α) : Prop :=
  ∀ (x : After B W) (e : α), e ∈ l → Calls P g (#[val e] ++ lb) x.val (Gives x.val (.bool (p e)))

end Go.Proofs.YtgamhdbcejkllaaGreatDoor
