/- The library's insertion sort sets each element behind all that are not greater: in plain Lean. -/
import Derived.Test.YtliehhnnfpkciaaGreatDoorLegLaw
import Derived.Sort.WalkA
namespace Go.Proofs.YtliehhnnfpkciaaGreatDoor
open Go Go.Sort

theorem insO_snoc (f : Nat → Int) (i y : Nat) (A : List Nat) : insO f i (A ++ [y]) = if f i < f y then insO f i A ++ [y] else A ++ [y, i] := by
  unfold insO
  rw [List.reverse_append, List.reverse_singleton, List.singleton_append, List.dropWhile_cons, List.takeWhile_cons]
  by_cases h : f i < f y
  · simp [h]
  · simp [h]
theorem insO_length (f : Nat → Int) (i : Nat) (A : List Nat) : (insO f i A).length = A.length + 1 := by rw [(insO_perm f i A).length_eq]; rfl
section
variable {α : Type} [Inhabited α]
theorem bang_of {l : List α} {k : Nat} {x : α} (h : l[k]? = some x) : l.toArray[k]! = x := by
  obtain ⟨hk, e⟩ := List.getElem?_eq_some_iff.1 h
  rw [getElem!_pos _ k (by simpa using hk)]
  simpa using e
theorem swp_two (A B : List α) (y x : α) : swp (A ++ y :: x :: B).toArray (A.length + 1) A.length = (A ++ x :: y :: B).toArray := by
  have h1 : (A ++ y :: x :: B).toArray[A.length]! = y := bang_of (by simp)
  have h2 : (A ++ y :: x :: B).toArray[A.length + 1]! = x := bang_of (by simp)
  rw [swp, h1, h2]
  apply Array.toList_inj.1
  rw [Array.toList_setIfInBounds, Array.toList_setIfInBounds]
  simp
variable (f : α → Int) (hn : α → Nat) (f0 : Nat → Int) (hf : ∀ x, f x = f0 (hn x))
include hf in
theorem insInner_list : ∀ (n : Nat) (A : List α) (x : α) (B : List α), A.length = n → (insInner (fun a b => decide (f a < f b)) 0 n (A ++ x :: B).toArray).toList.map hn = insO f0 (hn x) (A.map hn) ++ B.map hn
  | 0, A, x, B, h => by
    have : A = [] := List.eq_nil_of_length_eq_zero h
    subst this
    rw [insInner_stop _ _ _ _ (Or.inl (Nat.le_refl _))]
    rfl
  | n + 1, A, x, B, h => by
    obtain ⟨A', y, rfl⟩ : ∃ A' y, A = A' ++ [y] := ⟨A.dropLast, A.getLast (fun e => by rw [e] at h; simp at h), (List.dropLast_concat_getLast _).symm⟩
    have hA : A'.length = n := by simpa using h
    have e : A' ++ [y] ++ x :: B = A' ++ y :: x :: B := by simp
    rw [e]
    have h1 : (A' ++ y :: x :: B).toArray[n]! = y := bang_of (by subst hA; simp)
    have h2 : (A' ++ y :: x :: B).toArray[n + 1]! = x := bang_of (by subst hA; simp)
    rw [List.map_append, List.map_singleton, insO_snoc, ← hf, ← hf]
    by_cases hl : f x < f y
    · rw [insInner_go _ _ _ _ (by omega) (by rw [Nat.add_sub_cancel, h1, h2]; exact decide_eq_true hl), Nat.add_sub_cancel, if_pos hl]
      have h3 := swp_two A' B y x
      rw [hA] at h3
      rw [h3, insInner_list n A' x (y :: B) hA]
      simp
    · rw [insInner_stop _ _ _ _ (Or.inr (by rw [Nat.add_sub_cancel, h1, h2]; exact decide_eq_false hl)), if_neg hl]
      simp
include hf in
theorem insOuter_list : ∀ (k i : Nat) (L : List α), L.length = i + k → (insOuter (fun a b => decide (f a < f b)) 0 (i + k) i L.toArray).toList.map hn = ((L.drop i).map hn).foldl (fun out x => insO f0 x out) ((L.take i).map hn)
  | 0, i, L, h => by
    rw [insOuter_stop _ _ _ _ _ (by omega), List.drop_of_length_le (by omega), List.take_of_length_le (by omega)]
    rfl
  | k + 1, i, L, h => by
    rw [insOuter_go _ _ _ _ _ (by omega)]
    obtain ⟨x, hx⟩ : ∃ x, L[i]? = some x := ⟨_, List.getElem?_eq_getElem (show i < L.length by omega)⟩
    have hd : L.drop i = x :: L.drop (i + 1) := by
      obtain ⟨hj, e⟩ := List.getElem?_eq_some_iff.1 hx
      rw [List.drop_eq_getElem_cons hj, e]
    have hL : L = L.take i ++ x :: L.drop (i + 1) := by rw [← hd, List.take_append_drop]
    have hA : (L.take i).length = i := by rw [List.length_take]; omega
    have h1 := insInner_list f hn f0 hf i (L.take i) x (L.drop (i + 1)) hA
    rw [← hL] at h1
    obtain ⟨L', hL'⟩ : ∃ L' : List α, insInner (fun a b => decide (f a < f b)) 0 i L.toArray = L'.toArray := ⟨_, (Array.toArray_toList (xs := insInner (fun a b => decide (f a < f b)) 0 i L.toArray)).symm⟩
    rw [hL'] at h1 ⊢
    simp only at h1
    have hl : L'.length = (i + 1) + k := by
      have := congrArg List.length h1
      rw [List.length_map, List.length_append, insO_length, List.length_map, List.length_map, hA, List.length_drop] at this
      omega
    have h2 := insOuter_list k (i + 1) L' hl
    rw [show i + (k + 1) = i + 1 + k by omega, h2, hd, List.map_cons, List.foldl_cons]
    have h3 : (L'.drop (i + 1)).map hn = (L.drop (i + 1)).map hn := by
      rw [List.map_drop, h1, List.drop_left' (by rw [insO_length, List.length_map, hA])]
    have h4 : (L'.take (i + 1)).map hn = insO f0 (hn x) ((L.take i).map hn) := by
      rw [List.map_take, h1, List.take_left' (by rw [insO_length, List.length_map, hA])]
    rw [h3, h4]
end
/-- the numbers below n, and their sort -/
def numsTo (n : Nat) : List (Fin n) := List.ofFn fun i => i
theorem numsTo_length (n : Nat) : (numsTo n).length = n := by simp [numsTo]
theorem numsTo_val (n : Nat) : (numsTo n).map (fun i => i.val) = List.range n := by
  apply List.ext_getElem
  · simp [numsTo]
  · intro i h1 h2
    simp [numsTo]
theorem sorted_order (m : Nat) (f : Fin (m + 1) → Int) (f0 : Nat → Int) (hf : ∀ x, f x = f0 x.val) :
    (insertionSort (fun a b => decide (f a < f b)) (numsTo (m + 1)).toArray 0 (m + 1)).toList.map (fun i => i.val) = orderE f0 (m + 1) := by
  have h := insOuter_list f (fun i => i.val) f0 hf m 1 (numsTo (m + 1)) (by rw [numsTo_length]; omega)
  rw [insertionSort]
  rw [show 1 + m = m + 1 by omega] at h
  rw [show (0 + 1) = 1 by rfl, h, List.map_drop, List.map_take, numsTo_val, orderE, List.range_succ_eq_map]
  rfl
end Go.Proofs.YtliehhnnfpkciaaGreatDoor
