/- Blocks that hold just the elements of a list; four blocks one behind the other. -/
import Derived.Test.YtcdkhlndohokcaaGreatDoorData
namespace Go.Proofs.YtcdkhlndohokcaaGreatDoor
open Go.RowKit

theorem wflat_get {α : Type} {cells : α → List Value} {size : Nat} (hs : ∀ x, (cells x).length = size) : ∀ (l : List α) (i : Nat) (x : α) (j : Nat) (u : Value), l[i]? = some x → (cells x)[j]? = some u → (l.flatMap cells)[i * size + j]? = some u
  | [], i, x, j, u, h, _ => by simp at h
  | y :: l, 0, x, j, u, h, hu => by
    simp at h
    subst h
    have hj : j < (cells y).length := (List.getElem?_eq_some_iff.1 hu).1
    rw [List.flatMap_cons, Nat.zero_mul, Nat.zero_add, List.getElem?_append_left hj]
    exact hu
  | y :: l, i + 1, x, j, u, h, hu => by
    have h' : l[i]? = some x := by simpa using h
    rw [List.flatMap_cons, List.getElem?_append_right (by rw [hs y, Nat.succ_mul]; omega), hs y, show (i + 1) * size + j - size = i * size + j by rw [Nat.succ_mul]; omega]
    exact wflat_get hs l i x j u h' hu
/-- a block that holds just the elements of a list -/
theorem SlAt.whole {α : Type} {w : World} {B size b : Nat} {cells : α → List Value} {cs : Array Value} {t : TypeId} {l : List α} (hs : ∀ x, (cells x).length = size) (h : w.heap[b]? = some (.cells cs t (0, 0))) (hcs : cs.toList = l.flatMap cells) (hb : b < B) (hl : l.length ≤ maxLen) :
    SlAt w B size cells ⟨some ⟨b, 0, none⟩, l.length, l⟩ :=
  ⟨Nat.le_refl _, hl, fun _ => ⟨b, 0, rfl, hb, fun i x hx j u hu => by
    rw [Nat.zero_add, Lib.cell_of_heap h, ← Array.getElem?_toList, hcs]
    exact wflat_get hs l i x j u hx hu⟩⟩
theorem SlAt.nil {α : Type} {w : World} {B size : Nat} {cells : α → List Value} : SlAt w B size cells ⟨none, 0, []⟩ := ⟨Nat.le_refl _, Nat.zero_le _, fun h => absurd h (by simp)⟩
theorem four_blocks (w : World) (o0 o1 o2 o3 : Obj) : ((((w.alloc o0).alloc o1).alloc o2).alloc o3).heap[w.heap.size + 1]? = some o1 ∧ ((((w.alloc o0).alloc o1).alloc o2).alloc o3).heap[w.heap.size + 2]? = some o2 ∧ ((((w.alloc o0).alloc o1).alloc o2).alloc o3).heap[w.heap.size + 3]? = some o3 ∧ ((((w.alloc o0).alloc o1).alloc o2).alloc o3).heap.size = w.heap.size + 4 ∧ Below w.heap.size w ((((w.alloc o0).alloc o1).alloc o2).alloc o3) := by
  obtain ⟨W1, e1, s1, b1, h1⟩ := boxed w o0
  rw [← e1]
  obtain ⟨W2, e2, s2, b2, h2⟩ := boxed W1 o1
  rw [← e2]
  obtain ⟨W3, e3, s3, b3, h3⟩ := boxed W2 o2
  rw [← e3]
  obtain ⟨W4, e4, s4, b4, h4⟩ := boxed W3 o3
  rw [← e4]
  refine ⟨?_, ?_, ?_, by omega, b1.trans ((b2.mono (by omega)).trans ((b3.mono (by omega)).trans (b4.mono (by omega))))⟩
  · rw [← s1, b4.block _ (by omega), b3.block _ (by omega)]; exact h2
  · rw [show w.heap.size + 2 = W2.heap.size by omega, b4.block _ (by omega)]; exact h3
  · rw [show w.heap.size + 3 = W3.heap.size by omega]; exact h4

end Go.Proofs.YtcdkhlndohokcaaGreatDoor
