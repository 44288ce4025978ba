/- slices.Reverse at holds, blocks and ropes: in place, in a block of their own. -/
import Derived.Test.YtgamhdbcejkllaaGreatDoorReeveParts
import Derived.Test.YtgamhdbcejkllaaGreatDoorOwn
import Derived.Deep.RegionLaw
namespace Go.Proofs.YtgamhdbcejkllaaGreatDoor
open Go.RowKit

/-- block g of w begins with n elements; element p is X p -/
def RowFn {α : Type} (w : World) (g : Nat) (t : TypeId) (size n : Nat) (cells : α → List Value) (X : Nat → α) : Prop :=
  ∃ cur : Array Value, w.heap[g]? = some (.cells cur t (0, 0)) ∧ n * size ≤ cur.size ∧ ∀ p, p < n → ∀ c u, (cells (X p))[c]? = some u → cur[p * size + c]? = some u
section
variable {α : Type} {w w' : World} {g : Nat} {t : TypeId} {size n : Nat} {cells : α → List Value} {X Y : Nat → α}
theorem RowFn.of_block (h : RowFn w g t size n cells X) (hb : w'.heap[g]? = w.heap[g]?) : RowFn w' g t size n cells X := by
  obtain ⟨cur, h1, h2⟩ := h
  exact ⟨cur, hb.trans h1, h2⟩
theorem RowFn.congr (h : RowFn w g t size n cells X) (e : ∀ p, p < n → X p = Y p) : RowFn w g t size n cells Y := by
  obtain ⟨cur, h1, h2, h3⟩ := h
  exact ⟨cur, h1, h2, fun p hp c u hu => h3 p hp c u (by rw [e p hp]; exact hu)⟩
theorem RowFn.cell (h : RowFn w g t size n cells X) {p : Nat} (hp : p < n) {c : Nat} {u : Value} (hu : (cells (X p))[c]? = some u) : w.cell? ⟨g, p * size + c, none⟩ = some u := by
  obtain ⟨cur, h1, h2, h3⟩ := h
  rw [Lib.cell_of_heap h1]; exact h3 p hp c u hu
theorem RowFn.frozen (h : RowFn w g t size n cells X) (i : Nat) : w.frozen? ⟨g, i, none⟩ = false := by
  obtain ⟨cur, h1, _⟩ := h
  exact block_unfrozen h1 i
theorem RowFn.lt (h : RowFn w g t size n cells X) : g < w.heap.size := by
  obtain ⟨cur, h1, _⟩ := h
  exact (Array.getElem?_eq_some_iff.1 h1).1
end
theorem RowFn.drew {α : Type} {w : World} {g : Nat} {t : TypeId} {size n : Nat} {cells : α → List Value} {X : Nat → α} (h : RowFn w g t size n cells X) : RowFn w.drew g t size n cells X := h
theorem size_drew' (w : World) : w.drew.heap.size = w.heap.size := rfl
theorem grown_set {w wr : World} {g i : Nat} {v : Value} (h : w.grownBy wr (some g)) : w.grownBy (wr.setCell ⟨g, i, none⟩ v) (some g) :=
  ⟨h.os, h.tape, h.output, by simpa [World.setCell] using h.size, fun k hk hne => by rw [RowKit.Below.heap_setCell _ _ _ _ (fun e => hne (by rw [e]))]; exact h.block k hk hne⟩
theorem grown_drew {w wr : World} {g : Option Nat} (h : w.grownBy wr g) : w.grownBy wr.drew g := ⟨h.os, h.tape, h.output, h.size, h.block⟩
theorem size_set (w : World) (g i : Nat) (v : Value) : (w.setCell ⟨g, i, none⟩ v).heap.size = w.heap.size := by simp [World.setCell]
/-- the first i elements and the last i are turned -/
def turnFn {α : Type} (X : Nat → α) (n i : Nat) (p : Nat) : α := if p < i ∨ n - 1 - i < p then X (n - 1 - p) else X p
theorem turnFn_zero {α : Type} (X : Nat → α) (n p : Nat) (h : p < n) : turnFn X n 0 p = X p := by rw [turnFn, if_neg (by omega)]
theorem turnFn_done {α : Type} (X : Nat → α) (n i p : Nat) (hi : n ≤ 2 * i + 1) (hp : p < n) (h2 : 2 * i ≤ n) : turnFn X n i p = X (n - 1 - p) := by
  rw [turnFn]
  by_cases h : p < i ∨ n - 1 - i < p
  · rw [if_pos h]
  · rw [if_neg h]; congr 1; omega
theorem turnFn_next {α : Type} (X : Nat → α) (n i p : Nat) (hi : 2 * i + 1 < n) (hp : p < n) : turnFn X n (i + 1) p = if p = i then X (n - 1 - i) else if p = n - 1 - i then X i else turnFn X n i p := by
  unfold turnFn
  by_cases e1 : p = i
  · subst e1; rw [if_pos (by omega), if_pos rfl]
  · rw [if_neg e1]
    by_cases e2 : p = n - 1 - i
    · rw [if_pos e2, if_pos (by omega), e2]; congr 1; omega
    · rw [if_neg e2]
      by_cases e3 : p < i ∨ n - 1 - i < p
      · rw [if_pos e3, if_pos (by omega)]
      · rw [if_neg e3, if_neg (by omega)]
theorem RowFn.set2 {α : Type} {w : World} {g n : Nat} {t : TypeId} {cells : α → List Value} {X : Nat → α} (HC : ∀ x, (cells x).length = 2) (h : RowFn w g t 2 n cells X) {p : Nat} (hp : p < n) {x : α} {v0 v1 : Value} (hx : cells x = [v0, v1]) :
    RowFn ((w.setCell ⟨g, p * 2, none⟩ v0).setCell ⟨g, p * 2 + 1, none⟩ v1) g t 2 n cells (fun q => if q = p then x else X q) := by
  obtain ⟨cur, h1, h2, h3⟩ := h
  refine ⟨((cur.setIfInBounds (p * 2) v0).setIfInBounds (p * 2 + 1) v1), (block_set (block_set h1 _) _), by simpa using h2, fun q hq c u hu => ?_⟩
  have hu : (cells (if q = p then x else X q))[c]? = some u := hu
  by_cases e : q = p
  · subst e
    rw [if_pos rfl, hx] at hu
    have hlt : c < 2 := by have := (List.getElem?_eq_some_iff.1 hu).1; simpa using this
    have hin : q * 2 + 2 < cur.size + 1 := by
      have : (q + 1) * 2 ≤ n * 2 := Nat.mul_le_mul_right 2 hq
      rw [Nat.succ_mul] at this; omega
    match c, hlt with
    | 0, _ => simp at hu; subst hu; simp [Array.getElem?_setIfInBounds]; omega
    | 1, _ => simp at hu; subst hu; simp [Array.getElem?_setIfInBounds]; omega
  · rw [if_neg e] at hu
    have := h3 q hq c u hu
    have hlen := (List.getElem?_eq_some_iff.1 hu).1
    have hc := HC (X q)
    have hne : ∀ d, d < 2 → p * 2 + d ≠ q * 2 + c := fun d hd he => by
      rcases Nat.lt_or_gt_of_ne e with e2 | e2
      · have : (q + 1) * 2 ≤ p * 2 := Nat.mul_le_mul_right 2 e2
        rw [Nat.succ_mul] at this; omega
      · have : (p + 1) * 2 ≤ q * 2 := Nat.mul_le_mul_right 2 e2
        rw [Nat.succ_mul] at this; omega
    simp only [Array.getElem?_setIfInBounds]
    rw [if_neg (hne 1 (by omega))]
    rw [if_neg (by simpa using hne 0 (by omega))]
    exact this
theorem RowFn.set3 {α : Type} {w : World} {g n : Nat} {t : TypeId} {cells : α → List Value} {X : Nat → α} (HC : ∀ x, (cells x).length = 3) (h : RowFn w g t 3 n cells X) {p : Nat} (hp : p < n) {x : α} {v0 v1 v2 : Value} (hx : cells x = [v0, v1, v2]) :
    RowFn (((w.setCell ⟨g, p * 3, none⟩ v0).setCell ⟨g, p * 3 + 1, none⟩ v1).setCell ⟨g, p * 3 + 2, none⟩ v2) g t 3 n cells (fun q => if q = p then x else X q) := by
  obtain ⟨cur, h1, h2, h3⟩ := h
  refine ⟨(((cur.setIfInBounds (p * 3) v0).setIfInBounds (p * 3 + 1) v1).setIfInBounds (p * 3 + 2) v2), (block_set (block_set (block_set h1 _) _) _), by simpa using h2, fun q hq c u hu => ?_⟩
  have hu : (cells (if q = p then x else X q))[c]? = some u := hu
  by_cases e : q = p
  · subst e
    rw [if_pos rfl, hx] at hu
    have hlt : c < 3 := by have := (List.getElem?_eq_some_iff.1 hu).1; simpa using this
    have hin : q * 3 + 3 < cur.size + 1 := by
      have : (q + 1) * 3 ≤ n * 3 := Nat.mul_le_mul_right 3 hq
      rw [Nat.succ_mul] at this; omega
    match c, hlt with
    | 0, _ => simp at hu; subst hu; simp [Array.getElem?_setIfInBounds]; omega
    | 1, _ => simp at hu; subst hu; simp [Array.getElem?_setIfInBounds]; omega
    | 2, _ => simp at hu; subst hu; simp [Array.getElem?_setIfInBounds]; omega
  · rw [if_neg e] at hu
    have := h3 q hq c u hu
    have hlen := (List.getElem?_eq_some_iff.1 hu).1
    have hc := HC (X q)
    have hne : ∀ d, d < 3 → p * 3 + d ≠ q * 3 + c := fun d hd he => by
      rcases Nat.lt_or_gt_of_ne e with e2 | e2
      · have : (q + 1) * 3 ≤ p * 3 := Nat.mul_le_mul_right 3 e2
        rw [Nat.succ_mul] at this; omega
      · have : (p + 1) * 3 ≤ q * 3 := Nat.mul_le_mul_right 3 e2
        rw [Nat.succ_mul] at this; omega
    simp only [Array.getElem?_setIfInBounds]
    rw [if_neg (hne 2 (by omega))]
    rw [if_neg (hne 1 (by omega))]
    rw [if_neg (by simpa using hne 0 (by omega))]
    exact this
theorem RowFn.set4 {α : Type} {w : World} {g n : Nat} {t : TypeId} {cells : α → List Value} {X : Nat → α} (HC : ∀ x, (cells x).length = 4) (h : RowFn w g t 4 n cells X) {p : Nat} (hp : p < n) {x : α} {v0 v1 v2 v3 : Value} (hx : cells x = [v0, v1, v2, v3]) :
    RowFn ((((w.setCell ⟨g, p * 4, none⟩ v0).setCell ⟨g, p * 4 + 1, none⟩ v1).setCell ⟨g, p * 4 + 2, none⟩ v2).setCell ⟨g, p * 4 + 3, none⟩ v3) g t 4 n cells (fun q => if q = p then x else X q) := by
  obtain ⟨cur, h1, h2, h3⟩ := h
  refine ⟨((((cur.setIfInBounds (p * 4) v0).setIfInBounds (p * 4 + 1) v1).setIfInBounds (p * 4 + 2) v2).setIfInBounds (p * 4 + 3) v3), (block_set (block_set (block_set (block_set h1 _) _) _) _), by simpa using h2, fun q hq c u hu => ?_⟩
  have hu : (cells (if q = p then x else X q))[c]? = some u := hu
  by_cases e : q = p
  · subst e
    rw [if_pos rfl, hx] at hu
    have hlt : c < 4 := by have := (List.getElem?_eq_some_iff.1 hu).1; simpa using this
    have hin : q * 4 + 4 < cur.size + 1 := by
      have : (q + 1) * 4 ≤ n * 4 := Nat.mul_le_mul_right 4 hq
      rw [Nat.succ_mul] at this; omega
    match c, hlt with
    | 0, _ => simp at hu; subst hu; simp [Array.getElem?_setIfInBounds]; omega
    | 1, _ => simp at hu; subst hu; simp [Array.getElem?_setIfInBounds]; omega
    | 2, _ => simp at hu; subst hu; simp [Array.getElem?_setIfInBounds]; omega
    | 3, _ => simp at hu; subst hu; simp [Array.getElem?_setIfInBounds]; omega
  · rw [if_neg e] at hu
    have := h3 q hq c u hu
    have hlen := (List.getElem?_eq_some_iff.1 hu).1
    have hc := HC (X q)
    have hne : ∀ d, d < 4 → p * 4 + d ≠ q * 4 + c := fun d hd he => by
      rcases Nat.lt_or_gt_of_ne e with e2 | e2
      · have : (q + 1) * 4 ≤ p * 4 := Nat.mul_le_mul_right 4 e2
        rw [Nat.succ_mul] at this; omega
      · have : (p + 1) * 4 ≤ q * 4 := Nat.mul_le_mul_right 4 e2
        rw [Nat.succ_mul] at this; omega
    simp only [Array.getElem?_setIfInBounds]
    rw [if_neg (hne 3 (by omega))]
    rw [if_neg (hne 2 (by omega))]
    rw [if_neg (hne 1 (by omega))]
    rw [if_neg (by simpa using hne 0 (by omega))]
    exact this
end Go.Proofs.YtgamhdbcejkllaaGreatDoor
