/- The picture of the plan in memory (an outer slice of rows, each row a block of bytes), and what it shows: for each cell the highest rank of the sets of its row. -/
import Derived.Test.YtliehhnnfpkciaaGreatDoorRank
import Derived.Deep.OwnRows
import Derived.Lib.UnsafeStr
namespace Go.Proofs.YtliehhnnfpkciaaGreatDoor
open Go.RowKit

theorem rankE_bound (s : SetD) (lo hi : Int) : 0 ≤ rankE s lo hi ∧ rankE s lo hi ≤ 3 := by
  unfold rankE
  split
  · omega
  · split
    · omega
    · split <;> omega
def markStep (scale : Int) (r c : Nat) (m : Int) (s : SetD) : Int := if s.depth / scale = (r : Int) then max m (rankE s ((c : Int) * scale) (((c : Int) + 1) * scale)) else m
def marks (l : List SetD) (scale : Int) (r c : Nat) : Int := l.foldl (markStep scale r c) 0
theorem markStep_bound {scale : Int} {r c : Nat} {m : Int} {s : SetD} (h : 0 ≤ m ∧ m ≤ 3) : 0 ≤ markStep scale r c m s ∧ markStep scale r c m s ≤ 3 := by
  have := rankE_bound s ((c : Int) * scale) (((c : Int) + 1) * scale)
  unfold markStep
  split
  · omega
  · exact h
theorem foldMarks_bound {scale : Int} {r c : Nat} : ∀ (l : List SetD) {m : Int}, 0 ≤ m ∧ m ≤ 3 → 0 ≤ l.foldl (markStep scale r c) m ∧ l.foldl (markStep scale r c) m ≤ 3
  | [], _, h => h
  | _ :: l, _, h => foldMarks_bound l (markStep_bound h)
theorem marks_bound (l : List SetD) (scale : Int) (r c : Nat) : 0 ≤ marks l scale r c ∧ marks l scale r c ≤ 3 := foldMarks_bound l ⟨by omega, by omega⟩
theorem marks_next {l : List SetD} {k : Nat} {s : SetD} (scale : Int) (r c : Nat) (h : l[k]? = some s) : marks (l.take (k + 1)) scale r c = markStep scale r c (marks (l.take k) scale r c) s := by
  rw [List.take_add_one, h]; simp [marks, List.foldl_append]
theorem foldRows_ge (scale : Int) : ∀ (l : List SetD) (m : Int), m ≤ l.foldl (fun m s => max m (s.depth / scale + 1)) m
  | [], m => Int.le_refl m
  | s :: l, m => Int.le_trans (by omega) (foldRows_ge scale l (max m (s.depth / scale + 1)))
theorem foldRows_mem (scale : Int) {s : SetD} : ∀ (l : List SetD) (m : Int), s ∈ l → s.depth / scale + 1 ≤ l.foldl (fun m s => max m (s.depth / scale + 1)) m
  | t :: l, m, h => by
    rw [List.foldl_cons]
    rcases List.mem_cons.1 h with rfl | h
    · exact Int.le_trans (by omega) (foldRows_ge scale l _)
    · exact foldRows_mem scale l _ h
theorem rowsTo_mem {l : List SetD} {s : SetD} (scale : Int) (h : s ∈ l) : s.depth / scale + 1 ≤ rowsTo l scale := foldRows_mem scale l 0 h
theorem foldCols_ge (scale : Int) : ∀ (l : List SetD) (m : Int), m ≤ l.foldl (fun m s => max m (s.length / scale + 1)) m
  | [], m => Int.le_refl m
  | s :: l, m => Int.le_trans (by omega) (foldCols_ge scale l (max m (s.length / scale + 1)))
theorem rowsTo_nonneg (l : List SetD) (scale : Int) : 0 ≤ rowsTo l scale := foldRows_ge scale l 0
theorem colsTo_nonneg (l : List SetD) (scale : Int) : 0 ≤ colsTo l scale := foldCols_ge scale l 0

/-! ### the picture's text -/
def markByte (m : Int) : UInt8 := if m = 0 then 46 else if m = 1 then 45 else if m = 2 then 35 else 111
def rowText (l : List SetD) (scale : Int) (r j : Nat) : List UInt8 := (List.range j).map fun c => markByte (marks l scale r c)
def planText (l : List SetD) (scale : Int) (C : Nat) : Nat → List UInt8
  | 0 => []
  | i + 1 => planText l scale C i ++ rowText l scale i C ++ [10]
theorem rowText_next (l : List SetD) (scale : Int) (r j : Nat) : rowText l scale r (j + 1) = rowText l scale r j ++ [markByte (marks l scale r j)] := by
  simp [rowText, List.range_succ]
theorem rowText_length (l : List SetD) (scale : Int) (r j : Nat) : (rowText l scale r j).length = j := by simp [rowText]
theorem planText_length (l : List SetD) (scale : Int) (C : Nat) : ∀ i, (planText l scale C i).length = i * (C + 1)
  | 0 => by simp [planText]
  | i + 1 => by
    rw [planText, List.length_append, List.length_append, planText_length l scale C i, rowText_length, Nat.succ_mul]
    simp; omega
theorem planText_small (l : List SetD) (scale : Int) {C i : Nat} (hC : C ≤ 400) (hi : i ≤ 400) : (planText l scale C i).length ≤ 160400 := by
  rw [planText_length]
  exact Nat.mul_le_mul hi (show C + 1 ≤ 401 by omega)

/-! ### memory -/
/-- the outer slice lies in block n0, its rows in the blocks behind it; row r holds f r c at c -/
structure PicAt (n0 R C : Nat) (f : Nat → Nat → Int) (w : World) : Prop where
  outer : w.rowIs n0 54 R (fun r => .slice (some ⟨n0 + 1 + r, 0, none⟩) C C)
  inner : ∀ r, r < R → w.rowIs (n0 + 1 + r) 5 C (fun c => .int .u8 (f r c))
  size : n0 + 1 + R ≤ w.heap.size
section
variable {n0 R C : Nat} {f g : Nat → Nat → Int} {w w' : World}
theorem PicAt.below (h : PicAt n0 R C f w) (hb : Below (n0 + 1 + R) w w') : PicAt n0 R C f w' :=
  ⟨h.outer.of_block (hb.block _ (by omega)), fun r hr => (h.inner r hr).of_block (hb.block _ (by omega)), Nat.le_trans h.size hb.size⟩
theorem PicAt.congr (h : PicAt n0 R C f w) (e : ∀ r c, r < R → c < C → f r c = g r c) : PicAt n0 R C g w :=
  ⟨h.outer, fun r hr => (h.inner r hr).congr fun c hc => by rw [e r c hr hc], h.size⟩
theorem PicAt.set (h : PicAt n0 R C f w) {r : Nat} (c : Nat) (hr : r < R) (v : Int) : PicAt n0 R C (fun i j => if i = r ∧ j = c then v else f i j) (w.setCell ⟨n0 + 1 + r, c, none⟩ (.int .u8 v)) := by
  refine ⟨h.outer.setOther (by simp only; omega) _, fun i hi => ?_, by simpa [World.setCell] using h.size⟩
  by_cases e : i = r
  · subst e
    refine ((h.inner i hi).set c _).congr fun j _ => ?_
    by_cases e : j = c <;> simp [e]
  · refine ((h.inner i hi).setOther (by simp only; omega) _).congr fun j _ => ?_
    simp [e]
theorem PicAt.outerCell (h : PicAt n0 R C f w) {r : Nat} (hr : r < R) : w.cell? ⟨n0, r, none⟩ = some (.slice (some ⟨n0 + 1 + r, 0, none⟩) C C) := h.outer.cell hr
theorem PicAt.cell (h : PicAt n0 R C f w) {r c : Nat} (hr : r < R) (hc : c < C) : w.cell? ⟨n0 + 1 + r, c, none⟩ = some (.int .u8 (f r c)) := (h.inner r hr).cell hc
theorem PicAt.frozen (h : PicAt n0 R C f w) {r : Nat} (hr : r < R) (c : Nat) : w.frozen? ⟨n0 + 1 + r, c, none⟩ = false := (h.inner r hr).frozen c
end
/-- while the rows are made: k of them lie behind the outer slice -/
structure Making (n0 R C k : Nat) (w : World) : Prop where
  outer : w.rowIs n0 54 R (fun r => if r < k then .slice (some ⟨n0 + 1 + r, 0, none⟩) C C else .slice none 0 0)
  inner : ∀ r, r < k → w.rowIs (n0 + 1 + r) 5 C (fun _ => .int .u8 0)
  size : w.heap.size = n0 + 1 + k
section
variable {n0 R C k : Nat} {w : World}
theorem Making.start (w : World) (R C : Nat) : Making w.heap.size R C 0 (w.alloc (.cells (madeCells #[.slice none 0 0] R) 54)) :=
  ⟨(World.rowIs_made w _ R _).congr fun r _ => by simp, fun r hr => absurd hr (by omega), by simp⟩
theorem Making.next (h : Making n0 R C k w) : Making n0 R C (k + 1) ((w.setCell ⟨n0, k, none⟩ (.slice (some ⟨w.heap.size, 0, none⟩) C C)).alloc (.cells (madeCells #[.int .u8 0] C) 5)) := by
  have hz := h.size
  refine ⟨((h.outer.set k _).alloc _).congr fun r _ => ?_, fun r hr => ?_, by simp [World.setCell, hz]; omega⟩
  · by_cases e : r = k
    · subst e; simp [hz]
    · by_cases e' : r < k
      · simp [e, e', Nat.lt_succ_of_lt e']
      · simp [e, e', show ¬ r < k + 1 by omega]
  · by_cases e : r = k
    · subst e
      have := World.rowIs_made (w.setCell ⟨n0, r, none⟩ (.slice (some ⟨w.heap.size, 0, none⟩) C C)) (.int .u8 0) C 5
      rwa [show (w.setCell ⟨n0, r, none⟩ (.slice (some ⟨w.heap.size, 0, none⟩) C C)).heap.size = n0 + 1 + r by simp [World.setCell, hz]] at this
    · exact ((h.inner r (by omega)).setOther (by simp only; omega) _).alloc _
theorem Making.done (h : Making n0 R C R w) : PicAt n0 R C (fun _ _ => 0) w :=
  ⟨h.outer.congr fun r hr => by simp [hr], h.inner, by have := h.size; omega⟩
end
theorem infoRows : (Tryz.prog.info? 54).map (fun i => (i.zero, i.size, i.bytes)) = some (some (.slice none 0 0), 1, 24) := by kernel_rfl
theorem infoBytes : (Tryz.prog.info? 5).map (fun i => (i.zero, i.size, i.bytes)) = some (some (.int .u8 0), 1, 1) := by kernel_rfl
end Go.Proofs.YtliehhnnfpkciaaGreatDoor
