/- What the drawing of the plan shows, line by line: in plain Lean. -/
import Derived.Test.YtliehhnnfpkciaaGreatDoorPlanPic
import Derived.Test.YtliehhnnfpkciaaGreatDoorSplitLines
namespace Go.Proofs.YtliehhnnfpkciaaGreatDoor
open Go.RowKit

/-! ### the lines of the text -/
theorem markByte_plain (m : Int) : markByte m ≠ 10 := by
  unfold markByte
  split
  · decide
  · split
    · decide
    · split <;> decide
theorem rowText_plain (l : List SetD) (scale : Int) (r j : Nat) : ∀ c ∈ rowText l scale r j, c ≠ 10 := fun c hc => by
  simp only [rowText, List.mem_map] at hc
  obtain ⟨k, _, rfl⟩ := hc
  exact markByte_plain _
/-- the text without its last end of line -/
def planInit (l : List SetD) (scale : Int) (C i : Nat) : List UInt8 := planText l scale C i ++ rowText l scale i C
theorem planText_init (l : List SetD) (scale : Int) (C i : Nat) : planText l scale C (i + 1) = planInit l scale C i ++ [10] := by rw [planText, planInit]
theorem planInit_lines (l : List SetD) (scale : Int) (C : Nat) : ∀ i, partsOf 10 (planInit l scale C i) = (List.range (i + 1)).map fun r => rowText l scale r C
  | 0 => by
    rw [planInit, planText, List.nil_append, partsOf_plain _ (rowText_plain _ _ _ _)]
    rfl
  | i + 1 => by
    rw [planInit, planText_init, List.append_assoc, List.singleton_append, partsOf_at, planInit_lines l scale C i, partsOf_plain _ (rowText_plain _ _ _ _)]
    conv => rhs; rw [List.range_succ, List.map_append]
    rfl
theorem rowText_get (l : List SetD) (scale : Int) (r : Nat) {C c : Nat} (hc : c < C) : (rowText l scale r C)[c]? = some (markByte (marks l scale r c)) := by
  simp [rowText, hc]

/-! ### what a cell shows -/
theorem foldMarks_ge {scale : Int} {r c : Nat} : ∀ (l : List SetD) (m : Int), m ≤ l.foldl (markStep scale r c) m
  | [], m => Int.le_refl m
  | s :: l, m => by
    rw [List.foldl_cons]
    refine Int.le_trans ?_ (foldMarks_ge l _)
    unfold markStep
    split <;> omega
theorem foldMarks_mem {scale : Int} {r c : Nat} {s : SetD} : ∀ (l : List SetD) (m : Int), s ∈ l → s.depth / scale = (r : Int) → rankE s ((c : Int) * scale) (((c : Int) + 1) * scale) ≤ l.foldl (markStep scale r c) m
  | t :: l, m, h, hr => by
    rw [List.foldl_cons]
    rcases List.mem_cons.1 h with rfl | h
    · refine Int.le_trans ?_ (foldMarks_ge l _)
      unfold markStep
      rw [if_pos hr]; omega
    · exact foldMarks_mem l _ h hr
theorem marks_mem {l : List SetD} {scale : Int} {r c : Nat} {s : SetD} (h : s ∈ l) (hr : s.depth / scale = (r : Int)) : rankE s ((c : Int) * scale) (((c : Int) + 1) * scale) ≤ marks l scale r c := foldMarks_mem l 0 h hr
theorem foldCols_mem (scale : Int) {s : SetD} : ∀ (l : List SetD) (m : Int), s ∈ l → s.length / scale + 1 ≤ l.foldl (fun m s => max m (s.length / scale + 1)) m
  | t :: l, m, h => by
    rw [List.foldl_cons]
    rcases List.mem_cons.1 h with rfl | h
    · exact Int.le_trans (by omega) (foldCols_ge scale l _)
    · exact foldCols_mem scale l _ h
theorem colsTo_mem {l : List SetD} {s : SetD} (scale : Int) (h : s ∈ l) : s.length / scale + 1 ≤ colsTo l scale := foldCols_mem scale l 0 h
theorem cell_of_div {scale p : Int} {c : Nat} (hs : 1 ≤ scale) (h : p / scale = (c : Int)) : (c : Int) * scale ≤ p ∧ p < ((c : Int) + 1) * scale := by
  have h1 := Int.ediv_mul_le p (show scale ≠ 0 by omega)
  have h2 := Int.lt_ediv_add_one_mul_self p (show 0 < scale by omega)
  rw [h] at h1 h2
  exact ⟨h1, h2⟩
theorem rank_line {s : SetD} {scale p : Int} {c : Nat} (hs : 1 ≤ scale) (hp : p ∈ s.lines.l) (hc : p / scale = (c : Int)) : rankE s ((c : Int) * scale) (((c : Int) + 1) * scale) = 3 := by
  have h1 : s.lines.l.any (inCell ((c : Int) * scale) (((c : Int) + 1) * scale)) = true := by
    rw [List.any_eq_true]
    obtain ⟨a, b⟩ := cell_of_div hs hc
    exact ⟨p, hp, by simp [inCell, a, b]⟩
  rw [rankE, if_pos h1]
theorem rank_item {s : SetD} {scale : Int} {c : Nat} {i : ItemD} (hs : 1 ≤ scale) (hi : i ∈ s.items.l) (h1 : i.place / scale ≤ (c : Int)) (h2 : (c : Int) ≤ (i.place + i.width - 1) / scale) : 2 ≤ rankE s ((c : Int) * scale) (((c : Int) + 1) * scale) := by
  have h3 : s.items.l.any (itemIn ((c : Int) * scale) (((c : Int) + 1) * scale)) = true := by
    rw [List.any_eq_true]
    have a1 := Int.lt_ediv_add_one_mul_self i.place (show 0 < scale by omega)
    have a2 : (i.place / scale + 1) * scale ≤ ((c : Int) + 1) * scale := Int.mul_le_mul_of_nonneg_right (by omega) (by omega)
    have b1 := Int.ediv_mul_le (i.place + i.width - 1) (show scale ≠ 0 by omega)
    have b2 : (c : Int) * scale ≤ (i.place + i.width - 1) / scale * scale := Int.mul_le_mul_of_nonneg_right h2 (by omega)
    exact ⟨i, hi, by simp only [itemIn, Bool.and_eq_true, decide_eq_true_eq]; omega⟩
  unfold rankE
  rw [h3]
  split <;> simp
theorem mark_line {l : List SetD} {s : SetD} {scale p : Int} {r c : Nat} (hs : 1 ≤ scale) (h : s ∈ l) (hr : s.depth / scale = (r : Int)) (hp : p ∈ s.lines.l) (hc : p / scale = (c : Int)) : markByte (marks l scale r c) = 111 := by
  have h1 := marks_mem (c := c) h hr
  rw [rank_line hs hp hc] at h1
  have h2 := marks_bound l scale r c
  rw [show marks l scale r c = 3 by omega]; rfl
theorem mark_item {l : List SetD} {s : SetD} {scale : Int} {r c : Nat} {i : ItemD} (hs : 1 ≤ scale) (h : s ∈ l) (hr : s.depth / scale = (r : Int)) (hi : i ∈ s.items.l) (h1 : i.place / scale ≤ (c : Int)) (h2 : (c : Int) ≤ (i.place + i.width - 1) / scale) :
    markByte (marks l scale r c) = 35 ∨ markByte (marks l scale r c) = 111 := by
  have h3 := marks_mem (c := c) h hr
  have h4 := rank_item (c := c) hs hi h1 h2
  have h5 := marks_bound l scale r c
  rcases (show marks l scale r c = 2 ∨ marks l scale r c = 3 by omega) with e | e
  · left; rw [e]; rfl
  · right; rw [e]; rfl
/-- lines and items lie on the pipe -/
def OnPipe (s : SetD) : Prop := (∀ p ∈ s.lines.l, 0 ≤ p ∧ p ≤ s.length) ∧ ∀ i ∈ s.items.l, 0 ≤ i.place ∧ 1 ≤ i.width ∧ i.place + i.width ≤ s.length
theorem onPipe_of_ok {s : SetD} (h : setOk s = true) : OnPipe s := by
  rw [setOk] at h
  simp only [Bool.and_eq_true] at h
  refine ⟨fun p hp => ?_, fun i hi => ?_⟩
  · have h3 := h.1.1.1.2
    rw [linesOk, Bool.and_eq_true] at h3
    obtain ⟨j, hj, e⟩ := List.getElem_of_mem hp
    have h4 := allIdx_iff.1 h3.2 j p (by rw [List.getElem?_eq_getElem hj, e])
    rw [lineAt, Bool.and_eq_true, betweenB_iff] at h4
    exact h4.1
  · have h3 := h.1.2
    rw [itemsOk, Bool.and_eq_true] at h3
    obtain ⟨j, hj, e⟩ := List.getElem_of_mem hi
    have h4 := allIdx_iff.1 h3.2 j i (by rw [List.getElem?_eq_getElem hj, e])
    rw [itemAt, Bool.and_eq_true] at h4
    obtain ⟨_, h5, h6, _⟩ := itemFine_iff.1 h4.1
    rw [betweenB_iff] at h5 h6
    omega
theorem rank_zero {s : SetD} {scale : Int} {c : Nat} (hs : 1 ≤ scale) (hp : OnPipe s) : rankE s ((c : Int) * scale) (((c : Int) + 1) * scale) = 0 ↔ ¬ (c : Int) ≤ s.length / scale := by
  have key : (c : Int) ≤ s.length / scale ↔ (c : Int) * scale ≤ s.length := by rw [Int.le_ediv_iff_mul_le (by omega)]
  rw [key]
  constructor
  · intro h hle
    unfold rankE at h
    split at h
    · omega
    · split at h
      · omega
      · simp at h
  · intro h
    have h1 : s.lines.l.any (inCell ((c : Int) * scale) (((c : Int) + 1) * scale)) = false := by
      rw [List.any_eq_false]
      intro p hpm
      have := hp.1 p hpm
      simp only [inCell, Bool.and_eq_true, decide_eq_true_eq]
      omega
    have h2 : s.items.l.any (itemIn ((c : Int) * scale) (((c : Int) + 1) * scale)) = false := by
      rw [List.any_eq_false]
      intro i him
      have := hp.2 i him
      simp only [itemIn, Bool.and_eq_true, decide_eq_true_eq]
      omega
    rw [rankE, h1, h2, if_neg (by simp), if_neg (by simp), if_neg h]
theorem foldMarks_zero {scale : Int} {r c : Nat} : ∀ (l : List SetD) (m : Int), 0 ≤ m → (l.foldl (markStep scale r c) m = 0 ↔ m = 0 ∧ ∀ s ∈ l, s.depth / scale = (r : Int) → rankE s ((c : Int) * scale) (((c : Int) + 1) * scale) = 0)
  | [], m, _ => by simp
  | s :: l, m, hm => by
    rw [List.foldl_cons]
    have hb := rankE_bound s ((c : Int) * scale) (((c : Int) + 1) * scale)
    have h0 : 0 ≤ markStep scale r c m s := by unfold markStep; split <;> omega
    rw [foldMarks_zero l _ h0]
    have e : markStep scale r c m s = 0 ↔ m = 0 ∧ (s.depth / scale = (r : Int) → rankE s ((c : Int) * scale) (((c : Int) + 1) * scale) = 0) := by
      unfold markStep
      split
      · rename_i hr
        simp only [hr, forall_const]
        omega
      · rename_i hr
        simp [hr]
    rw [e]
    simp only [List.mem_cons, forall_eq_or_imp]
    exact and_assoc
/-- a cell is a dot exactly if no pipe covers it -/
theorem marks_zero {l : List SetD} {scale : Int} (hs : 1 ≤ scale) (hl : ∀ s ∈ l, OnPipe s) (r c : Nat) : marks l scale r c = 0 ↔ ∀ s ∈ l, s.depth / scale = (r : Int) → ¬ (c : Int) ≤ s.length / scale := by
  rw [marks, foldMarks_zero l 0 (Int.le_refl 0)]
  constructor
  · rintro ⟨_, h⟩ s hsm hr
    exact (rank_zero hs (hl s hsm)).1 (h s hsm hr)
  · intro h
    exact ⟨rfl, fun s hsm hr => (rank_zero hs (hl s hsm)).2 (h s hsm hr)⟩
theorem markByte_dot {m : Int} (h0 : 0 ≤ m) (h3 : m ≤ 3) : markByte m = 46 ↔ m = 0 := by
  obtain rfl | rfl | rfl | rfl : m = 0 ∨ m = 1 ∨ m = 2 ∨ m = 3 := by omega
  all_goals decide
end Go.Proofs.YtliehhnnfpkciaaGreatDoor
