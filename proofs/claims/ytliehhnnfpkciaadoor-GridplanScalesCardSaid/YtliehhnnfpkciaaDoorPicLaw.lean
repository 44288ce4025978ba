/- The reference's picture of a cell is the highest rank of the sets of its row. -/
import Derived.Test.YtliehhnnfpkciaaDoorPicture
import Derived.Test.YtliehhnnfpkciaaDoorPlanPic
namespace Go.Proofs.YtliehhnnfpkciaaDoor
open Go.RowKit

theorem foldMarks_three {scale : Int} {r c : Nat} : ∀ (l : List SetD), l.foldl (markStep scale r c) 3 = 3
  | [] => rfl
  | s :: l => by
    rw [List.foldl_cons]
    have := rankE_bound s ((c : Int) * scale) (((c : Int) + 1) * scale)
    rw [show markStep scale r c 3 s = 3 by unfold markStep; split <;> omega]
    exact foldMarks_three l
theorem inCell_div {scale p : Int} {c : Nat} (hs : 1 ≤ scale) : inCell ((c : Int) * scale) (((c : Int) + 1) * scale) p = decide (p / scale = (c : Int)) := by
  have h1 := Int.ediv_mul_le p (show scale ≠ 0 by omega)
  have h2 := Int.lt_ediv_add_one_mul_self p (show 0 < scale by omega)
  rw [inCell, ← Bool.decide_and]
  apply decide_eq_decide.2
  constructor
  · rintro ⟨a, b⟩
    have e1 : (c : Int) < p / scale + 1 := by
      apply Int.lt_of_mul_lt_mul_right (a := scale) (by omega) (by omega)
    have e2 : p / scale < (c : Int) + 1 := by
      apply Int.lt_of_mul_lt_mul_right (a := scale) (by omega) (by omega)
    omega
  · intro e
    rw [← e]
    exact ⟨h1, h2⟩
theorem picFrom_marks {scale : Int} {r c : Nat} (hs : 1 ≤ scale) : ∀ (l : List SetD) (b : Nat), b ≤ 2 → (picFrom scale r c b l : Int) = l.foldl (markStep scale r c) (b : Int)
  | [], b, _ => rfl
  | s :: l, b, hb => by
    rw [picFrom, List.foldl_cons]
    by_cases hr : s.depth / scale = (r : Int)
    · have e1 : seenLine s.depth scale r c = inCell ((c : Int) * scale) (((c : Int) + 1) * scale) := by
        funext p
        rw [seenLine, inCell_div hs, decide_eq_true hr, Bool.true_and]
      have e2 : seenItem s.depth scale r c = itemIn ((c : Int) * scale) (((c : Int) + 1) * scale) := by
        funext i
        rw [seenItem, decide_eq_true hr, Bool.true_and]
      have e3 : seenPipe s scale r c = decide ((c : Int) * scale ≤ s.length) := by rw [seenPipe, decide_eq_true hr, Bool.true_and]
      rw [e1, e2, e3, markStep, if_pos hr, rankE]
      split
      · rw [show max (b : Int) 3 = 3 by omega, foldMarks_three]; rfl
      · split
        · rw [show max (b : Int) 2 = ((2 : Nat) : Int) by omega]; exact picFrom_marks hs l 2 (by omega)
        · by_cases hp : (c : Int) * scale ≤ s.length
          · rw [if_pos hp]
            by_cases h0 : b = 0
            · subst h0
              rw [if_pos ⟨rfl, decide_eq_true hp⟩]
              exact picFrom_marks hs l 1 (by omega)
            · rw [if_neg (fun h => h0 h.1), show max (b : Int) 1 = (b : Int) by omega]
              exact picFrom_marks hs l b hb
          · rw [if_neg hp, if_neg (fun h => hp (of_decide_eq_true h.2)), show max (b : Int) 0 = (b : Int) by omega]
            exact picFrom_marks hs l b hb
    · have e1 : s.lines.l.any (seenLine s.depth scale r c) = false := any_none fun j y _ _ => by rw [seenLine, decide_eq_false hr, Bool.false_and]
      have e2 : s.items.l.any (seenItem s.depth scale r c) = false := any_none fun j y _ _ => by rw [seenItem, decide_eq_false hr, Bool.false_and]
      have e3 : seenPipe s scale r c = false := by rw [seenPipe, decide_eq_false hr, Bool.false_and]
      rw [e1, e2, e3, markStep, if_neg hr]
      simpa using picFrom_marks hs l b hb
theorem glyph_marks {scale : Int} (hs : 1 ≤ scale) (l : List SetD) (r c : Nat) : glyph (picFrom scale r c 0 l) = ⟨#[markByte (marks l scale r c)]⟩ := by
  have h := picFrom_marks (r := r) (c := c) hs l 0 (by omega)
  have hb := marks_bound l scale r c
  rw [show ((0 : Nat) : Int) = 0 from rfl] at h
  change (picFrom scale r c 0 l : Int) = marks l scale r c at h
  rw [← h] at hb ⊢
  generalize picFrom scale r c 0 l = n at *
  obtain rfl | rfl | rfl | rfl : n = 0 ∨ n = 1 ∨ n = 2 ∨ n = 3 := by omega
  all_goals rfl
theorem bs_append (a b : ByteArray) : bs (a ++ b) = bs a ++ bs b := by
  rw [bs_data, bs_data, bs_data, ByteArray.data_append, Array.toList_append]
end Go.Proofs.YtliehhnnfpkciaaDoor
