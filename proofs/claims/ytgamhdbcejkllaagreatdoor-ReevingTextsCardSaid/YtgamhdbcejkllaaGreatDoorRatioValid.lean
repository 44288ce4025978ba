/- ratio.Valid, the losses of sheaves, and the reference's. -/
import Derived.Test.YtgamhdbcejkllaaGreatDoorRefGcd
namespace Go.Proofs.YtgamhdbcejkllaaGreatDoor
open Go.RowKit

theorem fracOk_iff {n d : Int} : fracOk n d = true ↔ (1 ≤ d ∧ d ≤ 1152921504606846976 ∧ -1152921504606846976 ≤ n ∧ n ≤ 1152921504606846976) ∧ Nat.gcd n.natAbs d.natAbs = 1 := by
  simp [fracOk, betweenB, and_assoc]
theorem fracOk_out {n d : Int} (h : ¬ (1 ≤ d ∧ d ≤ 1152921504606846976 ∧ -1152921504606846976 ≤ n ∧ n ≤ 1152921504606846976)) : fracOk n d = false := by
  rw [← Bool.not_eq_true, fracOk_iff]; exact fun h2 => h h2.1
theorem fracOk_in {n d : Int} (h : 1 ≤ d ∧ d ≤ 1152921504606846976 ∧ -1152921504606846976 ≤ n ∧ n ≤ 1152921504606846976) : fracOk n d = ((Nat.gcd n.natAbs d.natAbs : Int) == 1) := by
  rw [Bool.eq_iff_iff, fracOk_iff]
  simp only [beq_iff_eq]
  constructor
  · intro h2; rw [h2.2]; rfl
  · intro h2; exact ⟨h, by omega⟩
theorem bad_cases {n d : Int} (h : ¬ (1 ≤ d ∧ d ≤ 1152921504606846976 ∧ -1152921504606846976 ≤ n ∧ n ≤ 1152921504606846976)) :
    decide (1 ≤ d) = false ∨ (1 ≤ d ∧ decide (d ≤ 1152921504606846976) = false) ∨ (1 ≤ d ∧ d ≤ 1152921504606846976 ∧ decide (-1152921504606846976 ≤ n) = false) ∨ (1 ≤ d ∧ d ≤ 1152921504606846976 ∧ -1152921504606846976 ≤ n ∧ decide (n ≤ 1152921504606846976) = false) := by
  simp only [decide_eq_false_iff_not]; omega

set_option maxRecDepth 100000 in
set_option maxHeartbeats 2000000 in
theorem fracValid_any (n d : Int) (hn : I64 n) (w : World) : Calls Tryz.prog 46 #[.agg #[.int .i64 n, .int .i64 d]] w (Gives w (.bool (fracOk n d))) := by
  obtain ⟨W, hW, hWs, hWb, hWh⟩ := boxed w (.cells #[.int .i64 n, .int .i64 d] 55)
  have hc0 := fun y : After W.heap.size W => y.cells hWh (by omega) 0 _ rfl
  have hc1 := fun y : After W.heap.size W => y.cells hWh (by omega) 1 _ rfl
  have hbd : ∀ y : After W.heap.size W, Below w.heap.size w y.val := fun y => hWb.trans (y.below.mono (by omega))
  have YR : W = (After.refl W.heap.size W).val := rfl
  have HW := hide hW
  have HBD := hide hbd
  clear hW hWs hWh hWb hbd
  by_cases hin : 1 ≤ d ∧ d ≤ 1152921504606846976 ∧ -1152921504606846976 ≤ n ∧ n ≤ 1152921504606846976
  · have HF := hide (fracOk_in hin)
    obtain ⟨e, rfl⟩ : ∃ e : Nat, d = (e : Int) := ⟨d.toNat, by omega⟩
    obtain ⟨h1, h2, h3, h4⟩ := hin
    have hsz := fun v : World => Gives.after (x := After.refl v.heap.size v) (Nat.le_refl _) (size_any n hn v)
    go_enter Tryz.func46, Tryz.ntmps46
    go_wp2_with fail
    rw [← HW.out, YR]
    refine wp_region_after (After.refl _ _) (by kernel_rfl) (by kernel_rfl) ?_
    repeat (go_big_quiet_step (first
      | (go_at_call 67; exact Gives.after (Nat.le_refl _) (size_any n hn _))
      | (go_at_call 66; exact Gives.after (Nat.le_refl _) (gcd_any n.natAbs e (by omega) (by omega) _))))
    refine wpQuiet_nil ?_
    intro z
    go_wp2
    go_ret
    exact Gives.mk (congrArg Value.bool (by rw [HF.out]; simp)) (HBD.out z)
  · have HF := hide (fracOk_out hin)
    rcases bad_cases hin with h1 | ⟨h1, h2⟩ | ⟨h1, h2, h3⟩ | ⟨h1, h2, h3, h4⟩
    all_goals
      clear hin
      go_enter Tryz.func46, Tryz.ntmps46
      go_wp2_with fail
      rw [← HW.out, YR]
      refine wp_region_after (After.refl _ _) (by kernel_rfl) (by kernel_rfl) ?_
      repeat (go_big_quiet_step (fail))
      refine wpQuiet_nil ?_
      intro z
      go_wp2
      go_ret
      exact Gives.mk (congrArg Value.bool HF.out.symm) (HBD.out z)
set_option maxRecDepth 100000 in
set_option maxHeartbeats 2000000 in
theorem refFrac_any (n d : Int) (hn : I64 n) (hd : I64 d) (w : World) : Calls Tryz.prog 83 #[.agg #[.int .i64 n, .int .i64 d]] w (Gives w (.bool (fracOk n d))) := by
  obtain ⟨W, hW, hWs, hWb, hWh⟩ := boxed w (.cells #[.int .i64 n, .int .i64 d] 55)
  have hc0 := fun y : After W.heap.size W => y.cells hWh (by omega) 0 _ rfl
  have hc1 := fun y : After W.heap.size W => y.cells hWh (by omega) 1 _ rfl
  have hbd : ∀ y : After W.heap.size W, Below w.heap.size w y.val := fun y => hWb.trans (y.below.mono (by omega))
  have YR : W = (After.refl W.heap.size W).val := rfl
  have HW := hide hW
  have HBD := hide hbd
  clear hW hWs hWh hWb hbd
  by_cases hin : 1 ≤ d ∧ d ≤ 1152921504606846976 ∧ -1152921504606846976 ≤ n ∧ n ≤ 1152921504606846976
  · have HF := hide (fracOk_in hin)
    obtain ⟨e, rfl⟩ : ∃ e : Nat, d = (e : Int) := ⟨d.toNat, by omega⟩
    obtain ⟨h1, h2, h3, h4⟩ := hin
    have g1 : ¬ ((e : Int) < 1) := by omega
    have g2 : ¬ (1152921504606846976 < (e : Int)) := by omega
    have g3 : ¬ (n < -1152921504606846976) := by omega
    have g4 : ¬ (1152921504606846976 < n) := by omega
    rcases Bool.eq_false_or_eq_true ((Nat.gcd n.natAbs e : Int) == 1) with hg | hg
    all_goals
     go_enter Tryz.func83, Tryz.ntmps83
     go_wp2_with fail
     rw [← HW.out, YR]
     refine wp_region_after (After.refl _ _) (by kernel_rfl) (by kernel_rfl) ?_
     repeat (go_big_quiet_step (first
       | (go_at_call_of 52 n; exact Gives.after (Nat.le_refl _) (refSize02_any n hn _))
       | (go_at_call 52; exact Gives.after (Nat.le_refl _) (refSize02_any (e : Int) hd _))
       | (go_at_call 98; exact Gives.after (Nat.le_refl _) (refGcd_any n.natAbs e (by omega) (by omega) (by omega) _))))
     refine wpQuiet_nil ?_
     intro z
     go_wp2
     go_ret
     exact Gives.mk (congrArg Value.bool (by rw [HF.out]; simpa using hg.symm)) (HBD.out z)
  · have HF := hide (fracOk_out hin)
    go_enter Tryz.func83, Tryz.ntmps83
    go_wp2
    all_goals first
      | (go_ret; rw [← HW.out]; exact Gives.mk (congrArg Value.bool HF.out.symm) (HBD.out (After.refl _ _)))
      | (exfalso; omega)
end Go.Proofs.YtgamhdbcejkllaaGreatDoor
