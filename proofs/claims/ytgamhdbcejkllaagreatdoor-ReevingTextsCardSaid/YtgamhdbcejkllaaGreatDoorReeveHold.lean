/- reeving.hold and rope, and the reference's. -/
import Derived.Test.YtgamhdbcejkllaaGreatDoorReeveFind
namespace Go.Proofs.YtgamhdbcejkllaaGreatDoor
open Go.RowKit

theorem within_any (n lo hi : Int) (w : World) : Calls Tryz.prog 33 #[.int .i64 n, .int .i64 lo, .int .i64 hi] w (Gives w (.bool (betweenB n lo hi))) := by
  go_enter Tryz.func33, Tryz.ntmps33
  go_wp2
  all_goals
    go_ret
    exact Gives.mk (congrArg Value.bool (by rw [Bool.eq_iff_iff, betweenB_iff]; simp; omega)) (Below.refl _ _)
theorem of_any (n : Int) (w : World) : Calls Tryz.prog 69 #[.int .i64 n] w (Gives w (.agg #[.int .i64 n, .int .i64 1])) := by
  go_enter Tryz.func69, Tryz.ntmps69
  go_wp2
  go_returns
  exact Gives.mk rfl ((Below.refl _ _).alloc (Nat.le_refl _) _)

set_option maxRecDepth 100000 in
set_option maxHeartbeats 2000000 in
theorem hold_any (s : SysD) (h : HoldD) (hok : h.ok) (e : Bool) (w : World) (B : Nat) (hB : B ≤ w.heap.size) (hat : SysD.at_ w B s) :
    Calls Tryz.prog 57 #[.agg #[.slice s.blocks.A s.blocks.l.length s.blocks.cap, .slice s.ropes.A s.ropes.l.length s.ropes.cap], .agg #[.string h.block, .int .i64 h.pulls, .int .i64 h.num, .int .i64 h.den], .bool e] w (Gives w (.bool (holdOk s.blocks.l h e))) := by
  obtain ⟨W1, hW1, hs1, hb1, hh1⟩ := boxed w (.cells #[.slice s.blocks.A s.blocks.l.length s.blocks.cap, .slice s.ropes.A s.ropes.l.length s.ropes.cap] 25)
  obtain ⟨W, hW2, hs2, hb2, hh2⟩ := boxed W1 (.cells #[.string h.block, .int .i64 h.pulls, .int .i64 h.num, .int .i64 h.den] 57)
  have hb : Below w.heap.size w W := hb1.trans (hb2.mono (by omega))
  have hh1' : W.heap[w.heap.size]? = some (.cells #[.slice s.blocks.A s.blocks.l.length s.blocks.cap, .slice s.ropes.A s.ropes.l.length s.ropes.cap] 25 (0, 0)) := (hb2.block _ (by omega)).trans hh1
  rw [hs1] at hh2
  have hcS := fun y : After W.heap.size W => SysD.boxed hh1' (by omega) y
  have hcH := fun y : After W.heap.size W => HoldD.boxed hh2 (by omega) y
  have hbd : ∀ y : After W.heap.size W, Below w.heap.size w y.val := fun y => hb.trans (y.below.mono (by omega))
  have hfind := fun y : After W.heap.size W => find_any s h.block y.val W.heap.size y.size (hat.to ((hb.mono hB).trans (y.below.mono (by omega))) (by omega))
  have HW := hide (show W = (w.alloc (.cells #[.slice s.blocks.A s.blocks.l.length s.blocks.cap, .slice s.ropes.A s.ropes.l.length s.ropes.cap] 25)).alloc (.cells #[.string h.block, .int .i64 h.pulls, .int .i64 h.num, .int .i64 h.den] 57) by rw [hW2, hW1])
  have HBD := hide hbd
  have HF := hide hfind
  clear hW1 hW2 hs1 hs2 hh1 hh2 hh1' hb1 hb2 hb hbd hat hfind
  obtain ⟨r, hr⟩ : ∃ r, r = holdOk s.blocks.l h e := ⟨_, rfl⟩
  rw [← hr]
  unfold holdOk pullOk at hr
  obtain ⟨f, hf⟩ : ∃ f, f = findB s.blocks.l h.block := ⟨_, rfl⟩
  rw [← hf] at hr
  have HF := hide (hf ▸ HF.out)
  clear hf
  obtain ⟨block, pulls, num, den⟩ := h
  simp only at *
  have HR := hide hr
  clear hr
  have hnum := hok.num
  cases e
  · rcases Bool.eq_false_or_eq_true (lossOk num den) with hl | hl
    · go_enter Tryz.func57, Tryz.ntmps57
      go_wp2_with (first
        | (go_at_call 72; rw [← HW.out]; refine (Gives.first (lossy_any num den hnum _)).mono ?_; rintro e w' ⟨rfl, y, rfl⟩)
        | (go_at_call 31; refine (Gives.after (Nat.le_refl _) (HF.out y)).mono ?_; rintro e w' ⟨rfl, y2, rfl⟩))
      all_goals
        go_ret
        refine Gives.mk (congrArg Value.bool ?_) (HBD.out _)
        rw [HR.out]
        clear HR HW HBD HF hcS hcH
        first
          | (simp_all; done)
          | (simp_all; rw [Bool.eq_iff_iff]; simp <;> omega)
    · go_enter Tryz.func57, Tryz.ntmps57
      go_wp2_with (first
        | (go_at_call 72; rw [← HW.out]; refine (Gives.first (lossy_any num den hnum _)).mono ?_; rintro e w' ⟨rfl, y, rfl⟩))
      go_ret
      exact Gives.mk (congrArg Value.bool (by rw [HR.out]; simp [hl])) (HBD.out _)
  · have YR : W = (After.refl W.heap.size W).val := rfl
    by_cases h1 : num = 1 ∧ den = 1
    · obtain ⟨rfl, rfl⟩ := h1
      go_enter Tryz.func57, Tryz.ntmps57
      go_wp2_with (go_at_call 31; rw [← HW.out, YR]; refine (Gives.after (Nat.le_refl _) (HF.out (After.refl _ _))).mono ?_; rintro e w' ⟨rfl, y2, rfl⟩)
      all_goals
        go_ret
        first
          | refine Gives.mk (congrArg Value.bool ?_) (HBD.out _)
          | (rw [← HW.out]; refine Gives.mk (congrArg Value.bool ?_) (HBD.out (After.refl _ _)))
        rw [HR.out]
        clear HR HW HBD HF hcS hcH
        first
          | (simp_all [endLoss]; done)
          | (simp_all [endLoss]; rw [Bool.eq_iff_iff]; simp <;> omega)
    · have h3 : endLoss num den = false := by rw [Bool.eq_false_iff]; simp only [endLoss, ne_eq, Bool.and_eq_true, decide_eq_true_eq]; exact h1
      have hB2 : Below w.heap.size w W := HBD.out (After.refl _ _)
      have hr2 : r = false := by rw [HR.out]; simp [h3]
      have HR2 := hide hr2
      clear hr2 h3
      rcases (show num ≠ 1 ∨ (num = 1 ∧ den ≠ 1) by omega) with h4 | ⟨rfl, h4⟩
      all_goals
        go_enter Tryz.func57, Tryz.ntmps57
        go_wp2
        go_ret
        rw [← HW.out]
        exact Gives.mk (congrArg Value.bool HR2.out.symm) hB2
set_option maxRecDepth 100000 in
set_option maxHeartbeats 2000000 in
theorem refHold_any (s : SysD) (h : HoldD) (hok : h.ok) (e : Bool) (w : World) (B : Nat) (hB : B ≤ w.heap.size) (hat : SysD.at_ w B s) :
    Calls Tryz.prog 50 #[.agg #[.slice s.blocks.A s.blocks.l.length s.blocks.cap, .slice s.ropes.A s.ropes.l.length s.ropes.cap], .agg #[.string h.block, .int .i64 h.pulls, .int .i64 h.num, .int .i64 h.den], .bool e] w (Gives w (.bool (holdOk s.blocks.l h e))) := by
  obtain ⟨W1, hW1, hs1, hb1, hh1⟩ := boxed w (.cells #[.slice s.blocks.A s.blocks.l.length s.blocks.cap, .slice s.ropes.A s.ropes.l.length s.ropes.cap] 25)
  obtain ⟨W, hW2, hs2, hb2, hh2⟩ := boxed W1 (.cells #[.string h.block, .int .i64 h.pulls, .int .i64 h.num, .int .i64 h.den] 57)
  have hb : Below w.heap.size w W := hb1.trans (hb2.mono (by omega))
  have hh1' : W.heap[w.heap.size]? = some (.cells #[.slice s.blocks.A s.blocks.l.length s.blocks.cap, .slice s.ropes.A s.ropes.l.length s.ropes.cap] 25 (0, 0)) := (hb2.block _ (by omega)).trans hh1
  rw [hs1] at hh2
  have hcS := fun y : After W.heap.size W => SysD.boxed hh1' (by omega) y
  have hcH := fun y : After W.heap.size W => HoldD.boxed hh2 (by omega) y
  have hbd : ∀ y : After W.heap.size W, Below w.heap.size w y.val := fun y => hb.trans (y.below.mono (by omega))
  have hfind := fun y : After W.heap.size W => refFindB_any s h.block y.val W.heap.size y.size (hat.to ((hb.mono hB).trans (y.below.mono (by omega))) (by omega))
  have HW := hide (show W = (w.alloc (.cells #[.slice s.blocks.A s.blocks.l.length s.blocks.cap, .slice s.ropes.A s.ropes.l.length s.ropes.cap] 25)).alloc (.cells #[.string h.block, .int .i64 h.pulls, .int .i64 h.num, .int .i64 h.den] 57) by rw [hW2, hW1])
  have HBD := hide hbd
  have HF := hide hfind
  clear hW1 hW2 hs1 hs2 hh1 hh2 hh1' hb1 hb2 hb hbd hat hfind
  obtain ⟨r, hr⟩ : ∃ r, r = holdOk s.blocks.l h e := ⟨_, rfl⟩
  rw [← hr]
  unfold holdOk pullOk at hr
  obtain ⟨f, hf⟩ : ∃ f, f = findB s.blocks.l h.block := ⟨_, rfl⟩
  rw [← hf] at hr
  have HF := hide (hf ▸ HF.out)
  clear hf
  obtain ⟨block, pulls, num, den⟩ := h
  simp only at *
  have HR := hide hr
  clear hr
  have hnum := hok.num
  have hden := hok.den
  have YR : W = (After.refl W.heap.size W).val := rfl
  have hcase : (e = true ∧ num = 1 ∧ den = 1 ∧ lossOk 1 1 = true) ∨ (e = true ∧ (num == 1) = false) ∨ (e = true ∧ num = 1 ∧ (den == 1) = false) ∨ (e = false ∧ lossOk num den = true) ∨ (e = false ∧ lossOk num den = false) := by
    cases e
    · rcases Bool.eq_false_or_eq_true (lossOk num den) with hl | hl
      · exact Or.inr (Or.inr (Or.inr (Or.inl ⟨rfl, hl⟩)))
      · exact Or.inr (Or.inr (Or.inr (Or.inr ⟨rfl, hl⟩)))
    · by_cases h1 : num = 1 ∧ den = 1
      · exact Or.inl ⟨rfl, h1.1, h1.2, by decide⟩
      · by_cases h2 : num = 1
        · exact Or.inr (Or.inr (Or.inl ⟨rfl, h2, by simp; omega⟩))
        · exact Or.inr (Or.inl ⟨rfl, by simp; omega⟩)
  rcases hcase with ⟨rfl, rfl, rfl, hl⟩ | ⟨rfl, h2⟩ | ⟨rfl, rfl, h2⟩ | ⟨rfl, hl⟩ | ⟨rfl, hl⟩
  · go_enter Tryz.func50, Tryz.ntmps50
    go_wp2_with fail
    rw [← HW.out, YR]
    refine wp_region_after (After.refl _ _) (by kernel_rfl) (by kernel_rfl) ?_
    repeat (go_big_quiet_step (first
      | (go_at_call 69; exact Gives.after (Nat.le_refl _) (of_any 1 _))
      | (go_at_call 70; exact Gives.after (Nat.le_refl _) (rightLoss_any 1 1 hnum hden _))))
    refine wpQuiet_nil ?_
    intro z
    go_wp2_with (go_at_call 26; refine (Gives.after (Nat.le_refl _) (HF.out _)).mono ?_; rintro e w' ⟨rfl, y2, rfl⟩)
    all_goals
      go_ret
      refine Gives.mk (congrArg Value.bool ?_) (HBD.out _)
      rw [HR.out]
      clear HR HW HBD HF hcS hcH
      first
        | (simp_all [endLoss]; done)
        | (simp_all [endLoss]; rw [Bool.eq_iff_iff]; simp <;> omega)
  · go_enter Tryz.func50, Tryz.ntmps50
    go_wp2_with fail
    rw [← HW.out, YR]
    refine wp_region_after (After.refl _ _) (by kernel_rfl) (by kernel_rfl) ?_
    repeat (go_big_quiet_step ((go_at_call 69; exact Gives.after (Nat.le_refl _) (of_any 1 _))))
    refine wpQuiet_nil ?_
    intro z
    go_wp2
    go_ret
    refine Gives.mk (congrArg Value.bool ?_) (HBD.out _)
    have h3 : endLoss num den = false := by simp at h2; simp [endLoss, h2]
    rw [HR.out]
    simp [h3]
  · go_enter Tryz.func50, Tryz.ntmps50
    go_wp2_with fail
    rw [← HW.out, YR]
    refine wp_region_after (After.refl _ _) (by kernel_rfl) (by kernel_rfl) ?_
    repeat (go_big_quiet_step ((go_at_call 69; exact Gives.after (Nat.le_refl _) (of_any 1 _))))
    refine wpQuiet_nil ?_
    intro z
    go_wp2
    go_ret
    refine Gives.mk (congrArg Value.bool ?_) (HBD.out _)
    have h3 : endLoss 1 den = false := by simp at h2; simp [endLoss, h2]
    rw [HR.out]
    simp [h3]
  · go_enter Tryz.func50, Tryz.ntmps50
    go_wp2_with fail
    rw [← HW.out, YR]
    refine wp_region_after (After.refl _ _) (by kernel_rfl) (by kernel_rfl) ?_
    repeat (go_big_quiet_step ((go_at_call 70; exact Gives.after (Nat.le_refl _) (rightLoss_any num den hnum hden _))))
    refine wpQuiet_nil ?_
    intro z
    go_wp2_with (go_at_call 26; refine (Gives.after (Nat.le_refl _) (HF.out _)).mono ?_; rintro e w' ⟨rfl, y2, rfl⟩)
    all_goals
      go_ret
      refine Gives.mk (congrArg Value.bool ?_) (HBD.out _)
      rw [HR.out]
      clear HR HW HBD HF hcS hcH
      first
        | (simp_all; done)
        | (simp_all; rw [Bool.eq_iff_iff]; simp <;> omega)
  · go_enter Tryz.func50, Tryz.ntmps50
    go_wp2_with fail
    rw [← HW.out, YR]
    refine wp_region_after (After.refl _ _) (by kernel_rfl) (by kernel_rfl) ?_
    repeat (go_big_quiet_step ((go_at_call 70; exact Gives.after (Nat.le_refl _) (rightLoss_any num den hnum hden _))))
    refine wpQuiet_nil ?_
    intro z
    go_wp2
    go_ret
    refine Gives.mk (congrArg Value.bool ?_) (HBD.out _)
    rw [HR.out]
    simp [hl]
end Go.Proofs.YtgamhdbcejkllaaGreatDoor
