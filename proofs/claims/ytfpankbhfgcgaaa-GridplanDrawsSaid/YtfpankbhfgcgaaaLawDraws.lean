/- loftblocklaw33.GridplanDraws: the walk of the law. -/
import Derived.Test.YtfpankbhfgcgaaaPlanAt
namespace Go.Proofs.Ytfpankbhfgcgaaa
open Go.RowKit

theorem drawable_of_ok {h : HouseD} (hh : houseOk h = true) : ∀ s ∈ h.sets.l, Drawable s := fun s hs => by
  obtain ⟨d0, d1, l0, l1⟩ := sized_of_ok hh s hs
  refine ⟨d0, d1, fun p hp => ?_, placed_of_ok hh s hs⟩
  have h2 := set_of_ok hh hs
  rw [setOk] at h2
  simp only [Bool.and_eq_true] at h2
  have h3 := h2.1.1.1.2
  rw [linesOk, Bool.and_eq_true] at h3
  obtain ⟨j, hj, e⟩ := List.getElem_of_mem hp
  have h4 := allIdx_iff.1 h3.2 j p (by rw [List.getElem?_eq_getElem hj, e])
  rw [lineAt, Bool.and_eq_true, betweenB_iff] at h4
  omega
set_option maxHeartbeats 2000000 in
theorem gridplanDraws_any (h : HouseD) (hok : h.ok) (scale : Int) (w : World) (B : Nat) (hB : B ≤ w.heap.size) (hat : HouseD.at_ w B h) :
    Calls Try.prog 3 #[.agg #[.string h.name, .int .i64 h.height, .slice h.sets.A h.sets.l.length h.sets.cap, .slice h.roofs.A h.roofs.l.length h.roofs.cap], .int .i64 scale] w (Gives w (.bool true)) := by
  obtain ⟨W, hW, hWs, hWb, hWh⟩ := boxed w (.cells #[.string h.name, .int .i64 h.height, .slice h.sets.A h.sets.l.length h.sets.cap, .slice h.roofs.A h.roofs.l.length h.roofs.cap] 25)
  have hc := fun y : After W.heap.size W => HouseD.boxed hWh (by omega) y
  have hbd : ∀ y : After W.heap.size W, Below w.heap.size w y.val := fun y => hWb.trans (y.below.mono (by omega))
  have hatW : ∀ y : After W.heap.size W, HouseD.at_ y.val W.heap.size h := fun y => (hat.to (hWb.mono hB) (by omega)).to y.below (Nat.le_refl _)
  have KA := hide fun y : After W.heap.size W => Gives.after (x := y) (Nat.le_refl _) (awake33 y.val)
  have KL := hide fun y : After W.heap.size W => Gives.after (x := y) (Nat.le_refl _) (large_any h y.val W.heap.size y.size (hatW y))
  have KC := hide fun y : After W.heap.size W => Gives.after (x := y) (Nat.le_refl _) (coarse_any h hok scale y.val W.heap.size y.size (hatW y))
  have KS := hide fun y : After W.heap.size W => Gives.after (x := y) (Nat.le_refl _) (planSize_any h hok scale y.val W.heap.size y.size (hatW y))
  have KG := hide fun y : After W.heap.size W => Gives.after (x := y) (Nat.le_refl _) (refGiven_any h hok scale y.val W.heap.size y.size (hatW y))
  have HW := hide hW
  have HBD := hide hbd
  have HAT := hide hatW
  clear hW hWs hWh hWb hbd hat hatW
  cases hsm : houseSmall h 5
  · go_enter Try.func3, Try.ntmps3
    go_wp2_with fail
    rw [← HW.out]
    refine (KA.out (After.refl _ W)).mono ?_
    rintro e w1 ⟨rfl, y1, rfl⟩
    go_wp2_with fail
    refine (KL.out y1).mono ?_
    rintro e w1 ⟨rfl, y2, rfl⟩
    go_wp2
    go_ret
    exact Gives.mk rfl (HBD.out _)
  · cases hco : coarseB h scale
    · go_enter Try.func3, Try.ntmps3
      go_wp2_with fail
      rw [← HW.out]
      refine (KA.out (After.refl _ W)).mono ?_
      rintro e w1 ⟨rfl, y1, rfl⟩
      go_wp2_with fail
      refine (KL.out y1).mono ?_
      rintro e w1 ⟨rfl, y2, rfl⟩
      go_wp2_with fail
      refine (KC.out y2).mono ?_
      rintro e w1 ⟨rfl, y3, rfl⟩
      go_wp2
      go_ret
      exact Gives.mk rfl (HBD.out _)
    · by_cases h0 : givenE h scale = 0
      · obtain ⟨hh, hs1, hs2⟩ := givenE_zero h0
        have hR0 := rowsTo_nonneg h.sets.l scale
        have hC0 := colsTo_nonneg h.sets.l scale
        obtain ⟨R, hR⟩ : ∃ R : Nat, rowsTo h.sets.l scale = (R : Int) := ⟨(rowsTo h.sets.l scale).toNat, by omega⟩
        obtain ⟨C, hC⟩ : ∃ C : Nat, colsTo h.sets.l scale = (C : Int) := ⟨(colsTo h.sets.l scale).toNat, by omega⟩
        have hse : sizeE h scale = .tuple #[.int .i64 (R : Int), .int .i64 (C : Int), .int .i64 0] := by rw [sizeE, if_pos h0, hR, hC]
        have KS' := KS.out
        rw [hse] at KS'
        have KG' := KG.out
        rw [h0] at KG'
        have KZ := hide fun y : After W.heap.size W => Gives.after (x := y) (Nat.le_refl _) (refSize_any h (sized_of_ok hh) scale hs1 hs2 y.val W.heap.size y.size (HAT.out y))
        have KZ' := KZ.out
        rw [hR, hC] at KZ'
        have KS := hide KS'
        have KG := hide KG'
        have KZ := hide KZ'
        by_cases hbig : R ≤ 400 ∧ C ≤ 400
        · obtain ⟨hR4, hC4⟩ := hbig
          have KD := hide fun y : After W.heap.size W => Gives.after (x := y) (Nat.le_refl _) (draw_good h hok scale h0 R C hR hC hR4 hC4 y.val W.heap.size y.size (HAT.out y))
          have KRD := hide fun y : After W.heap.size W => Gives.after (x := y) (Nat.le_refl _) (refDraw_any h (sized_of_ok hh) (drawable_of_ok hh) scale hs1 hs2 R C hR hC hR4 hC4 y.val W.heap.size y.size (HAT.out y))
          have hdR : decide ((400 : Int) < (R : Int)) = false := by simp; omega
          have hdC : decide ((400 : Int) < (C : Int)) = false := by simp; omega
          clear h0 hR hC hR0 hC0 hse KS' KG' KZ' hh HAT
          generalize (⟨(planText h.sets.l scale C R).toArray⟩ : ByteArray) = T at *
          go_enter Try.func3, Try.ntmps3
          go_wp2_with fail
          rw [← HW.out]
          refine (KA.out (After.refl _ W)).mono ?_
          rintro e w1 ⟨rfl, y1, rfl⟩
          go_wp2_with fail
          refine (KL.out y1).mono ?_
          rintro e w1 ⟨rfl, y2, rfl⟩
          go_wp2_with fail
          refine (KC.out y2).mono ?_
          rintro e w1 ⟨rfl, y3, rfl⟩
          go_wp2_with fail
          refine (KD.out y3).mono ?_
          rintro e w1 ⟨rfl, y4, rfl⟩
          go_wp2_with fail
          refine (KS.out y4).mono ?_
          rintro e w1 ⟨rfl, y5, rfl⟩
          go_wp2_with fail
          refine (KG.out y5).mono ?_
          rintro e w1 ⟨rfl, y6, rfl⟩
          go_wp2_with fail
          refine (KZ.out y6).mono ?_
          rintro e w1 ⟨rfl, y7, rfl⟩
          go_wp2_with fail
          refine (KRD.out y7).mono ?_
          rintro e w1 ⟨rfl, y8, rfl⟩
          go_wp2
          go_ret
          exact Gives.mk (by simp) (HBD.out _)
        · have hb' : 400 < (R : Int) ∨ 400 < (C : Int) := by omega
          have KD := hide fun y : After W.heap.size W => Gives.after (x := y) (Nat.le_refl _) (draw_full h hok scale h0 (by rw [hR, hC]; exact hb') y.val W.heap.size y.size (HAT.out y))
          clear h0 hR hC hR0 hC0 hse KS' KG' KZ' hh HAT hbig
          rcases (show 400 < (R : Int) ∨ (¬ 400 < (R : Int) ∧ 400 < (C : Int)) by omega) with hd | ⟨hd, hd'⟩
          all_goals
            clear hb'
            go_enter Try.func3, Try.ntmps3
            go_wp2_with fail
            rw [← HW.out]
            refine (KA.out (After.refl _ W)).mono ?_
            rintro e w1 ⟨rfl, y1, rfl⟩
            go_wp2_with fail
            refine (KL.out y1).mono ?_
            rintro e w1 ⟨rfl, y2, rfl⟩
            go_wp2_with fail
            refine (KC.out y2).mono ?_
            rintro e w1 ⟨rfl, y3, rfl⟩
            go_wp2_with fail
            refine (KD.out y3).mono ?_
            rintro e w1 ⟨rfl, y4, rfl⟩
            go_wp2_with fail
            refine (KS.out y4).mono ?_
            rintro e w1 ⟨rfl, y5, rfl⟩
            go_wp2_with fail
            refine (KG.out y5).mono ?_
            rintro e w1 ⟨rfl, y6, rfl⟩
            go_wp2_with fail
            refine (KZ.out y6).mono ?_
            rintro e w1 ⟨rfl, y7, rfl⟩
            go_wp2
            go_ret
            exact Gives.mk (by rfl) (HBD.out _)
      · have KD := hide fun y : After W.heap.size W => Gives.after (x := y) (Nat.le_refl _) (draw_bad h hok scale h0 y.val W.heap.size y.size (HAT.out y))
        have hse : sizeE h scale = .tuple #[.int .i64 0, .int .i64 0, .int .i64 (givenE h scale)] := by rw [sizeE, if_neg h0]
        have KS' := KS.out
        rw [hse] at KS'
        have KS := hide KS'
        have h1 : (givenE h scale != 0) = true := by rw [bne_iff_ne]; exact h0
        clear h0 hse KS' HAT
        generalize givenE h scale = g at *
        go_enter Try.func3, Try.ntmps3
        go_wp2_with fail
        rw [← HW.out]
        refine (KA.out (After.refl _ W)).mono ?_
        rintro e w1 ⟨rfl, y1, rfl⟩
        go_wp2_with fail
        refine (KL.out y1).mono ?_
        rintro e w1 ⟨rfl, y2, rfl⟩
        go_wp2_with fail
        refine (KC.out y2).mono ?_
        rintro e w1 ⟨rfl, y3, rfl⟩
        go_wp2_with fail
        refine (KD.out y3).mono ?_
        rintro e w1 ⟨rfl, y4, rfl⟩
        go_wp2_with fail
        refine (KS.out y4).mono ?_
        rintro e w1 ⟨rfl, y5, rfl⟩
        go_wp2_with fail
        refine (KG.out y5).mono ?_
        rintro e w1 ⟨rfl, y6, rfl⟩
        go_wp2
        go_ret
        exact Gives.mk (by simp) (HBD.out _)
end Go.Proofs.Ytfpankbhfgcgaaa
