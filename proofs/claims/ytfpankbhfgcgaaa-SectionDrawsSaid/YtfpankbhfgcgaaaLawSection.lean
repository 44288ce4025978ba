/- loftblocklaw32.SectionDraws: the walk of the law. -/
import Derived.Test.YtfpankbhfgcgaaaSecRefDraw
import Derived.Test.YtfpankbhfgcgaaaSecTrims
import Derived.Test.YtfpankbhfgcgaaaSecBig
import Derived.Test.YtfpankbhfgcgaaaSecDrawBad
import Derived.Test.YtfpankbhfgcgaaaSecDraw
import Derived.Test.YtfpankbhfgcgaaaSecEx
namespace Go.Proofs.Ytfpankbhfgcgaaa
open Go.RowKit

set_option maxHeartbeats 4000000 in
set_option maxRecDepth 100000 in
theorem sectionDraws_any (h : HouseD) (hok : h.ok) (trims : Sl Int) (scale : Int) (w : World) (B : Nat) (hB : B ≤ w.heap.size) (hat : HouseD.at_ w B h) (hatT : SlAt w B 1 intCells trims) :
    Calls Try.prog 4 #[.agg #[.string h.name, .int .i64 h.height, .slice h.sets.A h.sets.l.length h.sets.cap, .slice h.roofs.A h.roofs.l.length h.roofs.cap], .slice trims.A trims.l.length trims.cap, .int .i64 scale] w (Gives w (.bool true)) := by
  obtain ⟨W, hW, hWs, hWb, hWh⟩ := boxed w (.cells #[.string h.name, .int .i64 h.height, .slice h.sets.A h.sets.l.length h.sets.cap, .slice h.roofs.A h.roofs.l.length h.roofs.cap] 25)
  have hc := fun y : After W.heap.size W => HouseD.boxed hWh (by omega) y
  have hbd : ∀ y : After W.heap.size W, Below w.heap.size w y.val := fun y => hWb.trans (y.below.mono (by omega))
  have hatW : ∀ y : After W.heap.size W, HouseD.at_ y.val W.heap.size h := fun y => (hat.to (hWb.mono hB) (by omega)).to y.below (Nat.le_refl _)
  have hatTW : ∀ y : After W.heap.size W, SlAt y.val W.heap.size 1 intCells trims := fun y => (hatT.to (hWb.mono hB) (by omega)).to y.below (Nat.le_refl _)
  have KA := hide fun y : After W.heap.size W => Gives.after (x := y) (Nat.le_refl _) (awake32 y.val)
  have KL := hide fun y : After W.heap.size W => Gives.after (x := y) (Nat.le_refl _) (long_any h y.val W.heap.size y.size (hatW y))
  have KB := hide fun y : After W.heap.size W => Gives.after (x := y) (Nat.le_refl _) (big_any h hok scale y.val W.heap.size y.size (hatW y))
  have KG := hide fun y : After W.heap.size W => Gives.after (x := y) (Nat.le_refl _) (refSecGiven_any h hok scale y.val W.heap.size y.size (hatW y))
  have KT := hide fun y : After W.heap.size W => Gives.after (x := y) (Nat.le_refl _) (refTrims_any h trims y.val W.heap.size y.size (hatW y) (hatTW y))
  have HW := hide hW
  have HBD := hide hbd
  have HAT := hide hatW
  have HTT := hide hatTW
  clear hW hWs hWh hWb hbd hat hatW hatT hatTW
  cases hsm : houseSmall h 8
  · clear KB KG KT
    go_enter Try.func4, Try.ntmps4
    go_wp2_with fail
    rw [← HW.out]
    refine (KA.out (After.refl _ W)).mono ?_
    rintro e w1 ⟨rfl, y1, rfl⟩
    go_wp2_with fail
    refine (KL.out y1).mono ?_
    rintro e w1 ⟨rfl, y2, rfl⟩
    go_wp2
    go_ret
    exact Gives.mk rfl (HBD.out _)
  · by_cases hln : 20 < (trims.l.length : Int)
    · have hlnd : decide (20 < (trims.l.length : Int)) = true := by simp; omega
      clear KB KG KT
      go_enter Try.func4, Try.ntmps4
      go_wp2_with fail
      rw [← HW.out]
      refine (KA.out (After.refl _ W)).mono ?_
      rintro e w1 ⟨rfl, y1, rfl⟩
      go_wp2_with fail
      refine (KL.out y1).mono ?_
      rintro e w1 ⟨rfl, y2, rfl⟩
      go_wp2
      go_ret
      exact Gives.mk rfl (HBD.out _)
    · have hlnd : decide (20 < (trims.l.length : Int)) = false := by simp; omega
      cases hbg : bigE h scale
      · have KB := hide (hbg ▸ KB.out)
        by_cases h0 : secE h scale = 0
        · obtain ⟨hg, _⟩ := secE_zero h0
          obtain ⟨hh, hs1, hs2⟩ := givenE_zero hg
          have KG := hide (h0 ▸ KG.out)
          by_cases ht : trimsE h.sets.l trims.l = 0
          · have KT := hide (ht ▸ KT.out)
            obtain ⟨R1, R2, C1, C2⟩ := rows_bound h0
            obtain ⟨R, hR⟩ : ∃ R : Nat, secRows h scale = (R : Int) := ⟨(secRows h scale).toNat, by omega⟩
            obtain ⟨C, hC⟩ : ∃ C : Nat, secCols h scale = (C : Int) := ⟨(secCols h scale).toNat, by omega⟩
            have hH : h.height / scale = (R : Int) - 1 := by unfold secRows at hR; omega
            have KD := hide fun y : After W.heap.size W => Gives.after (x := y) (Nat.le_refl _) (secDraw_good h hok trims scale h0 ht R C hR hC y.val W.heap.size y.size (HAT.out y) (HTT.out y))
            have KR' := fun y : After W.heap.size W => Gives.after (x := y) (Nat.le_refl _) (refSecDraw_any h hh trims ht scale hs1 hs2 R C hR hC (by omega) (by omega) (by omega) y.val W.heap.size y.size (HAT.out y) (HTT.out y))
            rw [hH] at KR'
            have KR := hide KR'
            clear h0 ht hR hC hg hh hH KR' hbg R1 R2 C1 C2 HAT HTT
            generalize (⟨(secText h.sets.l trims.l scale ((R : Int) - 1) C R).toArray⟩ : ByteArray) = T at *
            go_enter Try.func4, Try.ntmps4
            go_wp2_with fail
            rw [← HW.out]
            refine (KA.out (After.refl _ W)).mono ?_
            rintro e w1 ⟨rfl, y1, rfl⟩
            go_wp2_with fail
            refine (KL.out y1).mono ?_
            rintro e w1 ⟨rfl, y2, rfl⟩
            go_wp2_with fail
            refine (KB.out y2).mono ?_
            rintro e w1 ⟨rfl, y3, rfl⟩
            go_wp2_with fail
            refine (KD.out y3).mono ?_
            rintro e w1 ⟨rfl, y4, rfl⟩
            go_wp2_with fail
            refine (KG.out y4).mono ?_
            rintro e w1 ⟨rfl, y5, rfl⟩
            go_wp2_with fail
            refine (KT.out y5).mono ?_
            rintro e w1 ⟨rfl, y6, rfl⟩
            go_wp2_with fail
            refine (KR.out y6).mono ?_
            rintro e w1 ⟨rfl, y7, rfl⟩
            go_wp2
            go_ret
            exact Gives.mk rfl (HBD.out _)
          · have KD := hide fun y : After W.heap.size W => Gives.after (x := y) (Nat.le_refl _) (secDraw_trims h hok trims scale h0 ht y.val W.heap.size y.size (HAT.out y) (HTT.out y))
            have htb : (trimsE h.sets.l trims.l == 0) = false := by simp; omega
            clear h0 ht hg hh hbg HAT HTT
            generalize trimsE h.sets.l trims.l = e0 at *
            go_enter Try.func4, Try.ntmps4
            go_wp2_with fail
            rw [← HW.out]
            refine (KA.out (After.refl _ W)).mono ?_
            rintro e w1 ⟨rfl, y1, rfl⟩
            go_wp2_with fail
            refine (KL.out y1).mono ?_
            rintro e w1 ⟨rfl, y2, rfl⟩
            go_wp2_with fail
            refine (KB.out y2).mono ?_
            rintro e w1 ⟨rfl, y3, rfl⟩
            go_wp2_with fail
            refine (KD.out y3).mono ?_
            rintro e w1 ⟨rfl, y4, rfl⟩
            go_wp2_with fail
            refine (KG.out y4).mono ?_
            rintro e w1 ⟨rfl, y5, rfl⟩
            go_wp2_with fail
            refine (KT.out y5).mono ?_
            rintro e w1 ⟨rfl, y6, rfl⟩
            go_wp2
            go_ret
            exact Gives.mk rfl (HBD.out _)
        · have KD := hide fun y : After W.heap.size W => Gives.after (x := y) (Nat.le_refl _) (secDraw_given h hok trims scale h0 y.val W.heap.size y.size (HAT.out y))
          have htb : (secE h scale == 0) = false := by simp; omega
          clear h0 hbg HAT HTT KT
          generalize secE h scale = e0 at *
          go_enter Try.func4, Try.ntmps4
          go_wp2_with fail
          rw [← HW.out]
          refine (KA.out (After.refl _ W)).mono ?_
          rintro e w1 ⟨rfl, y1, rfl⟩
          go_wp2_with fail
          refine (KL.out y1).mono ?_
          rintro e w1 ⟨rfl, y2, rfl⟩
          go_wp2_with fail
          refine (KB.out y2).mono ?_
          rintro e w1 ⟨rfl, y3, rfl⟩
          go_wp2_with fail
          refine (KD.out y3).mono ?_
          rintro e w1 ⟨rfl, y4, rfl⟩
          go_wp2_with fail
          refine (KG.out y4).mono ?_
          rintro e w1 ⟨rfl, y5, rfl⟩
          go_wp2
          go_ret
          exact Gives.mk rfl (HBD.out _)
      · have KB := hide (hbg ▸ KB.out)
        go_enter Try.func4, Try.ntmps4
        go_wp2_with fail
        rw [← HW.out]
        refine (KA.out (After.refl _ W)).mono ?_
        rintro e w1 ⟨rfl, y1, rfl⟩
        go_wp2_with fail
        refine (KL.out y1).mono ?_
        rintro e w1 ⟨rfl, y2, rfl⟩
        go_wp2_with fail
        refine (KB.out y2).mono ?_
        rintro e w1 ⟨rfl, y3, rfl⟩
        go_wp2
        go_ret
        exact Gives.mk rfl (HBD.out _)
end Go.Proofs.Ytfpankbhfgcgaaa
