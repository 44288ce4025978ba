/- loftblocklaw32.right: right houses, trims and scales, and small ones. -/
import Derived.Test.YtliehhnnfpkciaaDoorSecTrims
import Derived.Test.YtliehhnnfpkciaaDoorSecBig
import Derived.Test.YtliehhnnfpkciaaDoorSecEx
namespace Go.Proofs.YtliehhnnfpkciaaDoor
open Go.RowKit

def rightE (h : HouseD) (tr : List Int) (scale : Int) : Bool := houseSmall h 8 && decide (tr.length ≤ 20) && decide (secE h scale = 0) && !bigE h scale && decide (trimsE h.sets.l tr = 0)
theorem rightE_iff {h : HouseD} {tr : List Int} {scale : Int} : rightE h tr scale = true ↔ houseSmall h 8 = true ∧ tr.length ≤ 20 ∧ secE h scale = 0 ∧ bigE h scale = false ∧ trimsE h.sets.l tr = 0 := by
  simp [rightE, and_assoc]
set_option maxHeartbeats 4000000 in
theorem right_any (h : HouseD) (hok : h.ok) (trims : Sl Int) (scale : Int) (w : World) (B : Nat) (hB : B ≤ w.heap.size) (hat : HouseD.at_ w B h) (hatT : SlAt w B 1 intCells trims) :
    Calls Tryd.prog 17 #[.agg #[.string h.name, .int .i64 h.height, .slice h.sets.A h.sets.l.length h.sets.cap, .slice h.roofs.A h.roofs.l.length h.roofs.cap], .slice trims.A trims.l.length trims.cap, .int .i64 scale] w (Gives w (.bool (rightE h trims.l scale))) := by
  obtain ⟨W, hW, hWs, hWb, hWh⟩ := boxed w (.cells #[.string h.name, .int .i64 h.height, .slice h.sets.A h.sets.l.length h.sets.cap, .slice h.roofs.A h.roofs.l.length h.roofs.cap] 25)
  have hc := fun y : After W.heap.size W => HouseD.boxed hWh (by omega) y
  have hbd : ∀ y : After W.heap.size W, Below w.heap.size w y.val := fun y => hWb.trans (y.below.mono (by omega))
  have hatW : ∀ y : After W.heap.size W, HouseD.at_ y.val W.heap.size h := fun y => (hat.to (hWb.mono hB) (by omega)).to y.below (Nat.le_refl _)
  have hatTW : ∀ y : After W.heap.size W, SlAt y.val W.heap.size 1 intCells trims := fun y => (hatT.to (hWb.mono hB) (by omega)).to y.below (Nat.le_refl _)
  have KL := hide fun y : After W.heap.size W => Gives.after (x := y) (Nat.le_refl _) (long_any h y.val W.heap.size y.size (hatW y))
  have KB := hide fun y : After W.heap.size W => Gives.after (x := y) (Nat.le_refl _) (big_any h hok scale y.val W.heap.size y.size (hatW y))
  have KG := hide fun y : After W.heap.size W => Gives.after (x := y) (Nat.le_refl _) (refSecGiven_any h hok scale y.val W.heap.size y.size (hatW y))
  have KT := hide fun y : After W.heap.size W => Gives.after (x := y) (Nat.le_refl _) (refTrims_any h trims y.val W.heap.size y.size (hatW y) (hatTW y))
  have HW := hide hW
  have HBD := hide hbd
  have HE := hide (show rightE h trims.l scale = (houseSmall h 8 && decide (trims.l.length ≤ 20) && decide (secE h scale = 0) && !bigE h scale && decide (trimsE h.sets.l trims.l = 0)) from rfl)
  clear hW hWs hWh hWb hbd hat hatW hatT hatTW
  cases hsm : houseSmall h 8
  · have HR := hide (show rightE h trims.l scale = false by rw [HE.out, hsm]; rfl)
    clear KB KG KT HE
    go_enter Tryd.func17, Tryd.ntmps17
    go_wp2_with fail
    rw [← HW.out]
    refine (KL.out (After.refl _ W)).mono ?_
    rintro e w1 ⟨rfl, y1, rfl⟩
    go_wp2
    go_ret
    exact Gives.mk (by rw [HR.out]; rfl) (HBD.out _)
  · by_cases hln : 20 < (trims.l.length : Int)
    · have hlnd : decide ((trims.l.length : Int) ≤ 20) = false := by simp; omega
      have HR := hide (show rightE h trims.l scale = false by rw [HE.out, decide_eq_false (by omega : ¬ trims.l.length ≤ 20)]; simp)
      clear KB KG KT HE
      go_enter Tryd.func17, Tryd.ntmps17
      go_wp2_with fail
      rw [← HW.out]
      refine (KL.out (After.refl _ W)).mono ?_
      rintro e w1 ⟨rfl, y1, rfl⟩
      go_wp2
      go_ret
      exact Gives.mk (by rw [HR.out]; rfl) (HBD.out _)
    · have hlnd : decide ((trims.l.length : Int) ≤ 20) = true := by simp; omega
      by_cases h0 : secE h scale = 0
      · have h0b : (secE h scale == 0) = true := by simp [h0]
        cases hbg : bigE h scale
        · have KB := hide (hbg ▸ KB.out)
          by_cases ht : trimsE h.sets.l trims.l = 0
          · have htb : (trimsE h.sets.l trims.l == 0) = true := by simp [ht]
            have HR := hide (show rightE h trims.l scale = true from rightE_iff.2 ⟨hsm, by omega, h0, hbg, ht⟩)
            clear h0 ht hbg HE
            generalize trimsE h.sets.l trims.l = e1 at *
            generalize secE h scale = e0 at *
            go_enter Tryd.func17, Tryd.ntmps17
            go_wp2_with fail
            rw [← HW.out]
            refine (KL.out (After.refl _ W)).mono ?_
            rintro e w1 ⟨rfl, y1, rfl⟩
            go_wp2_with fail
            refine (KG.out y1).mono ?_
            rintro e w1 ⟨rfl, y2, rfl⟩
            go_wp2_with fail
            refine (KB.out y2).mono ?_
            rintro e w1 ⟨rfl, y3, rfl⟩
            go_wp2_with fail
            refine (KT.out y3).mono ?_
            rintro e w1 ⟨rfl, y4, rfl⟩
            go_wp2
            go_ret
            exact Gives.mk (by rw [HR.out]; rfl) (HBD.out _)
          · have htb : (trimsE h.sets.l trims.l == 0) = false := by simp; omega
            have HR := hide (show rightE h trims.l scale = false by rw [HE.out, decide_eq_false ht, Bool.and_false])
            clear h0 ht hbg HE
            generalize trimsE h.sets.l trims.l = e1 at *
            generalize secE h scale = e0 at *
            go_enter Tryd.func17, Tryd.ntmps17
            go_wp2_with fail
            rw [← HW.out]
            refine (KL.out (After.refl _ W)).mono ?_
            rintro e w1 ⟨rfl, y1, rfl⟩
            go_wp2_with fail
            refine (KG.out y1).mono ?_
            rintro e w1 ⟨rfl, y2, rfl⟩
            go_wp2_with fail
            refine (KB.out y2).mono ?_
            rintro e w1 ⟨rfl, y3, rfl⟩
            go_wp2_with fail
            refine (KT.out y3).mono ?_
            rintro e w1 ⟨rfl, y4, rfl⟩
            go_wp2
            go_ret
            exact Gives.mk (by rw [HR.out]; rfl) (HBD.out _)
        · have KB := hide (hbg ▸ KB.out)
          have HR := hide (show rightE h trims.l scale = false by rw [HE.out, hbg]; simp)
          clear h0 hbg HE KT
          generalize secE h scale = e0 at *
          go_enter Tryd.func17, Tryd.ntmps17
          go_wp2_with fail
          rw [← HW.out]
          refine (KL.out (After.refl _ W)).mono ?_
          rintro e w1 ⟨rfl, y1, rfl⟩
          go_wp2_with fail
          refine (KG.out y1).mono ?_
          rintro e w1 ⟨rfl, y2, rfl⟩
          go_wp2_with fail
          refine (KB.out y2).mono ?_
          rintro e w1 ⟨rfl, y3, rfl⟩
          go_wp2
          go_ret
          exact Gives.mk (by rw [HR.out]; rfl) (HBD.out _)
      · have h0b : (secE h scale == 0) = false := by simp; omega
        have HR := hide (show rightE h trims.l scale = false by rw [HE.out, decide_eq_false h0]; simp)
        clear h0 HE KT KB
        generalize secE h scale = e0 at *
        go_enter Tryd.func17, Tryd.ntmps17
        go_wp2_with fail
        rw [← HW.out]
        refine (KL.out (After.refl _ W)).mono ?_
        rintro e w1 ⟨rfl, y1, rfl⟩
        go_wp2_with fail
        refine (KG.out y1).mono ?_
        rintro e w1 ⟨rfl, y2, rfl⟩
        go_wp2
        go_ret
        exact Gives.mk (by rw [HR.out]; rfl) (HBD.out _)
end Go.Proofs.YtliehhnnfpkciaaDoor
