/- loftblocklaw32.big. -/
import Derived.Test.YtliehhnnfpkciaaDoorSecRef
namespace Go.Proofs.YtliehhnnfpkciaaDoor
open Go.RowKit

def bigE (h : HouseD) (scale : Int) : Bool := if secE h scale = 0 then decide (8000 < secRows h scale * secCols h scale) else false
theorem prod_bound {a b : Int} (h0 : 0 ≤ a) (h1 : a ≤ 200) (h2 : 0 ≤ b) (h3 : b ≤ 200) : 0 ≤ a * b ∧ a * b ≤ 40000 :=
  ⟨Int.mul_nonneg h0 h2, by have := Int.mul_le_mul h1 h3 h2 (by omega : (0 : Int) ≤ 200); omega⟩
set_option maxHeartbeats 2000000 in
theorem big_any (h : HouseD) (hok : h.ok) (scale : Int) (w : World) (B : Nat) (hB : B ≤ w.heap.size) (hat : HouseD.at_ w B h) :
    Calls Tryd.prog 48 #[.agg #[.string h.name, .int .i64 h.height, .slice h.sets.A h.sets.l.length h.sets.cap, .slice h.roofs.A h.roofs.l.length h.roofs.cap], .int .i64 scale] w (Gives w (.bool (bigE h scale))) := by
  obtain ⟨W, hW, hWs, hWb, hWh⟩ := boxed w (.cells #[.string h.name, .int .i64 h.height, .slice h.sets.A h.sets.l.length h.sets.cap, .slice h.roofs.A h.roofs.l.length h.roofs.cap] 25)
  have hc := fun y : After W.heap.size W => HouseD.boxed hWh (by omega) y
  have hbd : ∀ y : After W.heap.size W, Below w.heap.size w y.val := fun y => hWb.trans (y.below.mono (by omega))
  have hat0 : HouseD.at_ W W.heap.size h := hat.to (hWb.mono hB) (by omega)
  have hatW : ∀ y : After W.heap.size W, HouseD.at_ y.val W.heap.size h := fun y => hat0.to y.below (Nat.le_refl _)
  have KG := hide fun y : After W.heap.size W => Gives.after (x := y) (Nat.le_refl _) (refSecGiven_any h hok scale y.val W.heap.size y.size (hatW y))
  have HAT := hide hatW
  have HW := hide hW
  have HBD := hide hbd
  clear hW hWs hWh hWb hbd hat hatW hat0 hok
  by_cases h0 : secE h scale = 0
  · obtain ⟨hg, _⟩ := secE_zero h0
    obtain ⟨hh, hs1, hs2⟩ := givenE_zero hg
    obtain ⟨b1, b2, b3, b4⟩ := rows_bound h0
    obtain ⟨m0, m1⟩ := prod_bound (by omega) b2 (by omega) b4
    have KZ := hide fun y : After W.heap.size W => Gives.after (x := y) (Nat.le_refl _) (refSecSize_any h hh scale hs1 hs2 y.val W.heap.size y.size (HAT.out y))
    have HE := hide (show bigE h scale = decide (8000 < secRows h scale * secCols h scale) by rw [bigE, if_pos h0])
    have KG := hide (h0 ▸ KG.out)
    clear h0 hg hh
    generalize secRows h scale = R at *
    generalize secCols h scale = C at *
    go_enter Tryd.func48, Tryd.ntmps48
    go_wp2_with fail
    rw [← HW.out]
    refine (KG.out (After.refl _ W)).mono ?_
    rintro e w1 ⟨rfl, y1, rfl⟩
    go_wp2_with fail
    refine (KZ.out y1).mono ?_
    rintro e w1 ⟨rfl, y2, rfl⟩
    go_wp2
    go_ret
    exact Gives.mk (by rw [HE.out]; rfl) (HBD.out _)
  · have h0b : (secE h scale == 0) = false := by simp; omega
    have HE := hide (show bigE h scale = false by rw [bigE, if_neg h0])
    clear h0
    generalize secE h scale = e0 at *
    go_enter Tryd.func48, Tryd.ntmps48
    go_wp2_with fail
    rw [← HW.out]
    refine (KG.out (After.refl _ W)).mono ?_
    rintro e w1 ⟨rfl, y1, rfl⟩
    go_wp2
    go_ret
    exact Gives.mk (by rw [HE.out]; rfl) (HBD.out _)
end Go.Proofs.YtliehhnnfpkciaaDoor
