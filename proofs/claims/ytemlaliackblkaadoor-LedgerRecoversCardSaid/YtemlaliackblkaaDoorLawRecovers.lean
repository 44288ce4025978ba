/- loftblocklaw48.LedgerRecovers: the walk of the law. -/
import Derived.Test.YtemlaliackblkaaDoorLedAwake
namespace Go.Proofs.YtemlaliackblkaaDoor
open Go.RowKit

set_option maxRecDepth 100000 in
set_option maxHeartbeats 8000000 in
theorem ledgerRecovers_any (c : Sl UInt8) (w : World) (ht : Tabs w) (B : Nat) (hB : B ≤ w.heap.size) (hs : SlAt w B 1 byteCells c) :
    Calls Tryd.prog 5 #[.slice c.A c.l.length c.cap] w (Gives w (.bool true)) := by
  obtain ⟨A, cap, b⟩ := c
  simp only at *
  have hlc : b.length ≤ cap := hs.1
  have hlm : cap ≤ 9223372036854775807 := hs.2.1
  have KA := hide (Gives.first (awake48 w ht))
  have hsb := fun y : After w.heap.size w => (hs.to (y.below.mono hB) hB).more (y.size)
  have HSB := hide hsb
  have KH := hide (fun y : After w.heap.size w => heavy_any A cap b y.val)
  rcases Nat.lt_or_ge 1048576 b.length with hb | hb
  · have hbi : (1048576 : Int) < (b.length : Int) := by omega
    have KG := hide (fun y : After w.heap.size w => Gives.after (x := y) (Nat.le_refl _) (goodX_long A cap b hb y.val))
    have KR := hide (fun y : After w.heap.size w => Gives.after (x := y) (Nat.le_refl _) (recover_long A cap b hb y.val))
    clear hs ht hsb
    go_enter Tryd.func5, Tryd.ntmps5
    go_wp2_with fail
    refine KA.out.mono ?_
    rintro e w1 ⟨rfl, y, rfl⟩
    go_wp2_with fail
    refine (KH.out y).mono ?_
    rintro e w1 ⟨hv, rfl, hbb⟩
    obtain ⟨y, rfl⟩ := After.exists_iff (y.below.trans (hbb.mono y.size))
    clear hbb
    cases hv
    · go_wp2_with fail
      refine (KG.out y).mono ?_
      rintro e w1 ⟨rfl, y, rfl⟩
      go_wp2_with fail
      refine (KR.out y).mono ?_
      rintro e w1 ⟨rfl, y, rfl⟩
      go_wp2
      go_ret
      exact Gives.mk rfl y.below
    · go_wp2
      go_ret
      exact Gives.mk rfl y.below
  · have hbi : (b.length : Int) ≤ 1048576 := by omega
    have KG := hide (fun y : After w.heap.size w => goodX_any A cap b hb y.val (ht.below y.below) y.val.heap.size (Nat.le_refl _) (hsb y))
    have KR := hide (fun y : After w.heap.size w => recover_any A cap b hb y.val (ht.below y.below) y.val.heap.size (Nat.le_refl _) (hsb y))
    have KF := hide (fun y : After w.heap.size w => refGood_any A cap b hb y.val y.val.heap.size (Nat.le_refl _) (hsb y))
    clear hs ht hsb
    go_enter Tryd.func5, Tryd.ntmps5
    go_wp2_with fail
    refine KA.out.mono ?_
    rintro e w1 ⟨rfl, y, rfl⟩
    go_wp2_with fail
    refine (KH.out y).mono ?_
    rintro e w1 ⟨hv, rfl, hbb⟩
    obtain ⟨y, rfl⟩ := After.exists_iff (y.below.trans (hbb.mono y.size))
    clear hbb
    cases hv
    · go_wp2_with fail
      refine (KG.out y).mono ?_
      rintro e w1 ⟨k, L, er, rfl, he, hb1⟩
      obtain ⟨y, rfl⟩ := After.exists_iff (y.below.trans (hb1.mono y.size))
      clear hb1
      go_wp2_with fail
      refine (KR.out y).mono ?_
      rintro e w1 ⟨v1, v2, k2, L2, er2, rfl, he2, ⟨A1, c1, rfl, _, hs1, hb1⟩, st2⟩
      obtain ⟨rfl, rfl, rfl⟩ := he.same he2
      obtain ⟨A2, c2, rfl, hs2⟩ := st2.slAt logCells_len
      obtain ⟨y1, rfl⟩ := After.exists_iff (y.below.trans (hb1.mono y.size))
      have hk := he.at_le
      clear hb1 st2 he2
      go_wp2_with fail
      refine (KF.out y1).mono ?_
      rintro e w1 ⟨v3, k3, L3, er3, rfl, he3, st3⟩
      obtain ⟨rfl, rfl, rfl⟩ := he.same he3
      obtain ⟨A3, c3, rfl, hs3⟩ := st3.slAt logCells_len
      have hb3 := st3.bel
      obtain ⟨y3, rfl⟩ := After.exists_iff (y1.below.trans (hb3.mono y1.size))
      have hto := fun W : World => slice_to (P := Tryd.prog) W 22 5 1 Tryd.underlying22 Tryd.sizeOf5 A b.length cap k (by omega)
      have hkl : (b.take k).length = k := by rw [List.length_take]; omega
      have KQ0 := Gives.first (equalBytes_any (hs1.below hb3) ((HSB.out y3).take k))
      rw [show (b.take k == b.take k) = true by simp, hkl] at KQ0
      have KQ := hide KQ0
      have HS2 := hide (hs2.below hb3)
      have HS3 := hide hs3
      have hb13 := hb3.size
      have KE := hide (fun (z : After y3.val.heap.size y3.val) => (equalSame_any L A2 A3 c2 c3 z.val y1.val.heap.size y3.val.heap.size (Nat.le_trans hb13 z.size) z.size (HS2.out.below (z.below.mono hb13)) (HS3.out.below z.below)))
      clear hs1 hs2 hs3 st3 hb3 KQ0 hkl he he3 hb13 hk
      go_wp2_with fail
      refine KQ.out.mono ?_
      rintro e w4 ⟨rfl, y4, rfl⟩
      have HW4 := hide (y3.below.trans (y4.below.mono y3.size) : Below w.heap.size w y4.val)
      go_wp2_with fail
      refine (KE.out y4).mono ?_
      rintro e w5 ⟨rfl, hb5⟩
      go_wp2
      go_ret
      exact Gives.mk rfl (HW4.out.trans (hb5.mono HW4.out.size))
    · go_wp2
      go_ret
      exact Gives.mk rfl y.below
end Go.Proofs.YtemlaliackblkaaDoor
