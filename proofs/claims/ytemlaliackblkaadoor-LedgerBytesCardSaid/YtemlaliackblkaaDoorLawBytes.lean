/- loftblocklaw48.LedgerBytes: the walk of the law. -/
import Derived.Test.YtemlaliackblkaaDoorLedAwake
namespace Go.Proofs.YtemlaliackblkaaDoor
open Go.RowKit

set_option maxRecDepth 100000 in
set_option maxHeartbeats 8000000 in
theorem ledgerBytes_any (a : Sl LogD) (hok : ∀ x ∈ a.l, x.ok) (c : Sl UInt8) (w : World) (ht : Tabs w) (B : Nat) (hB : B ≤ w.heap.size) (hs : SlAt w B 4 LogD.cells a) (hs' : SlAt w B 1 byteCells c) :
    Calls Tryd.prog 4 #[.slice a.A a.l.length a.cap, .slice c.A c.l.length c.cap] w (Gives w (.bool true)) := by
  obtain ⟨A, cap, l⟩ := a
  obtain ⟨A', cap', b⟩ := c
  simp only at *
  have KA := hide (Gives.first (awake48 w ht))
  have hsl := fun y : After w.heap.size w => (hs.to (y.below.mono hB) hB).more (y.size)
  have hsb := fun y : After w.heap.size w => (hs'.to (y.below.mono hB) hB).more (y.size)
  have KL := hide (fun y : After w.heap.size w => long_any A cap l y.val y.val.heap.size (Nat.le_refl _) (hsl y))
  have KH := hide (fun y : After w.heap.size w => heavy_any A' cap' b y.val)
  have KV := fun y : After w.heap.size w => Gives.after (x := y) (Nat.le_refl _) (refValidL_any A cap l hok y.val y.val.heap.size (Nat.le_refl _) (hsl y))
  have KN := hide (fun (hv : logOk l = false) (y : After w.heap.size w) => Gives.after (x := y) (Nat.le_refl _) (encode_bad A cap l hok hv y.val y.val.heap.size (Nat.le_refl _) (hsl y)))
  have KY := hide (fun (hv : logOk l = true) (y : After w.heap.size w) => encode_any A cap l hv y.val (ht.below y.below) y.val.heap.size (Nat.le_refl _) (hsl y))
  have KZ := hide (fun (hv : logOk l = true) (y : After w.heap.size w) => refEncode_any A cap l hv y.val y.val.heap.size (Nat.le_refl _) (hsl y))
  have KD := hide (fun y : After w.heap.size w => decode_any A' cap' b y.val (ht.below y.below) y.val.heap.size (Nat.le_refl _) (hsb y))
  have KE := hide (fun y : After w.heap.size w => refDecode_any A' cap' b y.val y.val.heap.size (Nat.le_refl _) (hsb y))
  have KS := fun y : After w.heap.size w => Gives.after (x := y) (Nat.le_refl _) (sum_any A' cap' b y.val y.val.heap.size (Nat.le_refl _) (hsb y))
  have KT := fun y : After w.heap.size w => Gives.after (x := y) (Nat.le_refl _) (refSum_any A' cap' b y.val y.val.heap.size (Nat.le_refl _) (hsb y))
  obtain ⟨S, hS⟩ : ∃ S : Int, S = (sumE b : Nat) := ⟨_, rfl⟩
  rw [← hS] at KS KT
  have KS := hide KS
  have KT := hide KT
  obtain ⟨lg, hlg⟩ : ∃ lg, lg = logOk l := ⟨_, rfl⟩
  rw [← hlg] at KV
  have KV := hide KV
  have KVG0 := fun y : After w.heap.size w => refValidL_any A cap l hok y.val y.val.heap.size (Nat.le_refl _) (hsl y)
  rw [← hlg] at KVG0
  have KVG := hide KVG0
  have HLG := hide hlg
  clear hs hs' ht hok hsl hsb hS hlg KVG0
  go_enter Tryd.func4, Tryd.ntmps4
  go_wp2_with fail
  refine KA.out.mono ?_
  rintro e w1 ⟨rfl, y, rfl⟩
  go_wp2_with fail
  refine (KL.out y).mono ?_
  rintro e w1 ⟨lv, rfl, hb⟩
  obtain ⟨y, rfl⟩ := After.exists_iff (y.below.trans (hb.mono y.size))
  clear hb
  cases lv
  · go_wp2_with fail
    refine (KH.out y).mono ?_
    rintro e w1 ⟨hv, rfl, hb⟩
    obtain ⟨y, rfl⟩ := After.exists_iff (y.below.trans (hb.mono y.size))
    clear hb
    cases hv
    · cases lg
      · go_wp2_with fail
        refine (KN.out HLG.out.symm y).mono ?_
        rintro e w1 ⟨rfl, y, rfl⟩
        go_wp2_with fail
        refine (KV.out y).mono ?_
        rintro e w1 ⟨rfl, y, rfl⟩
        go_wp2_with fail
        refine (KD.out y).mono ?_
        rintro e w1 ⟨v1, l1, e1, rfl, hd1, st1⟩
        obtain ⟨L1, c1, rfl, hs1⟩ := st1.slAt logCells_len
        have hb1 := st1.bel
        obtain ⟨y1, rfl⟩ := After.exists_iff (y.below.trans (hb1.mono y.size))
        clear hb1
        go_wp2_with fail
        refine (KE.out y1).mono ?_
        rintro e w1 ⟨v2, l2, e2, rfl, hd2, st2⟩
        obtain ⟨rfl, rfl⟩ := hd1.same hd2
        obtain ⟨L2, c2, rfl, hs2⟩ := st2.slAt logCells_len
        have hb2 := st2.bel
        obtain ⟨y2, rfl⟩ := After.exists_iff (y1.below.trans (hb2.mono y1.size))
        have KQ := hide (Gives.after (x := y2) (Nat.le_refl _) (equalSame_any l1 L1 L2 c1 c2 y2.val y1.val.heap.size y2.val.heap.size hb2.size (Nat.le_refl _) (hs1.below hb2) hs2))
        clear hd1 hd2 hs1 hs2 st2 hb2 st1
        go_wp2_with fail
        refine KQ.out.mono ?_
        rintro e w2 ⟨rfl, y2, rfl⟩
        go_wp2_with fail
        refine (KS.out y2).mono ?_
        rintro e w2 ⟨rfl, y3, rfl⟩
        go_wp2_with fail
        refine (KT.out y3).mono ?_
        rintro e w2 ⟨rfl, y4, rfl⟩
        go_wp2
        go_ret
        exact Gives.mk rfl y4.below
      · go_wp2_with fail
        refine (KY.out HLG.out.symm y).mono ?_
        rintro e w1 ⟨v1, rfl, A1, c1, rfl, _, hs1, hb1⟩
        obtain ⟨y, rfl⟩ := After.exists_iff (y.below.trans (hb1.mono y.size))
        clear hb1
        go_wp2_with fail
        refine (KVG.out y).mono ?_
        rintro e w1 ⟨rfl, hb5⟩
        obtain ⟨y5, rfl⟩ := After.exists_iff (y.below.trans (hb5.mono y.size))
        have HS1 := hide hs1
        have HB5 := hide hb5
        clear hb5 hs1
        go_wp2_with fail
        refine (KZ.out HLG.out.symm y5).mono ?_
        rintro e w1 ⟨v6, rfl, A6, c6, rfl, _, hs6, hb6⟩
        obtain ⟨y6, rfl⟩ := After.exists_iff (y5.below.trans (hb6.mono y5.size))
        have KQ0 := Gives.after (x := y6) (Nat.le_refl _) (equalBytes_any (HS1.out.below (HB5.out.trans (hb6.mono HB5.out.size))) hs6)
        rw [show (encE l == encE l) = true by simp] at KQ0
        have KQ6 := hide KQ0
        clear KQ0 hs6 hb6 HS1 HB5
        go_wp2_with fail
        refine KQ6.out.mono ?_
        rintro e w1 ⟨rfl, y, rfl⟩
        go_wp2_with fail
        refine (KD.out y).mono ?_
        rintro e w1 ⟨v1, l1, e1, rfl, hd1, st1⟩
        obtain ⟨L1, c1, rfl, hs1⟩ := st1.slAt logCells_len
        have hb1 := st1.bel
        obtain ⟨y1, rfl⟩ := After.exists_iff (y.below.trans (hb1.mono y.size))
        clear hb1
        go_wp2_with fail
        refine (KE.out y1).mono ?_
        rintro e w1 ⟨v2, l2, e2, rfl, hd2, st2⟩
        obtain ⟨rfl, rfl⟩ := hd1.same hd2
        obtain ⟨L2, c2, rfl, hs2⟩ := st2.slAt logCells_len
        have hb2 := st2.bel
        obtain ⟨y2, rfl⟩ := After.exists_iff (y1.below.trans (hb2.mono y1.size))
        have KQ := hide (Gives.after (x := y2) (Nat.le_refl _) (equalSame_any l1 L1 L2 c1 c2 y2.val y1.val.heap.size y2.val.heap.size hb2.size (Nat.le_refl _) (hs1.below hb2) hs2))
        clear hd1 hd2 hs1 hs2 st2 hb2 st1
        go_wp2_with fail
        refine KQ.out.mono ?_
        rintro e w2 ⟨rfl, y2, rfl⟩
        go_wp2_with fail
        refine (KS.out y2).mono ?_
        rintro e w2 ⟨rfl, y3, rfl⟩
        go_wp2_with fail
        refine (KT.out y3).mono ?_
        rintro e w2 ⟨rfl, y4, rfl⟩
        go_wp2
        go_ret
        exact Gives.mk rfl y4.below
    · go_wp2
      go_ret
      exact Gives.mk rfl y.below
  · go_wp2
    go_ret
    exact Gives.mk rfl y.below
end Go.Proofs.YtemlaliackblkaaDoor
