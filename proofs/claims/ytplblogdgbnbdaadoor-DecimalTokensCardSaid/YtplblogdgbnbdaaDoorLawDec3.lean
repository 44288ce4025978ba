/- loftblocklaw01.DecimalTokens: the walk of the law. -/
import Derived.Test.YtplblogdgbnbdaaDoorDecAwake
import Derived.Test.YtplblogdgbnbdaaDoorDecRefTok
import Derived.Test.YtplblogdgbnbdaaDoorDecTokEq
namespace Go.Proofs.YtplblogdgbnbdaaDoor
open Go.RowKit

set_option maxHeartbeats 4000000 in
set_option maxRecDepth 100000 in
theorem decimalTokens_any (s : ByteArray) (w : World) (ht : Tabs w) : Calls Tryd.prog 9 #[.string s] w (Gives w (.bool true)) := by
  have KA := hide (Gives.first (awake01 w ht))
  clear ht
  by_cases hs : 1000 < (s.size : Int)
  · go_enter Tryd.func9, Tryd.ntmps9
    go_wp2_with fail
    refine KA.out.mono ?_
    rintro e w1 ⟨rfl, y1, rfl⟩
    go_wp2
    go_ret
    exact Gives.mk rfl y1.below
  · have K1 := hide fun w : World => tokens_any s (by omega) w
    have K2 := hide fun w : World => refTokens_any s (by omega) w
    have hlen := fun (l : List TokD) (h : toks (bs s) = .good l) => toks_length h
    rw [bs_length] at hlen
    have HLEN := hide hlen
    clear hlen
    generalize toks (bs s) = R at *
    cases R with
    | good l =>
      have hll := hide (HLEN.out l rfl)
      clear HLEN
      go_enter Tryd.func9, Tryd.ntmps9
      go_wp2_with fail
      refine KA.out.mono ?_
      rintro e w1 ⟨rfl, y1, rfl⟩
      go_wp2_with fail
      refine (K1.out y1.val).mono ?_
      rintro e w2 ⟨hb2, v2, rfl, hown2⟩
      obtain ⟨A2, c2, rfl, hsl2⟩ := TokSl.of_owns hown2
      have HB2 := hide hb2
      have HS2 := hide hsl2
      clear hb2 hsl2 hown2
      obtain ⟨W2, hW2, hWs2, hWb2, hWh2⟩ := boxed w2 (.cells #[.int .i64 0, .int .i64 0] 38)
      have HW2 := hide hW2
      have HWB2 := hide hWb2
      have HWH2 := hide hWh2
      have HWS2 := hide hWs2
      clear hW2 hWb2 hWh2 hWs2
      go_wp2_with fail
      rw [← HW2.out]
      refine (K2.out W2).mono ?_
      rintro e w3 ⟨hb3, v3, rfl, hown3⟩
      obtain ⟨A3, c3, rfl, hsl3⟩ := TokSl.of_owns hown3
      have HB3 := hide hb3
      have HS3 := hide hsl3
      clear hb3 hsl3 hown3
      obtain ⟨W3, hW3, hWs3, hWb3, hWh3⟩ := boxed w3 (.cells #[.int .i64 0, .int .i64 0] 38)
      have hB23 : Below W2.heap.size W2 W3 := HB3.out.trans (hWb3.mono HB3.out.size)
      have hlt2 : w2.heap.size < W3.heap.size := by have := HB3.out.size; have := HWS2.out; omega
      have KE := hide (Gives.first (eqTokens_same l (by have := hll.out; omega) A2 A3 c2 c3 W3 ((HS2.out.to HWB2.out (Nat.le_refl _)).to ((hB23.mono (by have := HWS2.out; omega))) (by omega)) (HS3.out.to hWb3 (by omega))))
      have q0 := fun y : After W3.heap.size W3 => (two_cells ((y.below.block _ hlt2).trans ((hB23.block _ (by have := HWS2.out; omega)).trans HWH2.out))).1
      have q1 := fun y : After W3.heap.size W3 => (two_cells ((y.below.block _ hlt2).trans ((hB23.block _ (by have := HWS2.out; omega)).trans HWH2.out))).2
      have p0 := fun y : After W3.heap.size W3 => (two_cells ((y.below.block _ (by omega)).trans hWh3)).1
      have p1 := fun y : After W3.heap.size W3 => (two_cells ((y.below.block _ (by omega)).trans hWh3)).2
      have KI := hide fun y : After W3.heap.size W3 => Gives.after (x := y) (Nat.le_refl _) (isName_any s y.val (by unfold maxLen; omega))
      have KJ := hide fun y : After W3.heap.size W3 => Gives.after (x := y) (Nat.le_refl _) (refIsName_any s y.val (by unfold maxLen; omega))
      have HBD := hide fun y : After W3.heap.size W3 => (show Below w.heap.size w y.val from (y1.below.trans (HB2.out.mono y1.size)).trans ((HWB2.out.mono (by have := HB2.out.size; have := y1.size; omega)).trans ((hB23.mono (by have := HB2.out.size; have := HWS2.out; have := y1.size; omega)).trans (y.below.mono (by have := HB2.out.size; have := HWS2.out; have := y1.size; omega)))))
      have HW3 := hide hW3
      clear hW3 hWb3 hWh3 hWs3 hB23 hlt2
      generalize isName s = nm at *
      go_wp2_with fail
      rw [← HW3.out]
      refine KE.out.mono ?_
      rintro e w4 ⟨rfl, y4, rfl⟩
      go_wp2_with fail
      refine (KI.out y4).mono ?_
      rintro e w4 ⟨rfl, y5, rfl⟩
      go_wp2_with fail
      refine (KJ.out y5).mono ?_
      rintro e w4 ⟨rfl, y6, rfl⟩
      go_wp2
      go_ret
      exact Gives.mk rfl (HBD.out y6)
    | bad a b =>
      clear HLEN
      go_enter Tryd.func9, Tryd.ntmps9
      go_wp2_with fail
      refine KA.out.mono ?_
      rintro e w1 ⟨rfl, y1, rfl⟩
      go_wp2_with fail
      refine (K1.out y1.val).mono ?_
      rintro e w2 ⟨hb2, rfl⟩
      have HB2 := hide hb2
      clear hb2
      obtain ⟨W2, hW2, hWs2, hWb2, hWh2⟩ := boxed w2 (.cells #[.int .i64 a, .int .i64 b] 38)
      have HW2 := hide hW2
      have HWB2 := hide hWb2
      have HWH2 := hide hWh2
      have HWS2 := hide hWs2
      clear hW2 hWb2 hWh2 hWs2
      go_wp2_with fail
      rw [← HW2.out]
      refine (K2.out W2).mono ?_
      rintro e w3 ⟨hb3, rfl⟩
      have HB3 := hide hb3
      clear hb3
      obtain ⟨W3, hW3, hWs3, hWb3, hWh3⟩ := boxed w3 (.cells #[.int .i64 a, .int .i64 b] 38)
      have hB23 : Below W2.heap.size W2 W3 := HB3.out.trans (hWb3.mono HB3.out.size)
      have hlt2 : w2.heap.size < W3.heap.size := by have := HB3.out.size; have := HWS2.out; omega
      have KE := hide (Gives.first (eqTokens_same [] (by simp) none none 0 0 W3 (fun h => by simp at h) (fun h => by simp at h)))
      have q0 := fun y : After W3.heap.size W3 => (two_cells ((y.below.block _ hlt2).trans ((hB23.block _ (by have := HWS2.out; omega)).trans HWH2.out))).1
      have q1 := fun y : After W3.heap.size W3 => (two_cells ((y.below.block _ hlt2).trans ((hB23.block _ (by have := HWS2.out; omega)).trans HWH2.out))).2
      have p0 := fun y : After W3.heap.size W3 => (two_cells ((y.below.block _ (by omega)).trans hWh3)).1
      have p1 := fun y : After W3.heap.size W3 => (two_cells ((y.below.block _ (by omega)).trans hWh3)).2
      have KI := hide fun y : After W3.heap.size W3 => Gives.after (x := y) (Nat.le_refl _) (isName_any s y.val (by unfold maxLen; omega))
      have KJ := hide fun y : After W3.heap.size W3 => Gives.after (x := y) (Nat.le_refl _) (refIsName_any s y.val (by unfold maxLen; omega))
      have HBD := hide fun y : After W3.heap.size W3 => (show Below w.heap.size w y.val from (y1.below.trans (HB2.out.mono y1.size)).trans ((HWB2.out.mono (by have := HB2.out.size; have := y1.size; omega)).trans ((hB23.mono (by have := HB2.out.size; have := HWS2.out; have := y1.size; omega)).trans (y.below.mono (by have := HB2.out.size; have := HWS2.out; have := y1.size; omega)))))
      have HW3 := hide hW3
      clear hW3 hWb3 hWh3 hWs3 hB23 hlt2
      generalize isName s = nm at *
      go_wp2_with fail
      rw [← HW3.out]
      refine KE.out.mono ?_
      rintro e w4 ⟨rfl, y4, rfl⟩
      go_wp2_with fail
      refine (KI.out y4).mono ?_
      rintro e w4 ⟨rfl, y5, rfl⟩
      go_wp2_with fail
      refine (KJ.out y5).mono ?_
      rintro e w4 ⟨rfl, y6, rfl⟩
      go_wp2
      go_ret
      exact Gives.mk rfl (HBD.out y6)
end Go.Proofs.YtplblogdgbnbdaaDoor
