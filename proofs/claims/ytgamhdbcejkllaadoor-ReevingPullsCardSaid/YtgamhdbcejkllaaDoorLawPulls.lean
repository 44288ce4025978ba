/- loftblocklaw10.ReevingPulls: the walk of the law. -/
import Derived.Test.YtgamhdbcejkllaaDoorReeveAwake
import Derived.Test.YtgamhdbcejkllaaDoorRefMat
namespace Go.Proofs.YtgamhdbcejkllaaDoor
open Go.RowKit

set_option maxRecDepth 100000 in
set_option maxHeartbeats 4000000 in
theorem weights_bad (s : SysD) (hok : s.ok) (hv : sysOk s = false) (w : World) (B : Nat) (hB : B ≤ w.heap.size) (hat : SysD.at_ w B s) :
    Calls Tryd.prog 22 #[.agg #[.slice s.blocks.A s.blocks.l.length s.blocks.cap, .slice s.ropes.A s.ropes.l.length s.ropes.cap]] w (Gives w (.tuple #[.slice none 0 0, .int .i64 1])) := by
  obtain ⟨W, hW, hWs, hWb, hWh⟩ := boxed w (.cells #[.slice s.blocks.A s.blocks.l.length s.blocks.cap, .slice s.ropes.A s.ropes.l.length s.ropes.cap] 25)
  have hc := fun y : After W.heap.size W => SysD.boxed hWh (by omega) y
  have KV := hide (Gives.first (validS_any s hok W W.heap.size (Nat.le_refl _) (hat.to (hWb.mono hB) (by omega))))
  have HW := hide hW
  have HBD := hide fun y : After W.heap.size W => hWb.trans (y.below.mono (by omega))
  rw [hv] at KV
  clear hW hWs hWh hWb hat
  go_enter Tryd.func22, Tryd.ntmps22
  go_wp2_with (go_at_call 13; rw [← HW.out]; refine KV.out.mono ?_; rintro e w' ⟨rfl, y, rfl⟩)
  go_returns
  exact Gives.mk rfl (HBD.out _)
theorem parts_cases {s : SysD} (h : sysOk s = true) (nm : ByteArray) : ∃ pn pe : Int, partsV s nm = .tuple #[.int .i64 pn, .int .i64 pe] ∧ ((findB s.blocks.l nm < 0 ∧ pn = 0 ∧ pe = 9) ∨ (0 ≤ findB s.blocks.l nm ∧ pe = 0 ∧ pn = partsTo nm s.ropes.l)) := by
  by_cases hf : findB s.blocks.l nm < 0
  · exact ⟨0, 9, by rw [partsV, if_pos hf], Or.inl ⟨hf, rfl, rfl⟩⟩
  · refine ⟨_, 0, by rw [partsV, if_neg hf], Or.inr ⟨by omega, rfl, ?_⟩⟩
    have hlt := findB_lt s.blocks.l nm
    obtain ⟨b, hb, hp⟩ := idxFrom_get (p := fun b => sameName b.name nm) s.blocks.l 0 (findB s.blocks.l nm).toNat (by rw [Nat.zero_add, Int.toNat_of_nonneg (by omega)]; rfl)
    rw [rowTo_parts h hb _ (Nat.le_refl _), List.take_length, sameName_iff.1 hp]
set_option maxRecDepth 100000 in
set_option maxHeartbeats 8000000 in
theorem reevingPulls_any (s : SysD) (hok : s.ok) (block : ByteArray) (hbs : block.size ≤ maxLen) (w : World) (ht : Tabs w) (B : Nat) (hB : B ≤ w.heap.size) (hat : SysD.at_ w B s) :
    Calls Tryd.prog 6 #[.agg #[.slice s.blocks.A s.blocks.l.length s.blocks.cap, .slice s.ropes.A s.ropes.l.length s.ropes.cap], .string block] w (Gives w (.bool true)) := by
  unfold maxLen at hbs
  obtain ⟨W, hW, hWs, hWb, hWh⟩ := boxed w (.cells #[.slice s.blocks.A s.blocks.l.length s.blocks.cap, .slice s.ropes.A s.ropes.l.length s.ropes.cap] 25)
  have hc := fun y : After W.heap.size W => SysD.boxed hWh (by omega) y
  have hbd : ∀ y : After W.heap.size W, Below w.heap.size w y.val := fun y => hWb.trans (y.below.mono (by omega))
  have hatW : ∀ v : World, Below W.heap.size W v → SysD.at_ v W.heap.size s := fun v hv => (hat.to (hWb.mono hB) (by omega)).to hv (Nat.le_refl _)
  have KA := hide (Gives.first (awake10 W (ht.below hWb)))
  have KS := hide fun y : After W.heap.size W => smallS_any s y.val W.heap.size y.size (hatW y.val y.below)
  have HW := hide hW
  have HBD := hide hbd
  rcases Bool.eq_false_or_eq_true (sysOk s) with hv | hv
  · obtain ⟨⟨hR1, hR6, hC1, hC6⟩, _, _⟩ := sysOk_parts hv
    obtain ⟨pn, pe, hpv, hcase⟩ := parts_cases hv block
    have KM := hide fun y : After W.heap.size W => matrix_good s hok hv y.val W.heap.size y.size (hatW y.val y.below)
    have KW := hide fun y : After W.heap.size W => weights_good s hok hv y.val W.heap.size y.size (hatW y.val y.below)
    have KP := fun y : After W.heap.size W => parts_good s block hok hv y.val W.heap.size y.size (hatW y.val y.below)
    rw [hpv] at KP
    have KP := hide KP
    have KH := hide fun y : After W.heap.size W => hauled_good s hok hv y.val W.heap.size y.size (hatW y.val y.below)
    have KV := fun y : After W.heap.size W => refValidS_any s hok y.val W.heap.size y.size (hatW y.val y.below)
    rw [hv] at KV
    have KV := hide KV
    have KRM := hide fun y : After W.heap.size W => refMatrix_any s hv y.val W.heap.size y.size (hatW y.val y.below)
    have KRW := hide fun y : After W.heap.size W => refWeights_any s hv y.val W.heap.size y.size (hatW y.val y.below)
    have KRH := hide fun y : After W.heap.size W => refHauled_any s hv y.val W.heap.size y.size (hatW y.val y.below)
    have KF := hide fun y : After W.heap.size W => Gives.after (x := y) (Nat.le_refl _) (refFindB_any s block y.val W.heap.size y.size (hatW y.val y.below))
    have KRP := hide fun y : After W.heap.size W => Gives.after (x := y) (Nat.le_refl _) (refParts_any s block hv y.val W.heap.size y.size (hatW y.val y.below))
    have HHR := hide fun (v : World) (n0 : Nat) => hauled_row (s := s) (w := v) (n0 := n0)
    have HL1 := hide (show (s.blocks.l.map (·.weight)).length ≤ 9223372036854775807 by rw [List.length_map]; omega)
    have HL2 := hide (show (s.ropes.l.map haulV).length ≤ 9223372036854775807 by rw [List.length_map]; omega)
    clear hW hWs hWh hWb hbd hat hatW ht hv hok hpv
    go_enter Tryd.func6, Tryd.ntmps6
    go_wp2_with fail
    rw [← HW.out]
    refine KA.out.mono ?_
    rintro e w1 ⟨rfl, y1, rfl⟩
    go_wp2_with fail
    refine (KS.out y1).mono ?_
    rintro e w1 ⟨b1, rfl, hb⟩
    obtain ⟨y2, rfl⟩ := After.exists_iff (y1.below.trans (hb.mono y1.size))
    clear hb
    cases b1
    · go_wp2
      go_ret
      exact Gives.mk rfl (HBD.out _)
    by_cases hlong : 100 < (block.size : Int)
    · go_wp2
      go_ret
      exact Gives.mk rfl (HBD.out _)
    go_wp2_with fail
    refine (KM.out y2).mono ?_
    rintro e w1 ⟨n0, _, rfl, hP, hb⟩
    obtain ⟨y3, rfl⟩ := After.exists_iff (y2.below.trans (hb.mono y2.size))
    have hM := hP.rows
    clear hb hP
    go_wp2_with fail
    refine (KW.out y3).mono ?_
    rintro e w1 ⟨vw, rfl, hIw, hb⟩
    have hM := hM.below hb
    obtain ⟨y4, rfl⟩ := After.exists_iff (y3.below.trans (hb.mono y3.size))
    clear hb
    go_wp2_with fail
    refine (KP.out y4).mono ?_
    rintro e w1 ⟨rfl, hb⟩
    have hM := hM.below hb
    have hIw := hIw.below hb
    obtain ⟨y5, rfl⟩ := After.exists_iff (y4.below.trans (hb.mono y4.size))
    clear hb
    go_wp2_with fail
    refine (KH.out y5).mono ?_
    rintro e w1 ⟨n1, _, hn1, rfl, hrow, hb⟩
    have hM := hM.below hb
    have hIw := hIw.below hb
    have hIh := HHR.out _ _ hn1 hrow
    obtain ⟨y6, rfl⟩ := After.exists_iff (y5.below.trans (hb.mono y5.size))
    clear hb hrow hn1
    go_wp2_with fail
    refine (KV.out y6).mono ?_
    rintro e w1 ⟨rfl, hb⟩
    have hM := hM.below hb
    have hIw := hIw.below hb
    have hIh := hIh.below hb
    obtain ⟨y7, rfl⟩ := After.exists_iff (y6.below.trans (hb.mono y6.size))
    clear hb
    have HM := hide hM
    have HIw := hide hIw
    have HIh := hide hIh
    clear hM hIw hIh
    go_wp2_with fail
    refine (KRM.out y7).mono ?_
    rintro e w1 ⟨vm, rfl, hM2, hb⟩
    have HM := hide (HM.out.below hb)
    have HIw := hide (HIw.out.below hb)
    have HIh := hide (HIh.out.below hb)
    have HM2 := hide hM2
    obtain ⟨y8, rfl⟩ := After.exists_iff (y7.below.trans (hb.mono y7.size))
    clear hb hM2
    go_wp2_with fail
    refine (same_any _ _ _ _ _ (by omega) (by omega) _ HM.out HM2.out).mono ?_
    rintro e w1 ⟨rfl, hb⟩
    have HIw := hide (HIw.out.below hb)
    have HIh := hide (HIh.out.below hb)
    obtain ⟨y9, rfl⟩ := After.exists_iff (y8.below.trans (hb.mono y8.size))
    clear hb HM HM2
    go_wp2_with fail
    refine (KRW.out y9).mono ?_
    rintro e w1 ⟨vw2, rfl, hIw2, hb⟩
    have HIw := hide (HIw.out.below hb)
    have HIh := hide (HIh.out.below hb)
    have HIw2 := hide hIw2
    obtain ⟨y10, rfl⟩ := After.exists_iff (y9.below.trans (hb.mono y9.size))
    clear hb hIw2
    go_wp2_with fail
    refine (equalRow HIw.out HIw2.out HL1.out HL1.out).mono ?_
    rintro e w1 ⟨rfl, hb⟩
    have HIh := hide (HIh.out.below hb)
    obtain ⟨y11, rfl⟩ := After.exists_iff (y10.below.trans (hb.mono y10.size))
    clear hb HIw HIw2
    rw [beq_self_eq_true]
    go_wp2_with fail
    refine (KRH.out y11).mono ?_
    rintro e w1 ⟨vh2, rfl, hIh2, hb⟩
    have HIh := hide (HIh.out.below hb)
    have HIh2 := hide hIh2
    obtain ⟨y12, rfl⟩ := After.exists_iff (y11.below.trans (hb.mono y11.size))
    clear hb hIh2
    go_wp2_with fail
    refine (equalRow HIh.out HIh2.out HL2.out HL2.out).mono ?_
    rintro e w1 ⟨rfl, hb⟩
    obtain ⟨y13, rfl⟩ := After.exists_iff (y12.below.trans (hb.mono y12.size))
    clear hb HIh HIh2
    rw [beq_self_eq_true]
    go_wp2_with fail
    refine (KF.out y13).mono ?_
    rintro e w1 ⟨rfl, y14, rfl⟩
    obtain ⟨q, hq⟩ : ∃ q, q = findB s.blocks.l block := ⟨_, rfl⟩
    rw [← hq] at hcase ⊢
    clear hq
    rcases hcase with ⟨h1, rfl, rfl⟩ | ⟨h1, rfl, h3⟩
    · go_wp2
      go_ret
      exact Gives.mk rfl (HBD.out _)
    · have KRP := hide (KRP.out y14)
      rw [← h3] at KRP
      clear h3
      go_wp2_with (go_at_call 29; refine KRP.out.mono ?_; rintro e w1 ⟨rfl, y15, rfl⟩)
      go_ret
      exact Gives.mk (by simp) (HBD.out _)
  · have KM := hide fun y : After W.heap.size W => Gives.after (x := y) (Nat.le_refl _) (matrix_bad s hok hv y.val W.heap.size y.size (hatW y.val y.below))
    have KW := hide fun y : After W.heap.size W => Gives.after (x := y) (Nat.le_refl _) (weights_bad s hok hv y.val W.heap.size y.size (hatW y.val y.below))
    have KP := hide fun y : After W.heap.size W => Gives.after (x := y) (Nat.le_refl _) (parts_bad s block hok hv y.val W.heap.size y.size (hatW y.val y.below))
    have KH := hide fun y : After W.heap.size W => Gives.after (x := y) (Nat.le_refl _) (hauled_bad s hok hv y.val W.heap.size y.size (hatW y.val y.below))
    have KV := fun y : After W.heap.size W => Gives.after (x := y) (Nat.le_refl _) (refValidS_any s hok y.val W.heap.size y.size (hatW y.val y.below))
    rw [hv] at KV
    have KV := hide KV
    clear hW hWs hWh hWb hbd hat hatW ht hv hok
    go_enter Tryd.func6, Tryd.ntmps6
    go_wp2_with fail
    rw [← HW.out]
    refine KA.out.mono ?_
    rintro e w1 ⟨rfl, y1, rfl⟩
    go_wp2_with fail
    refine (KS.out y1).mono ?_
    rintro e w1 ⟨b1, rfl, hb⟩
    obtain ⟨y2, rfl⟩ := After.exists_iff (y1.below.trans (hb.mono y1.size))
    clear hb
    cases b1
    · go_wp2
      go_ret
      exact Gives.mk rfl (HBD.out _)
    by_cases hlong : 100 < (block.size : Int)
    · go_wp2
      go_ret
      exact Gives.mk rfl (HBD.out _)
    go_wp2_with (first
      | (go_at_call 10; refine (KM.out y2).mono ?_; rintro e w' ⟨rfl, y3, rfl⟩)
      | (go_at_call 22; refine (KW.out y3).mono ?_; rintro e w' ⟨rfl, y4, rfl⟩)
      | (go_at_call 11; refine (KP.out y4).mono ?_; rintro e w' ⟨rfl, y5, rfl⟩)
      | (go_at_call 23; refine (KH.out y5).mono ?_; rintro e w' ⟨rfl, y6, rfl⟩)
      | (go_at_call 14; refine (KV.out y6).mono ?_; rintro e w' ⟨rfl, y7, rfl⟩))
    go_ret
    exact Gives.mk rfl (HBD.out _)
end Go.Proofs.YtgamhdbcejkllaaDoor
