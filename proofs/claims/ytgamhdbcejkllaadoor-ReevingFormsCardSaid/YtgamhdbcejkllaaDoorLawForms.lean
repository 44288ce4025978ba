/- loftblocklaw10.ReevingForms: the walk of the law. -/
import Derived.Test.YtgamhdbcejkllaaDoorReeveAwake
import Derived.Test.YtgamhdbcejkllaaDoorRefSame
namespace Go.Proofs.YtgamhdbcejkllaaDoor
open Go.RowKit

theorem listEq_refl {α : Type} {eq : α → α → Bool} (l : List α) (h : ∀ x ∈ l, eq x x = true) : listEq eq l l = true := by
  rw [listEq, decide_eq_true rfl, Bool.true_and]
  refine allIdx_yes fun j y hj hy => ?_
  rw [eqAt, hy]
  exact h y (List.mem_of_getElem? hy)
theorem sameS_refl (a : SysD) : sameS a a = true := by
  rw [sameS, listEq_refl _ (fun x _ => by simp [blockEq]), listEq_refl _ (fun x _ => by rw [ropeEq, listEq_refl _ (fun y _ => by simp [holdEq])]; simp)]
  rfl
set_option maxRecDepth 100000 in
set_option maxHeartbeats 8000000 in
theorem reevingForms_any (a b : SysD) (hok : a.ok) (w : World) (ht : Tabs w) (B : Nat) (hB : B ≤ w.heap.size) (ha : SysD.at_ w B a) (hb0 : SysD.at_ w B b) :
    Calls Tryd.prog 4 #[.agg #[.slice a.blocks.A a.blocks.l.length a.blocks.cap, .slice a.ropes.A a.ropes.l.length a.ropes.cap], .agg #[.slice b.blocks.A b.blocks.l.length b.blocks.cap, .slice b.ropes.A b.ropes.l.length b.ropes.cap]] w (Gives w (.bool true)) := by
  obtain ⟨W1, hW1, hs1, hb1, hh1⟩ := boxed w (.cells #[.slice a.blocks.A a.blocks.l.length a.blocks.cap, .slice a.ropes.A a.ropes.l.length a.ropes.cap] 25)
  obtain ⟨W, hW2, hs2, hb2, hh2⟩ := boxed W1 (.cells #[.slice b.blocks.A b.blocks.l.length b.blocks.cap, .slice b.ropes.A b.ropes.l.length b.ropes.cap] 25)
  have hb : Below w.heap.size w W := hb1.trans (hb2.mono (by omega))
  have hh1' : W.heap[w.heap.size]? = some (.cells #[.slice a.blocks.A a.blocks.l.length a.blocks.cap, .slice a.ropes.A a.ropes.l.length a.ropes.cap] 25 (0, 0)) := (hb2.block _ (by omega)).trans hh1
  rw [hs1] at hh2
  have hcx := fun y : After W.heap.size W => SysD.boxed hh1' (by omega) y
  have hcy := fun y : After W.heap.size W => SysD.boxed hh2 (by omega) y
  have hbd : ∀ y : After W.heap.size W, Below w.heap.size w y.val := fun y => hb.trans (y.below.mono (by omega))
  have haW : ∀ y : After W.heap.size W, SysD.at_ y.val W.heap.size a := fun y => (ha.to (hb.mono hB) (by omega)).to y.below (Nat.le_refl _)
  have hbW : ∀ y : After W.heap.size W, SysD.at_ y.val W.heap.size b := fun y => (hb0.to (hb.mono hB) (by omega)).to y.below (Nat.le_refl _)
  have KA := hide (Gives.first (awake10 W (ht.below hb)))
  have KS1 := hide fun y : After W.heap.size W => smallS_any a y.val W.heap.size y.size (haW y)
  have KS2 := hide fun y : After W.heap.size W => smallS_any b y.val W.heap.size y.size (hbW y)
  have KV := fun y : After W.heap.size W => Gives.after (x := y) (Nat.le_refl _) (validS_any a hok y.val W.heap.size y.size (haW y))
  have KR := fun y : After W.heap.size W => Gives.after (x := y) (Nat.le_refl _) (refValidS_any a hok y.val W.heap.size y.size (haW y))
  have KE := fun y : After W.heap.size W => Gives.after (x := y) (Nat.le_refl _) (sameS_any a b y.val W.heap.size y.size (haW y) (hbW y))
  have KF := fun y : After W.heap.size W => Gives.after (x := y) (Nat.le_refl _) (refSameS_any a b y.val W.heap.size y.size (haW y) (hbW y))
  have KG := fun y : After W.heap.size W => Gives.after (x := y) (Nat.le_refl _) (sameS_any a a y.val W.heap.size y.size (haW y) (haW y))
  rw [sameS_refl] at KG
  have HW := hide (show W = (w.alloc (.cells #[.slice a.blocks.A a.blocks.l.length a.blocks.cap, .slice a.ropes.A a.ropes.l.length a.ropes.cap] 25)).alloc (.cells #[.slice b.blocks.A b.blocks.l.length b.blocks.cap, .slice b.ropes.A b.ropes.l.length b.ropes.cap] 25) by rw [hW2, hW1])
  have HBD := hide hbd
  obtain ⟨v, hv⟩ : ∃ v, v = sysOk a := ⟨_, rfl⟩
  obtain ⟨u, hu⟩ : ∃ u, u = sameS a b := ⟨_, rfl⟩
  rw [← hv] at KV KR
  rw [← hu] at KE KF
  have KV := hide KV
  have KR := hide KR
  have KE := hide KE
  have KF := hide KF
  have KG := hide KG
  clear hW1 hW2 hs1 hs2 hh1 hh2 hh1' hb1 hb2 hb hbd ha hb0 haW hbW ht hok hv hu
  go_enter Tryd.func4, Tryd.ntmps4
  go_wp2_with fail
  rw [← HW.out]
  refine KA.out.mono ?_
  rintro e w1 ⟨rfl, y1, rfl⟩
  go_wp2_with fail
  refine (KS1.out y1).mono ?_
  rintro e w1 ⟨b1, rfl, hbb⟩
  obtain ⟨y2, rfl⟩ := After.exists_iff (y1.below.trans (hbb.mono y1.size))
  clear hbb
  cases b1
  · go_wp2
    go_ret
    exact Gives.mk rfl (HBD.out _)
  · go_wp2_with fail
    refine (KS2.out y2).mono ?_
    rintro e w1 ⟨b2, rfl, hbb⟩
    obtain ⟨y3, rfl⟩ := After.exists_iff (y2.below.trans (hbb.mono y2.size))
    clear hbb
    cases b2
    · go_wp2
      go_ret
      exact Gives.mk rfl (HBD.out _)
    · cases v <;> cases u
      all_goals
        go_wp2
        refine wp_region_after y3 (by kernel_rfl) (by kernel_rfl) ?_
        repeat (go_big_quiet_step (first
          | (go_at_call 13; exact KV.out _)
          | (go_at_call 14; exact KR.out _)
          | (go_at_call_of 15 b.blocks.A; exact KE.out _)
          | (go_at_call 16; exact KF.out _)
          | (go_at_call 15; exact KG.out _)))
        refine wpQuiet_nil ?_
        intro z
        go_wp2
        go_ret
        exact Gives.mk rfl (HBD.out z)
end Go.Proofs.YtgamhdbcejkllaaDoor
