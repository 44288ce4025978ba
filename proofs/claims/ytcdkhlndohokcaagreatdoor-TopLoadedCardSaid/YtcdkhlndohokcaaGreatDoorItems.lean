/- Items on a pipe: the small functions of batten and of loftblockref21. -/
import Derived.Test.YtcdkhlndohokcaaGreatDoorSpecSet
namespace Go.Proofs.YtcdkhlndohokcaaGreatDoor
open Go.RowKit

theorem itemFine_eq {x : ItemD} {len : Int} : itemFine x len = (isName x.name && betweenB x.width 1 1048576 && betweenB x.place 0 (len - x.width) && betweenB x.weight 0 1048576 && betweenB x.hang 0 1048576 && betweenB x.front 0 1048576 && betweenB x.back 0 1048576) := by
  rw [Bool.eq_iff_iff, itemFine_iff]
  simp only [Bool.and_eq_true, and_assoc]

/-- a place and a width that are small enough to be added -/
structure Small2 (x : ItemD) : Prop where
  p0 : 0 ≤ x.place
  p1 : x.place ≤ 1048576
  w0 : 1 ≤ x.width
  w1 : x.width ≤ 1048576

set_option maxHeartbeats 400000 in
theorem apart_any (x y : ItemD) (hx : Small2 x) (hy : Small2 y) (w : World) : Calls Tryz.prog 82 #[.agg #[.string x.name, .int .i64 x.place, .int .i64 x.width, .int .i64 x.weight, .int .i64 x.hang, .int .i64 x.front, .int .i64 x.back], .agg #[.string y.name, .int .i64 y.place, .int .i64 y.width, .int .i64 y.weight, .int .i64 y.hang, .int .i64 y.front, .int .i64 y.back]] w (Gives w (.bool (apartB x y))) := by
  obtain ⟨x0, x1, x2, x3⟩ := hx
  obtain ⟨y0, y1, y2, y3⟩ := hy
  go_enter Tryz.func82, Tryz.ntmps82
  go_wp2
  all_goals
    go_ret
    exact Gives.mk (congrArg Value.bool (by rw [Bool.eq_iff_iff]; simp [apartB]; try omega)) (((Below.refl _ _).alloc (Nat.le_refl _) _).alloc (by simp) _)
set_option maxHeartbeats 1000000 in
theorem alone_any (x : ItemD) (hn : x.name.size ≤ maxLen) (w : World) : Calls Tryz.prog 78 #[.agg #[.string x.name, .int .i64 x.place, .int .i64 x.width, .int .i64 x.weight, .int .i64 x.hang, .int .i64 x.front, .int .i64 x.back]] w (Gives w (.bool (itemAlone x))) := by
  obtain ⟨W, hW, hWs, hWb, hWh⟩ := boxed w (.cells #[.string x.name, .int .i64 x.place, .int .i64 x.width, .int .i64 x.weight, .int .i64 x.hang, .int .i64 x.front, .int .i64 x.back] 63)
  have hc := fun y : After W.heap.size W => ItemD.boxed hWh (by omega) y
  have hbd : ∀ y : After W.heap.size W, Below w.heap.size w y.val := fun y => hWb.trans (y.below.mono (by omega))
  have HW := hide hW
  have HBD := hide hbd
  clear hW hWs hWb hWh hbd
  go_enter Tryz.func78, Tryz.ntmps78
  go_wp2_with (first
    | (go_at_call 57; rw [← HW.out]; refine (Gives.first (isName_any _ _ hn)).mono ?_; rintro e w' ⟨rfl, y, rfl⟩)
    | (go_at_call 58; refine (Gives.after (Nat.le_refl _) (betweenBatten_any _ _ _ _)).mono ?_; rintro e w' ⟨rfl, y, rfl⟩))
  all_goals
    go_ret
    exact Gives.mk (congrArg Value.bool (by rw [itemAlone]; simp_all)) (HBD.out _)
set_option maxHeartbeats 1000000 in
theorem inside_any (x : ItemD) (len : Int) (hl0 : 0 ≤ len) (hl1 : len ≤ 1048576) (w : World) : Calls Tryz.prog 79 #[.agg #[.string x.name, .int .i64 x.place, .int .i64 x.width, .int .i64 x.weight, .int .i64 x.hang, .int .i64 x.front, .int .i64 x.back], .int .i64 len] w (Gives w (.bool (itemInside x len))) := by
  obtain ⟨W, hW, hWs, hWb, hWh⟩ := boxed w (.cells #[.string x.name, .int .i64 x.place, .int .i64 x.width, .int .i64 x.weight, .int .i64 x.hang, .int .i64 x.front, .int .i64 x.back] 63)
  have hc := fun y : After W.heap.size W => ItemD.boxed hWh (by omega) y
  have hbd : ∀ y : After W.heap.size W, Below w.heap.size w y.val := fun y => hWb.trans (y.below.mono (by omega))
  have HW := hide hW
  have HBD := hide hbd
  clear hW hWs hWh hbd
  cases hw : betweenB x.width 1 1048576
  · go_enter Tryz.func79, Tryz.ntmps79
    go_wp2_with (go_at_call 58; rw [← HW.out]; refine (Gives.first (betweenBatten_any _ _ _ _)).mono ?_; rintro e w' ⟨rfl, y, rfl⟩)
    · go_ret
      exact Gives.mk (congrArg Value.bool (by rw [itemInside, hw]; simp)) (HBD.out _)
    · go_ret
      rw [← HW.out]
      exact Gives.mk (congrArg Value.bool (by rw [itemInside, hw]; simp)) hWb
  · have hw' := betweenB_iff.1 hw
    obtain ⟨w0, w1⟩ := hw'
    go_enter Tryz.func79, Tryz.ntmps79
    go_wp2_with (go_at_call 58; rw [← HW.out]; refine (Gives.first (betweenBatten_any _ _ _ _)).mono ?_; rintro e w' ⟨rfl, y, rfl⟩)
    · go_ret
      exact Gives.mk (congrArg Value.bool (by rw [itemInside, hw]; simp_all)) (HBD.out _)
    · go_ret
      rw [← HW.out]
      exact Gives.mk (congrArg Value.bool (by rw [itemInside, hw]; simp; omega)) hWb
end Go.Proofs.YtcdkhlndohokcaaGreatDoor
