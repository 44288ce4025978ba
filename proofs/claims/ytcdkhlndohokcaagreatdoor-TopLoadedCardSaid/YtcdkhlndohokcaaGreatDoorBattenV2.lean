/- batten.Valid, way by way: further tests. -/
import Derived.Test.YtcdkhlndohokcaaGreatDoorBattenBricks
namespace Go.Proofs.YtcdkhlndohokcaaGreatDoor
open Go.RowKit

set_option maxHeartbeats 4000000 in
set_option maxRecDepth 100000 in
theorem battenValid_8 (s : SetD) (hok : s.ok) (w : World) (B : Nat) (hB : B ≤ w.heap.size) (hat : SetD.at_ w B s) (h1 : isName s.name = true) (h2 : betweenB s.depth 0 1048576 = true) (h3 : 0 ≤ s.low) (h4 : s.low ≤ s.high) (h5 : s.high ≤ 1048576) (h6 : betweenB s.length 1000 1048576 = true) (h7 : (s.length % 1000 == 0) = true) (g : linesOk s.lines.l s.length = false) :
    Calls Tryz.prog 36 #[.agg #[.string s.name, .int .i64 s.depth, .int .i64 s.low, .int .i64 s.high, .int .i64 s.length, .slice s.lines.A s.lines.l.length s.lines.cap, .int .i64 s.pipe, .int .i64 s.arbor, .int .i64 s.purchase, .int .i64 s.most, .int .i64 s.brake, .slice s.items.A s.items.l.length s.items.cap, .slice s.bricks.A s.bricks.l.length s.bricks.cap]] w (Gives w (.bool (false))) := by
  obtain ⟨W, hW, hWs, hWb, hWh⟩ := boxed w (.cells #[.string s.name, .int .i64 s.depth, .int .i64 s.low, .int .i64 s.high, .int .i64 s.length, .slice s.lines.A s.lines.l.length s.lines.cap, .int .i64 s.pipe, .int .i64 s.arbor, .int .i64 s.purchase, .int .i64 s.most, .int .i64 s.brake, .slice s.items.A s.items.l.length s.items.cap, .slice s.bricks.A s.bricks.l.length s.bricks.cap] 26)
  have hc := fun y : After W.heap.size W => SetD.boxed hWh (by omega) y
  have hbd : ∀ y : After W.heap.size W, Below w.heap.size w y.val := fun y => hWb.trans (y.below.mono (by omega))
  have hatx : ∀ y : After W.heap.size W, SetD.at_ y.val W.heap.size s := fun y => hat.to ((hWb.mono hB).trans (y.below.mono (by omega))) (by omega)
  have hnm := hok.name
  have HOI := hide hok.items
  have HOB := hide hok.bricks
  have HW := hide hW
  have HBD := hide hbd
  have HA := hide hatx
  clear hW hWs hWh hWb hbd hatx hat hok
  obtain ⟨hl0, hl1⟩ := betweenB_iff.1 h6
  go_enter Tryz.func36, Tryz.ntmps36
  go_wp2_with (first
    | (go_at_call 57; rw [← HW.out]; refine (Gives.first (isName_any _ _ hnm)).mono ?_; rintro e w' ⟨rfl, y, rfl⟩)
    | (go_at_call 58; refine (Gives.after (Nat.le_refl _) (betweenBatten_any _ _ _ _)).mono ?_; rintro e w' ⟨rfl, y, rfl⟩)
    | (go_at_call 59; refine (Gives.after (Nat.le_refl _) (lines_any _ _ _ _ _ W.heap.size (After.size _) (HA.out _).lines)).mono ?_; rintro e w' ⟨rfl, y, rfl⟩)
    | (go_at_call 60; refine (Gives.after (Nat.le_refl _) (items_any _ _ _ _ (by omega) (by omega) HOI.out _ W.heap.size (After.size _) (HA.out _).items)).mono ?_; rintro e w' ⟨rfl, y, rfl⟩)
    | (go_at_call 61; refine (Gives.after (Nat.le_refl _) (bricks_any _ _ _ HOB.out _ W.heap.size (After.size _) (HA.out _).bricks)).mono ?_; rintro e w' ⟨rfl, y, rfl⟩))
  go_ret
  exact Gives.mk rfl (HBD.out _)
set_option maxHeartbeats 4000000 in
set_option maxRecDepth 100000 in
theorem battenValid_9 (s : SetD) (hok : s.ok) (w : World) (B : Nat) (hB : B ≤ w.heap.size) (hat : SetD.at_ w B s) (h1 : isName s.name = true) (h2 : betweenB s.depth 0 1048576 = true) (h3 : 0 ≤ s.low) (h4 : s.low ≤ s.high) (h5 : s.high ≤ 1048576) (h6 : betweenB s.length 1000 1048576 = true) (h7 : (s.length % 1000 == 0) = true) (h8 : linesOk s.lines.l s.length = true) (g : betweenB s.pipe 0 1048576 = false) :
    Calls Tryz.prog 36 #[.agg #[.string s.name, .int .i64 s.depth, .int .i64 s.low, .int .i64 s.high, .int .i64 s.length, .slice s.lines.A s.lines.l.length s.lines.cap, .int .i64 s.pipe, .int .i64 s.arbor, .int .i64 s.purchase, .int .i64 s.most, .int .i64 s.brake, .slice s.items.A s.items.l.length s.items.cap, .slice s.bricks.A s.bricks.l.length s.bricks.cap]] w (Gives w (.bool (false))) := by
  obtain ⟨W, hW, hWs, hWb, hWh⟩ := boxed w (.cells #[.string s.name, .int .i64 s.depth, .int .i64 s.low, .int .i64 s.high, .int .i64 s.length, .slice s.lines.A s.lines.l.length s.lines.cap, .int .i64 s.pipe, .int .i64 s.arbor, .int .i64 s.purchase, .int .i64 s.most, .int .i64 s.brake, .slice s.items.A s.items.l.length s.items.cap, .slice s.bricks.A s.bricks.l.length s.bricks.cap] 26)
  have hc := fun y : After W.heap.size W => SetD.boxed hWh (by omega) y
  have hbd : ∀ y : After W.heap.size W, Below w.heap.size w y.val := fun y => hWb.trans (y.below.mono (by omega))
  have hatx : ∀ y : After W.heap.size W, SetD.at_ y.val W.heap.size s := fun y => hat.to ((hWb.mono hB).trans (y.below.mono (by omega))) (by omega)
  have hnm := hok.name
  have HOI := hide hok.items
  have HOB := hide hok.bricks
  have HW := hide hW
  have HBD := hide hbd
  have HA := hide hatx
  clear hW hWs hWh hWb hbd hatx hat hok
  obtain ⟨hl0, hl1⟩ := betweenB_iff.1 h6
  go_enter Tryz.func36, Tryz.ntmps36
  go_wp2_with (first
    | (go_at_call 57; rw [← HW.out]; refine (Gives.first (isName_any _ _ hnm)).mono ?_; rintro e w' ⟨rfl, y, rfl⟩)
    | (go_at_call 58; refine (Gives.after (Nat.le_refl _) (betweenBatten_any _ _ _ _)).mono ?_; rintro e w' ⟨rfl, y, rfl⟩)
    | (go_at_call 59; refine (Gives.after (Nat.le_refl _) (lines_any _ _ _ _ _ W.heap.size (After.size _) (HA.out _).lines)).mono ?_; rintro e w' ⟨rfl, y, rfl⟩)
    | (go_at_call 60; refine (Gives.after (Nat.le_refl _) (items_any _ _ _ _ (by omega) (by omega) HOI.out _ W.heap.size (After.size _) (HA.out _).items)).mono ?_; rintro e w' ⟨rfl, y, rfl⟩)
    | (go_at_call 61; refine (Gives.after (Nat.le_refl _) (bricks_any _ _ _ HOB.out _ W.heap.size (After.size _) (HA.out _).bricks)).mono ?_; rintro e w' ⟨rfl, y, rfl⟩))
  go_ret
  exact Gives.mk rfl (HBD.out _)
set_option maxHeartbeats 4000000 in
set_option maxRecDepth 100000 in
theorem battenValid_10 (s : SetD) (hok : s.ok) (w : World) (B : Nat) (hB : B ≤ w.heap.size) (hat : SetD.at_ w B s) (h1 : isName s.name = true) (h2 : betweenB s.depth 0 1048576 = true) (h3 : 0 ≤ s.low) (h4 : s.low ≤ s.high) (h5 : s.high ≤ 1048576) (h6 : betweenB s.length 1000 1048576 = true) (h7 : (s.length % 1000 == 0) = true) (h8 : linesOk s.lines.l s.length = true) (h9 : betweenB s.pipe 0 1048576 = true) (g : betweenB s.arbor 0 1048576 = false) :
    Calls Tryz.prog 36 #[.agg #[.string s.name, .int .i64 s.depth, .int .i64 s.low, .int .i64 s.high, .int .i64 s.length, .slice s.lines.A s.lines.l.length s.lines.cap, .int .i64 s.pipe, .int .i64 s.arbor, .int .i64 s.purchase, .int .i64 s.most, .int .i64 s.brake, .slice s.items.A s.items.l.length s.items.cap, .slice s.bricks.A s.bricks.l.length s.bricks.cap]] w (Gives w (.bool (false))) := by
  obtain ⟨W, hW, hWs, hWb, hWh⟩ := boxed w (.cells #[.string s.name, .int .i64 s.depth, .int .i64 s.low, .int .i64 s.high, .int .i64 s.length, .slice s.lines.A s.lines.l.length s.lines.cap, .int .i64 s.pipe, .int .i64 s.arbor, .int .i64 s.purchase, .int .i64 s.most, .int .i64 s.brake, .slice s.items.A s.items.l.length s.items.cap, .slice s.bricks.A s.bricks.l.length s.bricks.cap] 26)
  have hc := fun y : After W.heap.size W => SetD.boxed hWh (by omega) y
  have hbd : ∀ y : After W.heap.size W, Below w.heap.size w y.val := fun y => hWb.trans (y.below.mono (by omega))
  have hatx : ∀ y : After W.heap.size W, SetD.at_ y.val W.heap.size s := fun y => hat.to ((hWb.mono hB).trans (y.below.mono (by omega))) (by omega)
  have hnm := hok.name
  have HOI := hide hok.items
  have HOB := hide hok.bricks
  have HW := hide hW
  have HBD := hide hbd
  have HA := hide hatx
  clear hW hWs hWh hWb hbd hatx hat hok
  obtain ⟨hl0, hl1⟩ := betweenB_iff.1 h6
  go_enter Tryz.func36, Tryz.ntmps36
  go_wp2_with (first
    | (go_at_call 57; rw [← HW.out]; refine (Gives.first (isName_any _ _ hnm)).mono ?_; rintro e w' ⟨rfl, y, rfl⟩)
    | (go_at_call 58; refine (Gives.after (Nat.le_refl _) (betweenBatten_any _ _ _ _)).mono ?_; rintro e w' ⟨rfl, y, rfl⟩)
    | (go_at_call 59; refine (Gives.after (Nat.le_refl _) (lines_any _ _ _ _ _ W.heap.size (After.size _) (HA.out _).lines)).mono ?_; rintro e w' ⟨rfl, y, rfl⟩)
    | (go_at_call 60; refine (Gives.after (Nat.le_refl _) (items_any _ _ _ _ (by omega) (by omega) HOI.out _ W.heap.size (After.size _) (HA.out _).items)).mono ?_; rintro e w' ⟨rfl, y, rfl⟩)
    | (go_at_call 61; refine (Gives.after (Nat.le_refl _) (bricks_any _ _ _ HOB.out _ W.heap.size (After.size _) (HA.out _).bricks)).mono ?_; rintro e w' ⟨rfl, y, rfl⟩))
  go_ret
  exact Gives.mk rfl (HBD.out _)
set_option maxHeartbeats 4000000 in
set_option maxRecDepth 100000 in
theorem battenValid_11 (s : SetD) (hok : s.ok) (w : World) (B : Nat) (hB : B ≤ w.heap.size) (hat : SetD.at_ w B s) (h1 : isName s.name = true) (h2 : betweenB s.depth 0 1048576 = true) (h3 : 0 ≤ s.low) (h4 : s.low ≤ s.high) (h5 : s.high ≤ 1048576) (h6 : betweenB s.length 1000 1048576 = true) (h7 : (s.length % 1000 == 0) = true) (h8 : linesOk s.lines.l s.length = true) (h9 : betweenB s.pipe 0 1048576 = true) (h10 : betweenB s.arbor 0 1048576 = true) (g : betweenB s.purchase 1 2 = false) :
    Calls Tryz.prog 36 #[.agg #[.string s.name, .int .i64 s.depth, .int .i64 s.low, .int .i64 s.high, .int .i64 s.length, .slice s.lines.A s.lines.l.length s.lines.cap, .int .i64 s.pipe, .int .i64 s.arbor, .int .i64 s.purchase, .int .i64 s.most, .int .i64 s.brake, .slice s.items.A s.items.l.length s.items.cap, .slice s.bricks.A s.bricks.l.length s.bricks.cap]] w (Gives w (.bool (false))) := by
  obtain ⟨W, hW, hWs, hWb, hWh⟩ := boxed w (.cells #[.string s.name, .int .i64 s.depth, .int .i64 s.low, .int .i64 s.high, .int .i64 s.length, .slice s.lines.A s.lines.l.length s.lines.cap, .int .i64 s.pipe, .int .i64 s.arbor, .int .i64 s.purchase, .int .i64 s.most, .int .i64 s.brake, .slice s.items.A s.items.l.length s.items.cap, .slice s.bricks.A s.bricks.l.length s.bricks.cap] 26)
  have hc := fun y : After W.heap.size W => SetD.boxed hWh (by omega) y
  have hbd : ∀ y : After W.heap.size W, Below w.heap.size w y.val := fun y => hWb.trans (y.below.mono (by omega))
  have hatx : ∀ y : After W.heap.size W, SetD.at_ y.val W.heap.size s := fun y => hat.to ((hWb.mono hB).trans (y.below.mono (by omega))) (by omega)
  have hnm := hok.name
  have HOI := hide hok.items
  have HOB := hide hok.bricks
  have HW := hide hW
  have HBD := hide hbd
  have HA := hide hatx
  clear hW hWs hWh hWb hbd hatx hat hok
  obtain ⟨hl0, hl1⟩ := betweenB_iff.1 h6
  go_enter Tryz.func36, Tryz.ntmps36
  go_wp2_with (first
    | (go_at_call 57; rw [← HW.out]; refine (Gives.first (isName_any _ _ hnm)).mono ?_; rintro e w' ⟨rfl, y, rfl⟩)
    | (go_at_call 58; refine (Gives.after (Nat.le_refl _) (betweenBatten_any _ _ _ _)).mono ?_; rintro e w' ⟨rfl, y, rfl⟩)
    | (go_at_call 59; refine (Gives.after (Nat.le_refl _) (lines_any _ _ _ _ _ W.heap.size (After.size _) (HA.out _).lines)).mono ?_; rintro e w' ⟨rfl, y, rfl⟩)
    | (go_at_call 60; refine (Gives.after (Nat.le_refl _) (items_any _ _ _ _ (by omega) (by omega) HOI.out _ W.heap.size (After.size _) (HA.out _).items)).mono ?_; rintro e w' ⟨rfl, y, rfl⟩)
    | (go_at_call 61; refine (Gives.after (Nat.le_refl _) (bricks_any _ _ _ HOB.out _ W.heap.size (After.size _) (HA.out _).bricks)).mono ?_; rintro e w' ⟨rfl, y, rfl⟩))
  go_ret
  exact Gives.mk rfl (HBD.out _)
set_option maxHeartbeats 4000000 in
set_option maxRecDepth 100000 in
theorem battenValid_12 (s : SetD) (hok : s.ok) (w : World) (B : Nat) (hB : B ≤ w.heap.size) (hat : SetD.at_ w B s) (h1 : isName s.name = true) (h2 : betweenB s.depth 0 1048576 = true) (h3 : 0 ≤ s.low) (h4 : s.low ≤ s.high) (h5 : s.high ≤ 1048576) (h6 : betweenB s.length 1000 1048576 = true) (h7 : (s.length % 1000 == 0) = true) (h8 : linesOk s.lines.l s.length = true) (h9 : betweenB s.pipe 0 1048576 = true) (h10 : betweenB s.arbor 0 1048576 = true) (h11 : betweenB s.purchase 1 2 = true) (g : betweenB s.most 1 67108864 = false) :
    Calls Tryz.prog 36 #[.agg #[.string s.name, .int .i64 s.depth, .int .i64 s.low, .int .i64 s.high, .int .i64 s.length, .slice s.lines.A s.lines.l.length s.lines.cap, .int .i64 s.pipe, .int .i64 s.arbor, .int .i64 s.purchase, .int .i64 s.most, .int .i64 s.brake, .slice s.items.A s.items.l.length s.items.cap, .slice s.bricks.A s.bricks.l.length s.bricks.cap]] w (Gives w (.bool (false))) := by
  obtain ⟨W, hW, hWs, hWb, hWh⟩ := boxed w (.cells #[.string s.name, .int .i64 s.depth, .int .i64 s.low, .int .i64 s.high, .int .i64 s.length, .slice s.lines.A s.lines.l.length s.lines.cap, .int .i64 s.pipe, .int .i64 s.arbor, .int .i64 s.purchase, .int .i64 s.most, .int .i64 s.brake, .slice s.items.A s.items.l.length s.items.cap, .slice s.bricks.A s.bricks.l.length s.bricks.cap] 26)
  have hc := fun y : After W.heap.size W => SetD.boxed hWh (by omega) y
  have hbd : ∀ y : After W.heap.size W, Below w.heap.size w y.val := fun y => hWb.trans (y.below.mono (by omega))
  have hatx : ∀ y : After W.heap.size W, SetD.at_ y.val W.heap.size s := fun y => hat.to ((hWb.mono hB).trans (y.below.mono (by omega))) (by omega)
  have hnm := hok.name
  have HOI := hide hok.items
  have HOB := hide hok.bricks
  have HW := hide hW
  have HBD := hide hbd
  have HA := hide hatx
  clear hW hWs hWh hWb hbd hatx hat hok
  obtain ⟨hl0, hl1⟩ := betweenB_iff.1 h6
  go_enter Tryz.func36, Tryz.ntmps36
  go_wp2_with (first
    | (go_at_call 57; rw [← HW.out]; refine (Gives.first (isName_any _ _ hnm)).mono ?_; rintro e w' ⟨rfl, y, rfl⟩)
    | (go_at_call 58; refine (Gives.after (Nat.le_refl _) (betweenBatten_any _ _ _ _)).mono ?_; rintro e w' ⟨rfl, y, rfl⟩)
    | (go_at_call 59; refine (Gives.after (Nat.le_refl _) (lines_any _ _ _ _ _ W.heap.size (After.size _) (HA.out _).lines)).mono ?_; rintro e w' ⟨rfl, y, rfl⟩)
    | (go_at_call 60; refine (Gives.after (Nat.le_refl _) (items_any _ _ _ _ (by omega) (by omega) HOI.out _ W.heap.size (After.size _) (HA.out _).items)).mono ?_; rintro e w' ⟨rfl, y, rfl⟩)
    | (go_at_call 61; refine (Gives.after (Nat.le_refl _) (bricks_any _ _ _ HOB.out _ W.heap.size (After.size _) (HA.out _).bricks)).mono ?_; rintro e w' ⟨rfl, y, rfl⟩))
  go_ret
  exact Gives.mk rfl (HBD.out _)
end Go.Proofs.YtcdkhlndohokcaaGreatDoor
