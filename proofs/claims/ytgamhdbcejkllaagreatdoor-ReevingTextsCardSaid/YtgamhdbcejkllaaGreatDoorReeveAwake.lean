/- loftblocklaw10.awake: the chapter's example holds. -/
import Derived.Test.YtgamhdbcejkllaaGreatDoorReeveEx
import Derived.Test.YtgamhdbcejkllaaGreatDoorReeveHauled
namespace Go.Proofs.YtgamhdbcejkllaaGreatDoor
open Go.RowKit

structure ExS (s : SysD) : Prop where
  ok : s.ok
  valid : sysOk s = true
  fit : TextFit s
  text : sysT s = [98, 108, 111, 99, 107, 32, 98, 32, 51, 48, 48, 10, 114, 111, 112, 101, 32, 114, 32, 104, 97, 117, 108, 101, 100, 32, 45, 32, 48, 32, 49, 32, 98, 32, 50, 32, 49, 32, 45, 32, 48, 32, 49, 32, 98, 32, 50, 32, 49, 32, 45, 32, 48, 32, 49, 10]
  lb : s.blocks.l.length = 1
  lr : s.ropes.l.length = 1
  mat : matF s.blocks.l s.ropes.l 0 0 = 4
  haul : haulF s.ropes.l 1 0 = 1
theorem exSys_S (b1 b2 b3 : Nat) : ExS (exSys b1 b2 b3) := ⟨exSys_ok _ _ _, exSys_valid _ _ _, exSys_fit _ _ _, exSys_text _ _ _, rfl, rfl, by kernel_rfl, by kernel_rfl⟩
theorem exampleS_any (w : World) : Calls Tryz.prog 13 #[] w fun e w' => ∃ s : SysD, e = .returned (.agg #[.slice s.blocks.A s.blocks.l.length s.blocks.cap, .slice s.ropes.A s.ropes.l.length s.ropes.cap]) ∧ ExS s ∧ SysD.at_ w' w'.heap.size s ∧ Below w.heap.size w w' := by
  refine (example_any w).mono ?_
  rintro e w' ⟨b1, b2, b3, he, hat, hb⟩
  exact ⟨_, he, exSys_S _ _ _, hat, hb⟩
theorem exMatrix (s : SysD) (h : ExS s) (w : World) (hat : SysD.at_ w w.heap.size s) : Calls Tryz.prog 12 #[.agg #[.slice s.blocks.A s.blocks.l.length s.blocks.cap, .slice s.ropes.A s.ropes.l.length s.ropes.cap]] w fun e w' => ∃ n0, n0 + 2 ≤ w'.heap.size ∧ e = .returned (.tuple #[.slice (some ⟨n0, 0, none⟩) 1 1, .int .i64 0]) ∧ w'.cell? ⟨n0, 0, none⟩ = some (.slice (some ⟨n0 + 1, 0, none⟩) 1 1) ∧ w'.cell? ⟨n0 + 1, 0, none⟩ = some (.int .i64 4) ∧ Below w.heap.size w w' := by
  refine (matrix_good s h.ok h.valid w _ (Nat.le_refl _) hat).mono ?_
  rintro e w' ⟨n0, _, he, hP, hb⟩
  rw [h.lb, h.lr] at hP
  rw [h.lb] at he
  have h1 := hP.size
  have h2 := hP.outerCell (r := 0) (by omega)
  have h3 := hP.cell (r := 0) (c := 0) (by omega) (by omega)
  rw [h.mat] at h3
  exact ⟨n0, by omega, he, h2, h3, hb⟩
theorem exHauled (s : SysD) (h : ExS s) (w : World) (hat : SysD.at_ w w.heap.size s) : Calls Tryz.prog 14 #[.agg #[.slice s.blocks.A s.blocks.l.length s.blocks.cap, .slice s.ropes.A s.ropes.l.length s.ropes.cap]] w fun e w' => ∃ n0, n0 < w'.heap.size ∧ e = .returned (.tuple #[.slice (some ⟨n0, 0, none⟩) 1 1, .int .i64 0]) ∧ w'.cell? ⟨n0, 0, none⟩ = some (.int .i64 1) ∧ Below w.heap.size w w' := by
  refine (hauled_good s h.ok h.valid w _ (Nat.le_refl _) hat).mono ?_
  rintro e w' ⟨n0, _, hn, he, hP, hb⟩
  rw [h.lr] at hP he
  have h3 := hP.cell (i := 0) (by omega)
  rw [h.haul] at h3
  exact ⟨n0, hn, he, h3, hb⟩
theorem exText (s : SysD) (h : ExS s) (w : World) (ht : Tabs w) (hat : SysD.at_ w w.heap.size s) : Calls Tryz.prog 9 #[.agg #[.slice s.blocks.A s.blocks.l.length s.blocks.cap, .slice s.ropes.A s.ropes.l.length s.ropes.cap]] w (Gives w (.tuple #[.string ⟨#[98, 108, 111, 99, 107, 32, 98, 32, 51, 48, 48, 10, 114, 111, 112, 101, 32, 114, 32, 104, 97, 117, 108, 101, 100, 32, 45, 32, 48, 32, 49, 32, 98, 32, 50, 32, 49, 32, 45, 32, 48, 32, 49, 32, 98, 32, 50, 32, 49, 32, 45, 32, 48, 32, 49, 10]⟩, .int .i64 0])) := by
  have := text_good s h.ok h.valid h.fit w ht _ (Nat.le_refl _) hat
  rw [h.text] at this
  exact this
theorem exValid (s : SysD) (h : ExS s) (w : World) (hat : SysD.at_ w w.heap.size s) : Calls Tryz.prog 15 #[.agg #[.slice s.blocks.A s.blocks.l.length s.blocks.cap, .slice s.ropes.A s.ropes.l.length s.ropes.cap]] w (Gives w (.bool true)) := by
  have := validS_any s h.ok w _ (Nat.le_refl _) hat
  rwa [h.valid] at this
/-- slices.Equal of two slices of one number -/
theorem equalOne {w : World} {b1 b2 : Nat} {x y : Int} (h1 : w.cell? ⟨b1, 0, none⟩ = some (.int .i64 x)) (h2 : w.cell? ⟨b2, 0, none⟩ = some (.int .i64 y)) :
    Calls Tryz.prog 16 #[.slice (some ⟨b1, 0, none⟩) 1 1, .slice (some ⟨b2, 0, none⟩) 1 1] w (Gives w (.bool ([x] == [y]))) :=
  equalInts [x] [y] rfl rfl (by omega) (by omega) (fun j z hz => by
    cases j with
    | zero => simp at hz; subst hz; exact h1
    | succ j => simp at hz) (fun j z hz => by
    cases j with
    | zero => simp at hz; subst hz; exact h2
    | succ j => simp at hz)
set_option maxRecDepth 100000 in
set_option maxHeartbeats 8000000 in
theorem awake10 (w : World) (ht : Tabs w) : Calls Tryz.prog 4 #[] w (Gives w (.bool true)) := by
  go_enter Tryz.func4, Tryz.ntmps4
  go_wp2_with fail
  refine (exampleS_any w).mono ?_
  rintro e w1 ⟨s1, rfl, hs1, hat1, hb1⟩
  go_wp2_with fail
  refine (exMatrix s1 hs1 w1 hat1).mono ?_
  rintro e w2 ⟨n0, hn0, rfl, hc1, hc2, hb2⟩
  have hB2 : Below w.heap.size w w2 := hb1.trans (hb2.mono hb1.size)
  clear hat1 hb1 hb2 hs1
  go_wp2_with fail
  refine (exampleS_any w2).mono ?_
  rintro e w3 ⟨s2, rfl, hs2, hat2, hb3⟩
  have hB3 : Below w.heap.size w w3 := hB2.trans (hb3.mono hB2.size)
  go_wp2_with fail
  refine (exText s2 hs2 w3 (ht.below hB3) hat2).mono ?_
  rintro e w4 ⟨rfl, hb4⟩
  have hX4 : Below w2.heap.size w2 w4 := hb3.trans (hb4.mono hb3.size)
  have hB4 : Below w.heap.size w w4 := hB2.trans (hX4.mono hB2.size)
  clear hat2 hs2 hb3 hB3 hb4
  go_wp2_with fail
  refine (exampleS_any w4).mono ?_
  rintro e w5 ⟨s3, rfl, hs3, hat3, hb5⟩
  go_wp2_with fail
  refine (exHauled s3 hs3 w5 hat3).mono ?_
  rintro e w6 ⟨n1, hn1, rfl, hc3, hb6⟩
  have hX6 : Below w2.heap.size w2 w6 := hX4.trans ((hb5.trans (hb6.mono hb5.size)).mono hX4.size)
  clear hat3 hs3 hb5 hb6 hX4 hB4
  go_wp2_with fail
  refine (exampleS_any w6).mono ?_
  rintro e w7 ⟨s4, rfl, hs4, hat4, hb7⟩
  go_wp2_with fail
  refine (exValid s4 hs4 w7 hat4).mono ?_
  rintro e w8 ⟨rfl, hb8⟩
  have hX8 : Below w6.heap.size w6 w8 := hb7.trans (hb8.mono hb7.size)
  have hY8 : Below w2.heap.size w2 w8 := hX6.trans (hX8.mono hX6.size)
  have hB8 : Below w.heap.size w w8 := hB2.trans (hY8.mono hB2.size)
  have hd1 : w8.cell? ⟨n0, 0, none⟩ = some (.slice (some ⟨n0 + 1, 0, none⟩) 1 1) := (hY8.cell (p := ⟨n0, 0, none⟩) (by simp only; omega)).trans hc1
  have hd2 : w8.cell? ⟨n0 + 1, 0, none⟩ = some (.int .i64 4) := (hY8.cell (p := ⟨n0 + 1, 0, none⟩) (by simp only; omega)).trans hc2
  have hd3 : w8.cell? ⟨n1, 0, none⟩ = some (.int .i64 1) := (hX8.cell (p := ⟨n1, 0, none⟩) hn1).trans hc3
  have hz0 : n0 + 2 ≤ w8.heap.size := Nat.le_trans hn0 hY8.size
  have hz1 : n1 < w8.heap.size := Nat.lt_of_lt_of_le hn1 hX8.size
  clear hat4 hs4 hb7 hb8 hX6 hX8 hY8 hc1 hc2 hc3 hB2
  have hlt : n0 < w8.heap.size := by omega
  go_wp2_with fail
  refine (equalOne (x := 4) (y := 4) (by rw [World.cell?_alloc_lt _ _ _ (by simp only; omega)]; exact hd2) ((Lib.cell_of_heap (heap_alloc_new w8 _) 0).trans rfl)).mono ?_
  rintro e w9 ⟨rfl, hb9⟩
  have hb9' : Below w8.heap.size w8 w9 := ((Below.refl _ _).alloc (Nat.le_refl _) _).trans (hb9.mono (by simp))
  have hd4 : w9.cell? ⟨n1, 0, none⟩ = some (.int .i64 1) := (hb9'.cell (p := ⟨n1, 0, none⟩) hz1).trans hd3
  have hz9 : n1 < w9.heap.size := Nat.lt_of_lt_of_le hz1 hb9'.size
  clear hd1 hd2 hd3 hz0 hz1 hb9
  go_wp2_with fail
  refine (equalOne (x := 1) (y := 1) (by rw [World.cell?_alloc_lt _ _ _ (by simp only; omega)]; exact hd4) ((Lib.cell_of_heap (heap_alloc_new w9 _) 0).trans rfl)).mono ?_
  rintro e w10 ⟨rfl, hb10⟩
  go_wp2
  go_ret
  exact Gives.mk rfl (hB8.trans ((hb9'.trans (((Below.refl _ _).alloc (Nat.le_refl _) _).trans (hb10.mono (by simp)) |>.mono hb9'.size)).mono hB8.size))
end Go.Proofs.YtgamhdbcejkllaaGreatDoor
