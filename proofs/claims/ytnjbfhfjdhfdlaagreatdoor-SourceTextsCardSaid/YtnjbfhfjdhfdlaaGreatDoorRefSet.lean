/- loftblockref21.Valid. -/
import Derived.Test.YtnjbfhfjdhfdlaaGreatDoorRefItems
import Derived.Test.YtnjbfhfjdhfdlaaGreatDoorRefBricks
import Derived.Test.YtnjbfhfjdhfdlaaGreatDoorLines
namespace Go.Proofs.YtnjbfhfjdhfdlaaGreatDoor
open Go.RowKit

theorem setFirst_iff {s : SetD} : setFirst s = true ↔ isName s.name = true ∧ betweenB s.depth 0 1048576 = true ∧ betweenB s.low 0 s.high = true ∧ betweenB s.high 0 1048576 = true ∧ betweenB s.length 1000 1048576 = true ∧ s.length % 1000 = 0 := by
  simp [setFirst, and_assoc]
theorem setSecond_iff {s : SetD} : setSecond s = true ↔ betweenB s.pipe 0 1048576 = true ∧ betweenB s.arbor 0 1048576 = true ∧ betweenB s.purchase 1 2 = true ∧ betweenB s.most 1 67108864 = true ∧ betweenB s.brake 0 67108864 = true := by
  simp [setSecond, and_assoc]
theorem setOk_first {s : SetD} (h : setFirst s = false) : setOk s = false := by rw [setOk, h]; rfl
theorem setOk_second {s : SetD} (h : setSecond s = false) : setOk s = false := by rw [setOk, h]; simp
theorem setOk_lines {s : SetD} (h : linesOk s.lines.l s.length = false) : setOk s = false := by rw [setOk, h]; simp
theorem setOk_rest {s : SetD} (h1 : setFirst s = true) (h2 : setSecond s = true) (h3 : linesOk s.lines.l s.length = true) : setOk s = (itemsOk s.items.l s.length && bricksOk s.bricks.l) := by rw [setOk, h1, h2, h3]; simp

set_option maxHeartbeats 4000000 in
set_option maxRecDepth 100000 in
theorem refSet_any (s : SetD) (hok : s.ok) (w : World) (B : Nat) (hB : B ≤ w.heap.size) (hat : SetD.at_ w B s) :
    Calls Tryz.prog 59 #[.agg #[.string s.name, .int .i64 s.depth, .int .i64 s.low, .int .i64 s.high, .int .i64 s.length, .slice s.lines.A s.lines.l.length s.lines.cap, .int .i64 s.pipe, .int .i64 s.arbor, .int .i64 s.purchase, .int .i64 s.most, .int .i64 s.brake, .slice s.items.A s.items.l.length s.items.cap, .slice s.bricks.A s.bricks.l.length s.bricks.cap]] w (Gives w (.bool (setOk s))) := by
  obtain ⟨W, hW, hWs, hWb, hWh⟩ := boxed w (.cells #[.string s.name, .int .i64 s.depth, .int .i64 s.low, .int .i64 s.high, .int .i64 s.length, .slice s.lines.A s.lines.l.length s.lines.cap, .int .i64 s.pipe, .int .i64 s.arbor, .int .i64 s.purchase, .int .i64 s.most, .int .i64 s.brake, .slice s.items.A s.items.l.length s.items.cap, .slice s.bricks.A s.bricks.l.length s.bricks.cap] 63)
  have hc := fun y : After W.heap.size W => SetD.boxed hWh (by omega) y
  have hbd : ∀ y : After W.heap.size W, Below w.heap.size w y.val := fun y => hWb.trans (y.below.mono (by omega))
  have hatx : ∀ y : After W.heap.size W, SetD.at_ y.val W.heap.size s := fun y => hat.to ((hWb.mono hB).trans (y.below.mono (by omega))) (by omega)
  have hlines : SlAt W W.heap.size 1 intCells s.lines := hat.lines.to (hWb.mono hB) (by omega)
  have hnm := hok.name
  have hm : s.lines.cap ≤ 9223372036854775807 := hat.lines.2.1
  have hlc : s.lines.l.length ≤ s.lines.cap := hat.lines.1
  have hitems : 0 ≤ s.length → s.length ≤ 1048576 → ∀ y : After W.heap.size W, Calls Tryz.prog 99 #[.agg #[.string s.name, .int .i64 s.depth, .int .i64 s.low, .int .i64 s.high, .int .i64 s.length, .slice s.lines.A s.lines.l.length s.lines.cap, .int .i64 s.pipe, .int .i64 s.arbor, .int .i64 s.purchase, .int .i64 s.most, .int .i64 s.brake, .slice s.items.A s.items.l.length s.items.cap, .slice s.bricks.A s.bricks.l.length s.bricks.cap]] y.val fun e w'' => e = .returned (.bool (itemsOk s.items.l s.length)) ∧ ∃ z : After W.heap.size W, w'' = z.val :=
    fun h0 h1 y => Gives.after (Nat.le_refl _) (refItems_any s hok h0 h1 y.val W.heap.size y.size (hatx y))
  have hbricks : ∀ y : After W.heap.size W, Calls Tryz.prog 100 #[.slice s.bricks.A s.bricks.l.length s.bricks.cap] y.val fun e w'' => e = .returned (.bool (bricksOk s.bricks.l)) ∧ ∃ z : After W.heap.size W, w'' = z.val :=
    fun y => Gives.after (Nat.le_refl _) (refBricks_any _ _ _ hok.bricks y.val W.heap.size y.size (hatx y).bricks)
  have HW := hide hW
  have HBD := hide hbd
  have HL := hide hlines
  have HI := hide hitems
  have HB := hide hbricks
  clear hW hWs hWh hWb hbd hatx hat hok hlines hitems hbricks
  cases hlen : betweenB s.length 1000 1048576
  · have HNO := hide (setOk_first (s := s) (by simp [setFirst, hlen]))
    go_enter Tryz.func59, Tryz.ntmps59
    go_wp2_with (first
      | (go_at_call 39; rw [← HW.out]; refine (Gives.first (refIsName_any _ _ hnm)).mono ?_; rintro e w' ⟨rfl, y, rfl⟩)
      | (go_at_call 98; refine (Gives.after (Nat.le_refl _) (between21_any _ _ _ _)).mono ?_; rintro e w' ⟨rfl, y, rfl⟩))
    all_goals
      go_ret
      exact Gives.mk (congrArg Value.bool HNO.out.symm) (HBD.out _)
  · obtain ⟨hl0, hl1⟩ := betweenB_iff.1 hlen
    cases hf : setFirst s
    · have HNO := hide (setOk_first hf)
      go_enter Tryz.func59, Tryz.ntmps59
      go_wp2_with (first
        | (go_at_call 39; rw [← HW.out]; refine (Gives.first (refIsName_any _ _ hnm)).mono ?_; rintro e w' ⟨rfl, y, rfl⟩)
        | (go_at_call 98; refine (Gives.after (Nat.le_refl _) (between21_any _ _ _ _)).mono ?_; rintro e w' ⟨rfl, y, rfl⟩))
      all_goals first
        | (go_ret; exact Gives.mk (congrArg Value.bool HNO.out.symm) (HBD.out _))
        | exact absurd (setFirst_iff.2 ⟨‹_›, ‹_›, ‹_›, ‹_›, hlen, by simpa using ‹(s.length % 1000 != 0) = false›⟩) (by simp [hf])
    · obtain ⟨h1, h2, h3, h4, h5, h6⟩ := setFirst_iff.1 hf
      have h6' : (s.length % 1000 != 0) = false := by rw [h6]; rfl
      have H6 := hide h6
      clear h6
      cases hsec : (betweenB (s.lines.l.length : Int) 2 10 && setSecond s)
      · have HNO := hide (show setOk s = false by
          rcases Bool.and_eq_false_iff.1 hsec with h | h
          · exact setOk_lines (linesOk_len h)
          · exact setOk_second h)
        go_enter Tryz.func59, Tryz.ntmps59
        go_wp2_with (first
          | (go_at_call 39; rw [← HW.out]; refine (Gives.first (refIsName_any _ _ hnm)).mono ?_; rintro e w' ⟨rfl, y, rfl⟩)
          | (go_at_call 98; refine (Gives.after (Nat.le_refl _) (between21_any _ _ _ _)).mono ?_; rintro e w' ⟨rfl, y, rfl⟩))
        all_goals first
          | (go_ret; exact Gives.mk (congrArg Value.bool HNO.out.symm) (HBD.out _))
          | exact absurd ((Bool.and_eq_true_iff (x := betweenB (s.lines.l.length : Int) 2 10) (y := setSecond s)).2 ⟨‹_›, setSecond_iff.2 ⟨‹_›, ‹_›, ‹_›, ‹_›, by simpa using ‹(!betweenB s.brake 0 67108864) = false›⟩⟩) (by rw [hsec]; exact Bool.false_ne_true)
      · obtain ⟨hb0, hs2⟩ := Bool.and_eq_true_iff.1 hsec
        obtain ⟨k1, k2, k3, k4, k5⟩ := setSecond_iff.1 hs2
        have HYES := hide (setOk_rest hf hs2)
        have HNO := hide (setOk_lines (s := s))
        clear hsec hf hs2
        obtain ⟨r, hr⟩ : ∃ r, r = setOk s := ⟨_, rfl⟩
        rw [← hr] at HYES HNO ⊢
        clear hr
        obtain ⟨name, depth, low, high, length, ⟨A, cap, l⟩, pipe, arbor, purchase, most, brake, items, bricks⟩ := s
        simp only at *
        go_enter Tryz.func59, Tryz.ntmps59
        go_wp2_with (first
          | (go_at_call 39; rw [← HW.out]; refine (Gives.first (refIsName_any _ _ hnm)).mono ?_; rintro e w' ⟨rfl, y, rfl⟩)
          | (go_at_call 98; refine (Gives.after (Nat.le_refl _) (between21_any _ _ _ _)).mono ?_; rintro e w' ⟨rfl, y, rfl⟩))
        go_loopw [3] (fun v wr => ∃ k : Nat, v = .int .i64 k ∧ k ≤ l.length ∧ Hid (UpTo (lineAt l length) l k) ∧ ∃ x : After W.heap.size W, wr = x.val) (fun v _ => l.length - (intOf v).toNat)
        case atStart => exact ⟨0, rfl, Nat.zero_le _, UpTo.zero _ _, _, rfl⟩
        case round =>
          obtain ⟨k, rfl, hk, hall, x, rfl⟩ := hrel
          by_cases hlt : k < l.length
          · obtain ⟨b, off, hA, hb, hcell⟩ := HL.out.2.2 (show 0 < l.length by omega)
            simp only at hA
            subst hA
            have hek := fun x => intElem (nth_get hlt) hb hcell x
            have hek1 := fun x => intElem (nth_get (show k - 1 < l.length by omega)) hb hcell x
            have hin2 : (k : Int) < (l.length : Int) := by omega
            have hi02 : (0 : Int) ≤ (k : Int) := by omega
            clear hcell
            cases hq1 : betweenB (nth l k) 0 length
            · go_wp2
              refine wp_region_after x (by kernel_rfl) (by kernel_rfl) ?_
              repeat (go_big_quiet_step ((go_at_call 98; exact Gives.after (Nat.le_refl _) (between21_any _ _ _ _))))
              refine wpQuiet_nil ?_
              intro z
              go_wp2
              go_ret
              exact Gives.mk (congrArg Value.bool (HNO.out (linesOk_no (nth_get hlt) (by rw [lineAt, hq1]; rfl))).symm) (HBD.out _)
            · by_cases hk0 : 0 < k
              · have hk0' : (0 : Int) < (k : Int) := by omega
                have hin3 : (k : Int) - 1 < (l.length : Int) := by omega
                have hi03 : (0 : Int) ≤ (k : Int) - 1 := by omega
                by_cases hle : nth l k ≤ nth l (k - 1)
                · go_wp2
                  refine wp_region_after x (by kernel_rfl) (by kernel_rfl) ?_
                  repeat (go_big_quiet_step ((go_at_call 98; exact Gives.after (Nat.le_refl _) (between21_any _ _ _ _))))
                  refine wpQuiet_nil ?_
                  intro z
                  go_wp2
                  go_ret
                  exact Gives.mk (congrArg Value.bool (HNO.out (linesOk_drop hlt hk0 hle)).symm) (HBD.out _)
                · go_wp2
                  refine wp_region_after x (by kernel_rfl) (by kernel_rfl) ?_
                  repeat (go_big_quiet_step ((go_at_call 98; exact Gives.after (Nat.le_refl _) (between21_any _ _ _ _))))
                  refine wpQuiet_nil ?_
                  intro z
                  go_wp2
                  exact ⟨⟨k + 1, by go_num, by omega, hall.out.next (nth_get hlt) (by rw [lineAt, hq1]; simp; omega), _, rfl⟩, by simp [intOf]; omega⟩
              · have hk0' : ¬ (0 : Int) < (k : Int) := by omega
                go_wp2
                refine wp_region_after x (by kernel_rfl) (by kernel_rfl) ?_
                repeat (go_big_quiet_step ((go_at_call 98; exact Gives.after (Nat.le_refl _) (between21_any _ _ _ _))))
                refine wpQuiet_nil ?_
                intro z
                go_wp2
                exact ⟨⟨k + 1, by go_num, by omega, hall.out.next (nth_get hlt) (by rw [lineAt, hq1]; simp; omega), _, rfl⟩, by simp [intOf]; omega⟩
          · have HLOK := hide (linesOk_yes hb0 (show l.length ≤ k by omega) hall.out)
            go_wp2_with (first
              | (go_at_call 99; refine (HI.out (by omega) (by omega) _).mono ?_; rintro e w' ⟨rfl, y, rfl⟩)
              | (go_at_call 100; refine (HB.out _).mono ?_; rintro e w' ⟨rfl, y, rfl⟩))
            all_goals
              go_ret
              exact Gives.mk (congrArg Value.bool (by rw [HYES.out HLOK.out]; simp_all)) (HBD.out _)
end Go.Proofs.YtnjbfhfjdhfdlaaGreatDoor
