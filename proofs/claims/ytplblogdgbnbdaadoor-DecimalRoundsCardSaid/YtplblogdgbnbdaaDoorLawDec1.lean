/- loftblocklaw01.DecimalFormats, DecimalRounds, DecimalParses: the walks of the laws. -/
import Derived.Test.YtplblogdgbnbdaaDoorDecAwake
import Derived.Test.YtplblogdgbnbdaaDoorDecParseR
namespace Go.Proofs.YtplblogdgbnbdaaDoor
open Go.RowKit

set_option maxHeartbeats 4000000 in
set_option maxRecDepth 100000 in
theorem decimalFormats_any (n digits : Int) (w : World) (ht : Tabs w) : Calls Tryd.prog 3 #[.int .i64 n, .int .i64 digits] w (Gives w (.bool true)) := by
  have KA := hide (Gives.first (awake01 w ht))
  have KT := hide fun y : After w.heap.size w => ht.below y.below
  clear ht
  rcases bool_or (placesB digits) with hp | hp
  · have KF := hide fun y : After w.heap.size w => Gives.after (x := y) (Nat.le_refl _) (format_range n digits hp y.val)
    have hq : digits < 0 ∨ (¬ digits < 0 ∧ 9 < digits) := by
      unfold placesB at hp
      rw [Bool.and_eq_false_iff, decide_eq_false_iff_not, decide_eq_false_iff_not] at hp
      omega
    clear hp
    rcases hq with h | ⟨h, h2⟩
    all_goals
      go_enter Tryd.func3, Tryd.ntmps3
      go_wp2_with fail
      refine KA.out.mono ?_
      rintro e w1 ⟨rfl, y1, rfl⟩
      go_wp2_with fail
      refine (KF.out y1).mono ?_
      rintro e w1 ⟨rfl, y2, rfl⟩
      go_wp2
      go_ret
      exact Gives.mk rfl y2.below
  · have hq : ¬ digits < 0 ∧ ¬ 9 < digits := by
      unfold placesB at hp
      rw [Bool.and_eq_true, decide_eq_true_eq, decide_eq_true_eq] at hp
      omega
    obtain ⟨h, h2⟩ := hq
    rcases bool_or (numB n) with hn | hn
    · have KF := hide fun y : After w.heap.size w => Gives.after (x := y) (Nat.le_refl _) (format_big n digits hp hn y.val)
      have KN := hide fun y : After w.heap.size w => Gives.after (x := y) (Nat.le_refl _) (hn ▸ refNumber_any n y.val)
      clear hp hn
      go_enter Tryd.func3, Tryd.ntmps3
      go_wp2_with fail
      refine KA.out.mono ?_
      rintro e w1 ⟨rfl, y1, rfl⟩
      go_wp2_with fail
      refine (KF.out y1).mono ?_
      rintro e w1 ⟨rfl, y2, rfl⟩
      go_wp2_with fail
      refine (KN.out y2).mono ?_
      rintro e w1 ⟨rfl, y3, rfl⟩
      go_wp2
      go_ret
      exact Gives.mk rfl y3.below
    · have hn1 : -1152921504606846976 ≤ n ∧ n ≤ 1152921504606846976 := by simpa [numB] using hn
      obtain ⟨T, hT⟩ : ∃ T : ByteArray, T = ⟨(fmtL n digits.toNat).toArray⟩ := ⟨_, rfl⟩
      have KF := hide fun y : After w.heap.size w => (by have := Gives.after (x := y) (Nat.le_refl _) (format_ok n digits digits.toNat (by omega) (by omega) hn y.val (KT.out y)); rw [← hT] at this; exact this)
      have KN := hide fun y : After w.heap.size w => Gives.after (x := y) (Nat.le_refl _) (hn ▸ refNumber_any n y.val)
      have KR := hide fun y : After w.heap.size w => (by have := Gives.after (x := y) (Nat.le_refl _) (refFormat_any n digits digits.toNat (by omega) (by omega) hn1.1 hn1.2 y.val); rw [← hT] at this; exact this)
      clear hp hn hn1 hT
      go_enter Tryd.func3, Tryd.ntmps3
      go_wp2_with fail
      refine KA.out.mono ?_
      rintro e w1 ⟨rfl, y1, rfl⟩
      go_wp2_with fail
      refine (KF.out y1).mono ?_
      rintro e w1 ⟨rfl, y2, rfl⟩
      go_wp2_with fail
      refine (KN.out y2).mono ?_
      rintro e w1 ⟨rfl, y3, rfl⟩
      go_wp2_with fail
      refine (KR.out y3).mono ?_
      rintro e w1 ⟨rfl, y4, rfl⟩
      go_wp2
      go_ret
      exact Gives.mk rfl y4.below
set_option maxHeartbeats 4000000 in
set_option maxRecDepth 100000 in
theorem decimalRounds_any (n unit : Int) (w : World) (ht : Tabs w) : Calls Tryd.prog 5 #[.int .i64 n, .int .i64 unit] w (Gives w (.bool true)) := by
  have KA := hide (Gives.first (awake01 w ht))
  clear ht
  rcases bool_or (unitB unit) with hp | hp
  · have KF := hide fun y : After w.heap.size w => Gives.after (x := y) (Nat.le_refl _) (round_range n unit hp y.val)
    have hq : unit < 1 ∨ (¬ unit < 1 ∧ 1099511627776 < unit) := by
      unfold unitB at hp
      rw [Bool.and_eq_false_iff, decide_eq_false_iff_not, decide_eq_false_iff_not] at hp
      omega
    clear hp
    rcases hq with h | ⟨h, h2⟩
    all_goals
      go_enter Tryd.func5, Tryd.ntmps5
      go_wp2_with fail
      refine KA.out.mono ?_
      rintro e w1 ⟨rfl, y1, rfl⟩
      go_wp2_with fail
      refine (KF.out y1).mono ?_
      rintro e w1 ⟨rfl, y2, rfl⟩
      go_wp2
      go_ret
      exact Gives.mk rfl y2.below
  · have hq : ¬ unit < 1 ∧ ¬ 1099511627776 < unit := by
      unfold unitB at hp
      rw [Bool.and_eq_true, decide_eq_true_eq, decide_eq_true_eq] at hp
      omega
    obtain ⟨h, h2⟩ := hq
    rcases bool_or (numB n) with hn | hn
    · have KF := hide fun y : After w.heap.size w => Gives.after (x := y) (Nat.le_refl _) (round_big n unit hp hn y.val)
      have KN := hide fun y : After w.heap.size w => Gives.after (x := y) (Nat.le_refl _) (hn ▸ refNumber_any n y.val)
      clear hp hn
      go_enter Tryd.func5, Tryd.ntmps5
      go_wp2_with fail
      refine KA.out.mono ?_
      rintro e w1 ⟨rfl, y1, rfl⟩
      go_wp2_with fail
      refine (KF.out y1).mono ?_
      rintro e w1 ⟨rfl, y2, rfl⟩
      go_wp2_with fail
      refine (KN.out y2).mono ?_
      rintro e w1 ⟨rfl, y3, rfl⟩
      go_wp2
      go_ret
      exact Gives.mk rfl y3.below
    · have KF := hide fun y : After w.heap.size w => Gives.after (x := y) (Nat.le_refl _) (round_ok n unit hp hn y.val)
      have KN := hide fun y : After w.heap.size w => Gives.after (x := y) (Nat.le_refl _) (hn ▸ refNumber_any n y.val)
      have KR := hide fun y : After w.heap.size w => Gives.after (x := y) (Nat.le_refl _) (refRound_any n unit hp hn y.val)
      clear hp hn
      generalize roundI n unit = r at *
      go_enter Tryd.func5, Tryd.ntmps5
      go_wp2_with fail
      refine KA.out.mono ?_
      rintro e w1 ⟨rfl, y1, rfl⟩
      go_wp2_with fail
      refine (KF.out y1).mono ?_
      rintro e w1 ⟨rfl, y2, rfl⟩
      go_wp2_with fail
      refine (KN.out y2).mono ?_
      rintro e w1 ⟨rfl, y3, rfl⟩
      go_wp2_with fail
      refine (KR.out y3).mono ?_
      rintro e w1 ⟨rfl, y4, rfl⟩
      go_wp2
      go_ret
      exact Gives.mk rfl y4.below
set_option maxHeartbeats 4000000 in
set_option maxRecDepth 100000 in
theorem decimalParses_any (s : ByteArray) (digits : Int) (w : World) (ht : Tabs w) : Calls Tryd.prog 4 #[.string s, .int .i64 digits] w (Gives w (.bool true)) := by
  have KA := hide (Gives.first (awake01 w ht))
  have KT := hide fun y : After w.heap.size w => ht.below y.below
  clear ht
  by_cases hs : 100 < (s.size : Int)
  · go_enter Tryd.func4, Tryd.ntmps4
    go_wp2_with fail
    refine KA.out.mono ?_
    rintro e w1 ⟨rfl, y1, rfl⟩
    go_wp2
    go_ret
    exact Gives.mk rfl y1.below
  · rcases bool_or (placesB digits) with hp | hp
    · have KF := hide fun y : After w.heap.size w => Gives.after (x := y) (Nat.le_refl _) (parse_range s digits hp y.val)
      have hq : digits < 0 ∨ (¬ digits < 0 ∧ 9 < digits) := by
        unfold placesB at hp
        rw [Bool.and_eq_false_iff, decide_eq_false_iff_not, decide_eq_false_iff_not] at hp
        omega
      clear hp
      rcases hq with h | ⟨h, h2⟩
      all_goals
        go_enter Tryd.func4, Tryd.ntmps4
        go_wp2_with fail
        refine KA.out.mono ?_
        rintro e w1 ⟨rfl, y1, rfl⟩
        go_wp2_with fail
        refine (KF.out y1).mono ?_
        rintro e w1 ⟨rfl, y2, rfl⟩
        go_wp2
        go_ret
        exact Gives.mk rfl y2.below
    · have hq : ¬ digits < 0 ∧ ¬ 9 < digits := by
        unfold placesB at hp
        rw [Bool.and_eq_true, decide_eq_true_eq, decide_eq_true_eq] at hp
        omega
      obtain ⟨h, h2⟩ := hq
      have KF := hide fun y : After w.heap.size w => Gives.after (x := y) (Nat.le_refl _) (parse_ok s (by omega) digits digits.toNat (by omega) (by omega) y.val (KT.out y))
      have KR := hide fun y : After w.heap.size w => Gives.after (x := y) (Nat.le_refl _) (refParse_any s (by omega) digits digits.toNat (by omega) (by omega) y.val)
      clear hp
      generalize (parseE (bs s) digits.toNat).1 = r1 at *
      generalize (parseE (bs s) digits.toNat).2 = r2 at *
      go_enter Tryd.func4, Tryd.ntmps4
      go_wp2_with fail
      refine KA.out.mono ?_
      rintro e w1 ⟨rfl, y1, rfl⟩
      go_wp2_with fail
      refine (KF.out y1).mono ?_
      rintro e w1 ⟨rfl, y2, rfl⟩
      go_wp2_with fail
      refine (KR.out y2).mono ?_
      rintro e w1 ⟨rfl, y3, rfl⟩
      go_wp2
      go_ret
      exact Gives.mk rfl y3.below
end Go.Proofs.YtplblogdgbnbdaaDoor
