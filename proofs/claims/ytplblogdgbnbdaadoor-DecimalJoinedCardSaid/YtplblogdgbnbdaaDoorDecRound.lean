/- Decimal numbers: what Round and its reference compute. -/
import Derived.Test.YtplblogdgbnbdaaDoorDecFormat
namespace Go.Proofs.YtplblogdgbnbdaaDoor
open Go.RowKit

/-- the multiple to which a number rounds -/
def roundI (n u : Int) : Int := n / u + if u ≤ 2 * (n % u) then 1 else 0
def unitB (u : Int) : Bool := decide (1 ≤ u) && decide (u ≤ 1099511627776)
set_option maxHeartbeats 400000 in
theorem round_range (n unit : Int) (h : unitB unit = false) (w : World) : Calls Tryd.prog 17 #[.int .i64 n, .int .i64 unit] w (Gives w (.tuple #[.int .i64 0, .int .i64 2])) := by
  by_cases h1 : unit < 1
  · clear h
    go_enter Tryd.func17, Tryd.ntmps17
    go_wp2
    go_ret2
    exact Gives.mk rfl (Below.refl _ _)
  · have h2 : 1099511627776 < unit := by simp [unitB] at h; omega
    clear h
    go_enter Tryd.func17, Tryd.ntmps17
    go_wp2
    go_ret2
    exact Gives.mk rfl (Below.refl _ _)
set_option maxHeartbeats 400000 in
theorem round_big (n unit : Int) (h : unitB unit = true) (hn : numB n = false) (w : World) : Calls Tryd.prog 17 #[.int .i64 n, .int .i64 unit] w (Gives w (.tuple #[.int .i64 0, .int .i64 5])) := by
  have h1 : 1 ≤ unit := by simp [unitB] at h; omega
  have h2 : unit ≤ 1099511627776 := by simp [unitB] at h; omega
  have K2 := hide (hn ▸ number_any n w)
  clear h hn
  go_enter Tryd.func17, Tryd.ntmps17
  go_wp2_with fail
  refine (Gives.first K2.out).mono ?_
  rintro e w1 ⟨rfl, y1, rfl⟩
  go_wp2
  go_ret2
  exact Gives.mk rfl y1.below
theorem div_bounds (n u : Int) (h1 : 1 ≤ u) (hn1 : -1152921504606846976 ≤ n) (hn2 : n ≤ 1152921504606846976) : -1152921504606846976 ≤ n / u ∧ n / u ≤ 1152921504606846976 ∧ 0 ≤ n % u ∧ n % u < u := by
  have h4 := Int.emod_nonneg n (show u ≠ 0 by omega)
  have h5 := Int.emod_lt_of_pos n (show 0 < u by omega)
  refine ⟨?_, ?_, h4, h5⟩
  · rw [Int.le_ediv_iff_mul_le (by omega)]
    have : (-1152921504606846976 : Int) * u ≤ -1152921504606846976 := by omega
    omega
  · by_cases h0 : 0 ≤ n
    · exact Int.le_trans (Int.ediv_le_self u h0) hn2
    · have : n / u < 0 := Int.ediv_neg_of_neg_of_pos (by omega) (by omega)
      omega
theorem tdiv_neg (n u : Int) (h1 : 1 ≤ u) (h0 : n < 0) : (n.tmod u < 0 → n / u = n.tdiv u - 1 ∧ n % u = n.tmod u + u) ∧ (¬ n.tmod u < 0 → n / u = n.tdiv u ∧ n % u = 0) := by
  have hm := Int.tmod_eq_emod (a := n) (b := u)
  have hd := Int.tdiv_eq_ediv (a := n) (b := u)
  have h4 := Int.emod_nonneg n (show u ≠ 0 by omega)
  have h5 := Int.emod_lt_of_pos n (show 0 < u by omega)
  have hs : u.sign = 1 := Int.sign_eq_one_of_pos (by omega)
  have hb : (u.natAbs : Int) = u := by omega
  by_cases hdv : u ∣ n
  · have : n % u = 0 := Int.emod_eq_zero_of_dvd hdv
    rw [if_pos (Or.inr hdv)] at hm hd
    constructor <;> intro h <;> omega
  · have : n % u ≠ 0 := fun h => hdv (Int.dvd_of_emod_eq_zero h)
    have h0' : ¬ 0 ≤ n := by omega
    simp [hdv, h0', hs] at hm hd
    constructor <;> intro h <;> omega
theorem tdiv_bounds (n u : Int) (h1 : 1 ≤ u) (hn1 : -1152921504606846976 ≤ n) (hn2 : n ≤ 1152921504606846976) (h0 : n < 0) : -1152921504606846976 ≤ n.tdiv u ∧ n.tdiv u ≤ 1152921504606846976 := by
  obtain ⟨d1, d2, _, _⟩ := div_bounds n u h1 hn1 hn2
  obtain ⟨e1, e2⟩ := tdiv_neg n u h1 h0
  have hneg : n / u < 0 := Int.ediv_neg_of_neg_of_pos h0 (by omega)
  by_cases h : n.tmod u < 0
  · have := (e1 h).1; omega
  · have := (e2 h).1; omega
theorem tmod_bounds (n u : Int) (h1 : 1 ≤ u) (h0 : n < 0) : -u ≤ n.tmod u ∧ n.tmod u ≤ 0 := by
  obtain ⟨e1, e2⟩ := tdiv_neg n u h1 h0
  have h4 := Int.emod_nonneg n (show u ≠ 0 by omega)
  have h5 := Int.emod_lt_of_pos n (show 0 < u by omega)
  by_cases h : n.tmod u < 0
  · have := (e1 h).2; omega
  · have h2 := (e2 h).2
    have : n.tmod u = 0 := by
      have hdv := Int.dvd_of_emod_eq_zero h2
      exact Int.tmod_eq_zero_of_dvd hdv
    omega
set_option maxHeartbeats 4000000 in
set_option maxRecDepth 100000 in
theorem round_ok (n unit : Int) (h : unitB unit = true) (hn : numB n = true) (w : World) : Calls Tryd.prog 17 #[.int .i64 n, .int .i64 unit] w (Gives w (.tuple #[.int .i64 (roundI n unit), .int .i64 0])) := by
  have h1 : 1 ≤ unit := by simp [unitB] at h; omega
  have h2 : unit ≤ 1099511627776 := by simp [unitB] at h; omega
  have hn1 : -1152921504606846976 ≤ n ∧ n ≤ 1152921504606846976 := by simpa [numB] using hn
  obtain ⟨hna, hnb⟩ := hn1
  have K2 := hide (hn ▸ number_any n w)
  obtain ⟨d1, d2, d3, d4⟩ := div_bounds n unit h1 hna hnb
  clear h hn
  by_cases h0 : 0 ≤ n
  · by_cases hr : unit ≤ 2 * (n % unit)
    · have RR := hide (show roundI n unit = n / unit + 1 by simp [roundI, hr])
      go_enter Tryd.func17, Tryd.ntmps17
      go_wp2_with fail
      refine (Gives.first K2.out).mono ?_
      rintro e w1 ⟨rfl, y1, rfl⟩
      go_wp2
      refine wp_region_after y1 (by kernel_rfl) (by kernel_rfl) ?_
      repeat (go_big_quiet_step (fail))
      refine wpQuiet_nil ?_
      intro z
      go_wp2
      go_ret2
      exact Gives.mk (congrArg (fun x => Value.tuple #[.int .i64 x, .int .i64 0]) RR.out.symm) z.below
    · have RR := hide (show roundI n unit = n / unit by simp [roundI, hr])
      go_enter Tryd.func17, Tryd.ntmps17
      go_wp2_with fail
      refine (Gives.first K2.out).mono ?_
      rintro e w1 ⟨rfl, y1, rfl⟩
      go_wp2
      refine wp_region_after y1 (by kernel_rfl) (by kernel_rfl) ?_
      repeat (go_big_quiet_step (fail))
      refine wpQuiet_nil ?_
      intro z
      go_wp2
      go_ret2
      exact Gives.mk (congrArg (fun x => Value.tuple #[.int .i64 x, .int .i64 0]) RR.out.symm) z.below
  · obtain ⟨e1, e2⟩ := tdiv_neg n unit h1 (by omega)
    obtain ⟨e3, e4⟩ := tdiv_bounds n unit h1 hna hnb (by omega)
    have e5 := tmod_bounds n unit h1 (by omega)
    obtain ⟨e6, e7⟩ := e5
    clear d1 d2 d3 d4
    by_cases hr0 : n.tmod unit < 0
    · by_cases hr : unit ≤ 2 * (n.tmod unit + unit)
      · have RR := hide (show roundI n unit = n.tdiv unit by obtain ⟨a, b⟩ := e1 hr0; unfold roundI; rw [a, b, if_pos hr]; omega)
        clear e1 e2
        go_enter Tryd.func17, Tryd.ntmps17
        go_wp2_with fail
        refine (Gives.first K2.out).mono ?_
        rintro e w1 ⟨rfl, y1, rfl⟩
        go_wp2
        refine wp_region_after y1 (by kernel_rfl) (by kernel_rfl) ?_
        repeat (go_big_quiet_step (fail))
        refine wpQuiet_nil ?_
        intro z
        go_wp2
        go_ret2
        exact Gives.mk (congrArg (fun x => Value.tuple #[.int .i64 x, .int .i64 0]) RR.out.symm) z.below
      · have RR := hide (show roundI n unit = n.tdiv unit - 1 by obtain ⟨a, b⟩ := e1 hr0; unfold roundI; rw [a, b, if_neg hr]; omega)
        clear e1 e2
        go_enter Tryd.func17, Tryd.ntmps17
        go_wp2_with fail
        refine (Gives.first K2.out).mono ?_
        rintro e w1 ⟨rfl, y1, rfl⟩
        go_wp2
        refine wp_region_after y1 (by kernel_rfl) (by kernel_rfl) ?_
        repeat (go_big_quiet_step (fail))
        refine wpQuiet_nil ?_
        intro z
        go_wp2
        go_ret2
        exact Gives.mk (congrArg (fun x => Value.tuple #[.int .i64 x, .int .i64 0]) RR.out.symm) z.below
    · have RR := hide (show roundI n unit = n.tdiv unit by obtain ⟨a, b⟩ := e2 hr0; unfold roundI; rw [a, b, if_neg (by omega)]; omega)
      have hz : ¬ unit ≤ 2 * n.tmod unit := by omega
      clear e1 e2
      go_enter Tryd.func17, Tryd.ntmps17
      go_wp2_with fail
      refine (Gives.first K2.out).mono ?_
      rintro e w1 ⟨rfl, y1, rfl⟩
      go_wp2
      refine wp_region_after y1 (by kernel_rfl) (by kernel_rfl) ?_
      repeat (go_big_quiet_step (fail))
      refine wpQuiet_nil ?_
      intro z
      go_wp2
      go_ret2
      exact Gives.mk (congrArg (fun x => Value.tuple #[.int .i64 x, .int .i64 0]) RR.out.symm) z.below
set_option maxHeartbeats 4000000 in
set_option maxRecDepth 100000 in
theorem refRound_any (n unit : Int) (h : unitB unit = true) (hn : numB n = true) (w : World) : Calls Tryd.prog 18 #[.int .i64 n, .int .i64 unit] w (Gives w (.int .i64 (roundI n unit))) := by
  have h1 : 1 ≤ unit := by simp [unitB] at h; omega
  have h2 : unit ≤ 1099511627776 := by simp [unitB] at h; omega
  have hn1 : -1152921504606846976 ≤ n ∧ n ≤ 1152921504606846976 := by simpa [numB] using hn
  obtain ⟨hna, hnb⟩ := hn1
  obtain ⟨d1, d2, d3, d4⟩ := div_bounds n unit h1 hna hnb
  clear h hn
  by_cases h0 : 0 ≤ n
  · have m1 : n - n / unit * unit = n % unit := by have := Int.emod_add_mul_ediv n unit; rw [Int.mul_comm] at this; omega
    have m2 : 0 ≤ n / unit * unit := Int.mul_nonneg (Int.ediv_nonneg h0 (by omega)) (by omega)
    have m3 : n / unit * unit ≤ 1152921504606846976 := by omega
    by_cases hr : unit ≤ 2 * (n % unit)
    · have RR := hide (show roundI n unit = n / unit + 1 by simp [roundI, hr])
      go_enter Tryd.func18, Tryd.ntmps18
      go_wp2
      go_ret
      exact Gives.mk (congrArg (Value.int .i64) RR.out.symm) (Below.refl _ _)
    · have RR := hide (show roundI n unit = n / unit by simp [roundI, hr])
      go_enter Tryd.func18, Tryd.ntmps18
      go_wp2
      go_ret
      exact Gives.mk (congrArg (Value.int .i64) RR.out.symm) (Below.refl _ _)
  · obtain ⟨e1, e2⟩ := tdiv_neg n unit h1 (by omega)
    obtain ⟨e3, e4⟩ := tdiv_bounds n unit h1 hna hnb (by omega)
    obtain ⟨e6, e7⟩ := tmod_bounds n unit h1 (by omega)
    have m1 : n - n.tdiv unit * unit = n.tmod unit := by have := Int.tmod_add_mul_tdiv n unit; rw [Int.mul_comm] at this; omega
    have m2 : -1152921504606846976 ≤ n.tdiv unit * unit := by omega
    have m3 : n.tdiv unit * unit ≤ 1152921504606846976 := by omega
    clear d1 d2 d3 d4
    by_cases hr0 : n.tmod unit < 0
    · by_cases hr : unit ≤ 2 * (n.tmod unit + unit)
      · have RR := hide (show roundI n unit = n.tdiv unit by obtain ⟨a, b⟩ := e1 hr0; unfold roundI; rw [a, b, if_pos hr]; omega)
        clear e1 e2
        go_enter Tryd.func18, Tryd.ntmps18
        go_wp2
        go_ret
        exact Gives.mk (congrArg (Value.int .i64) RR.out.symm) (Below.refl _ _)
      · have RR := hide (show roundI n unit = n.tdiv unit - 1 by obtain ⟨a, b⟩ := e1 hr0; unfold roundI; rw [a, b, if_neg hr]; omega)
        clear e1 e2
        go_enter Tryd.func18, Tryd.ntmps18
        go_wp2
        go_ret
        exact Gives.mk (congrArg (Value.int .i64) RR.out.symm) (Below.refl _ _)
    · have RR := hide (show roundI n unit = n.tdiv unit by obtain ⟨a, b⟩ := e2 hr0; unfold roundI; rw [a, b, if_neg (by omega)]; omega)
      have hz : ¬ unit ≤ 2 * n.tmod unit := by omega
      clear e1 e2
      go_enter Tryd.func18, Tryd.ntmps18
      go_wp2
      go_ret
      exact Gives.mk (congrArg (Value.int .i64) RR.out.symm) (Below.refl _ _)
end Go.Proofs.YtplblogdgbnbdaaDoor
