/- Operations on the bits of small numbers that are not negative, as the program's ints have them; in plain Lean. loadin's lattice: whole, any, and the two conditions of `of`: whether a state is reached from one beneath it, and whether it leads to one above it. The lattice of a load-in as it lies in memory, and what is laid in it: which states are reached, which lead to the whole. The lattice, the pointer to it and the row of the imbalances while they are being laid. loadin.of: the lattice of a set and its jobs. -/
import Derived.Test.YtcdkhlndohokcaaGreatDoorLatTop
import Derived.Lib.QuoteBits
import Derived.Test.YtcdkhlndohokcaaGreatDoorIndex
import Derived.Deep.DeepCutAuto
import Derived.Deep.CutBlock
import Derived.Test.YtcdkhlndohokcaaGreatDoorBrakeWide
import Derived.Deep.OwnRows
import Derived.Test.YtcdkhlndohokcaaGreatDoorQuietTail
import Derived.BigQuiet
namespace Go.Proofs.YtcdkhlndohokcaaGreatDoor
open Go

theorem or_i64 (a b : Nat) (ha : a < 2 ^ 62) (hb : b < 2 ^ 62) : bits .or .i64 (a : Int) (b : Int) = ((a ||| b : Nat) : Int) := by
  show IntKind.i64.wrap ((BitVec.ofInt 64 (a : Int) ||| BitVec.ofInt 64 (b : Int)).toNat : Int) = _
  rw [BitVec.toNat_or, ofInt_u64 a (by omega), ofInt_u64 b (by omega)]
  have h := Nat.or_lt_two_pow ha hb
  exact Lib.wrap_i64_small _ (by omega)
theorem and_i64 (a b : Nat) (ha : a < 2 ^ 62) (hb : b < 2 ^ 62) : bits .and .i64 (a : Int) (b : Int) = ((a &&& b : Nat) : Int) := by
  show IntKind.i64.wrap ((BitVec.ofInt 64 (a : Int) &&& BitVec.ofInt 64 (b : Int)).toNat : Int) = _
  rw [BitVec.toNat_and, ofInt_u64 a (by omega), ofInt_u64 b (by omega)]
  have h : a &&& b ≤ a := Nat.and_le_left
  exact Lib.wrap_i64_small _ (by omega)
theorem or_bit {st i : Nat} (h : st.testBit i = false) : st ||| 2 ^ i = st + 2 ^ i := Nat.eq_of_testBit_eq fun j => by
  rw [bit_add h, Nat.testBit_or, Nat.testBit_two_pow]
theorem or_has {st i : Nat} (h : st.testBit i = true) : st ||| 2 ^ i = st := Nat.eq_of_testBit_eq fun j => by
  rw [Nat.testBit_or, Nat.testBit_two_pow]
  by_cases e : i = j
  · subst e; simp [h]
  · simp [e]
theorem sub_bits {st i : Nat} (h : st.testBit i = true) (j : Nat) : (st - 2 ^ i).testBit j = (st.testBit j && !decide (i = j)) := by
  have hge : 2 ^ i ≤ st := Nat.ge_two_pow_of_testBit h
  have hb : (st - 2 ^ i).testBit i = false := by
    cases hb : (st - 2 ^ i).testBit i with
    | false => rfl
    | true =>
      have h2 := Nat.testBit_two_pow_add_eq (st - 2 ^ i) i
      rw [show 2 ^ i + (st - 2 ^ i) = st by omega, h, hb] at h2
      cases h2
  have h3 := bit_add hb j
  rw [show st - 2 ^ i + 2 ^ i = st by omega] at h3
  by_cases e : i = j
  · subst e; rw [hb]; simp
  · rw [h3]; simp [e]
/-- a bit that is there, taken off -/
theorem andNot_i64 {st i : Nat} (hst : st < 2 ^ 62) (h : st.testBit i = true) : bits .andNot .i64 (st : Int) ((2 ^ i : Nat) : Int) = ((st - 2 ^ i : Nat) : Int) := by
  have hge : 2 ^ i ≤ st := Nat.ge_two_pow_of_testBit h
  show IntKind.i64.wrap ((BitVec.ofInt 64 (st : Int) &&& ~~~BitVec.ofInt 64 ((2 ^ i : Nat) : Int)).toNat : Int) = _
  rw [BitVec.toNat_and, BitVec.toNat_not, ofInt_u64 st (by omega), ofInt_u64 (2 ^ i) (by omega)]
  have e : st &&& (2 ^ 64 - 1 - 2 ^ i) = st - 2 ^ i := Nat.eq_of_testBit_eq fun j => by
    have hi : i < 64 := by
      rcases Nat.lt_or_ge i 64 with h4 | h4
      · exact h4
      · have := Nat.pow_le_pow_right (show 0 < 2 by decide) h4
        omega
    have hw : (2 ^ 64 - 1).testBit i = true := by rw [whole_bit]; simp [hi]
    rw [Nat.testBit_and, sub_bits hw, whole_bit, sub_bits h]
    by_cases hj : j < 64
    · simp [hj]
    · have : st.testBit j = false := bit_lt (n := 62) hst (by omega)
      simp [this]
  rw [e]
  exact Lib.wrap_i64_small _ (Nat.lt_of_le_of_lt (Nat.sub_le st (2 ^ i)) (by omega))
theorem and_one_bit (st i : Nat) : (st / 2 ^ i) &&& 1 = (st.testBit i).toNat := by
  rw [Nat.and_one_is_mod, Nat.testBit_eq_decide_div_mod_eq]
  rcases Nat.mod_two_eq_zero_or_one (st / 2 ^ i) with h | h <;> rw [h] <;> rfl
/-- whether a bit is there, as the program asks -/
theorem bit_i64 (st i : Nat) (hst : st < 2 ^ 62) : bits .and .i64 ((st / 2 ^ i : Nat) : Int) 1 = if st.testBit i then 1 else 0 := by
  have h1 : st / 2 ^ i ≤ st := Nat.div_le_self _ _
  have h2 := and_i64 (st / 2 ^ i) 1 (by omega) (by decide)
  rw [show ((1 : Nat) : Int) = 1 from rfl] at h2
  rw [h2, and_one_bit]
  cases st.testBit i <;> rfl
/-- a reached state with a job that is held: reached -/
theorem reach_more {held : Nat → Bool} {n x i : Nat} (h : Rch held n x) (hi : i < n) (hh : held (x ||| 2 ^ i) = true) : Rch held n (x ||| 2 ^ i) := by
  cases hb : x.testBit i with
  | true => rw [or_has hb]; exact h
  | false =>
    rw [or_bit hb] at hh ⊢
    exact Rch.step h hi hb hh
end Go.Proofs.YtcdkhlndohokcaaGreatDoor
namespace Go.Proofs.YtcdkhlndohokcaaGreatDoor
open Go Go.RowKit

theorem shl_one {n : Nat} (h : n ≤ 40) : IntKind.i64.wrap ((2 : Int) ^ n) = ((2 ^ n : Nat) : Int) := by
  have h2 : 2 ^ n ≤ 2 ^ 40 := Nat.pow_le_pow_right (by decide) h
  rw [IntKind.wrap_i64]
  have e : ((2 : Int) ^ n) = ((2 ^ n : Nat) : Int) := by simp
  rw [e]
  obtain ⟨N, hN⟩ : ∃ N, N = 2 ^ n := ⟨_, rfl⟩
  rw [← hN] at h2 ⊢
  omega
set_option maxHeartbeats 1000000 in
theorem whole_any (n lb : Nat) (hn : n ≤ 12) (w : World) (hc : w.cell? ⟨lb, 0, none⟩ = some (.int .i64 (n : Int))) :
    Calls Tryz.prog 28 #[.pointer (some ⟨lb, 0, none⟩)] w (Gives w (.int .i64 (((2 ^ n - 1 : Nat) : Int)))) := by
  have h1 : 1 ≤ 2 ^ n := Nat.two_pow_pos n
  have h2 : 2 ^ n ≤ 2 ^ 12 := Nat.pow_le_pow_right (by decide) hn
  have hw := shl_one (n := n) (by omega)
  have hn0 : (0 : Int) ≤ (n : Int) := by omega
  have hn1 : (n : Int) ≤ 64 := by omega
  obtain ⟨N, hN⟩ : ∃ N, N = 2 ^ n := ⟨_, rfl⟩
  rw [← hN] at h1 h2 hw ⊢
  have HN := hide hN
  clear hN
  go_enter Tryz.func28, Tryz.ntmps28
  go_wp2_with fail
  go_ret
  exact Gives.mk (congrArg (Value.int .i64) (by omega)) (Below.refl _ _)
set_option maxRecDepth 100000 in
set_option maxHeartbeats 1000000 in
theorem any_any (n lb : Nat) (hn : n ≤ 12) (st : Int) (g : Nat) (caps : Array Value) (p : Nat → Bool) (eg : ∀ args w, (callFunc g args).run Tryz.prog w = .ok (.enter g args) w) (w : World) (hc : w.cell? ⟨lb, 0, none⟩ = some (.int .i64 (n : Int)))
    (hp : ∀ (x : After w.heap.size w) (i : Nat), i < n → Calls Tryz.prog g (#[.int .i64 (i : Int)] ++ caps) x.val (Gives x.val (.bool (p i)))) :
    Calls Tryz.prog 29 #[.pointer (some ⟨lb, 0, none⟩), .int .i64 st, .func (.func g) #[] caps] w (Gives w (.bool ((List.range n).any p))) := by
  have HP := hide hp
  clear hp
  go_enter Tryz.func29, Tryz.ntmps29
  go_wp2_with fail
  go_loopw [12] (fun v wr => ∃ k : Nat, v = .int .i64 k ∧ k ≤ n ∧ (∀ j, j < k → p j = false) ∧ ∃ x : After w.heap.size w, wr = x.val) (fun v _ => n - (intOf v).toNat)
  case atStart => exact ⟨0, rfl, Nat.zero_le _, fun j hj => absurd hj (Nat.not_lt_zero _), After.refl _ _, rfl⟩
  case round =>
    obtain ⟨k, rfl, hk, hall, x, rfl⟩ := hrel
    by_cases hlt : k < n
    · have KX := hide (Gives.after (x := x) (Nat.le_refl _) (HP.out x k hlt))
      have HALL := hide hall
      clear hall
      cases hpk : p k
      · rw [hpk] at KX
        go_wp2_with (refine KX.out.mono ?_; rintro e w' ⟨rfl, y, rfl⟩)
        exact ⟨⟨k + 1, by go_num, by omega, fun j hj => by
          by_cases e : j = k
          · subst e; exact hpk
          · exact HALL.out j (by omega), y, rfl⟩, by simp [intOf]; omega⟩
      · rw [hpk] at KX
        have HT := hide (show true = (List.range n).any p from (List.any_eq_true.2 ⟨k, List.mem_range.2 hlt, hpk⟩).symm)
        go_wp2_with (refine KX.out.mono ?_; rintro e w' ⟨rfl, y, rfl⟩)
        go_ret
        exact Gives.mk (congrArg Value.bool HT.out) y.below
    · have HT := hide (show false = (List.range n).any p by
        symm
        rw [List.any_eq_false]
        intro j hj
        rw [hall j (by have := List.mem_range.1 hj; omega)]
        simp)
      clear hall
      go_wp2_with fail
      go_ret
      exact Gives.mk (congrArg Value.bool HT.out) x.below
theorem bit_ask (st i : Nat) (hst : st < 4096) : bits .and .i64 ((st : Int) / 2 ^ i) 1 = if st.testBit i then 1 else 0 := by
  have h := bit_i64 st i (by omega)
  rw [← h]
  congr 1
theorem enters_of1 : ∀ args w, (callFunc 55 args).run Tryz.prog w = .ok (.enter 55 args) w := entersOf Tryz.func55 (by kernel_rfl) rfl
theorem enters_of2 : ∀ args w, (callFunc 56 args).run Tryz.prog w = .ok (.enter 56 args) w := entersOf Tryz.func56 (by kernel_rfl) rfl
set_option maxRecDepth 100000 in
set_option maxHeartbeats 2000000 in
/-- whether a state is reached by its last job i -/
theorem of1_any (lb rb sv pv N st i : Nat) (f : Nat → Bool) (hst : st < N) (hN : N ≤ 4096) (hi : i < 12) (w : World) (hsv : w.cell? ⟨sv, 0, none⟩ = some (.int .i64 (st : Int))) (hpv : w.cell? ⟨pv, 0, none⟩ = some (.pointer (some ⟨lb, 0, none⟩)))
    (hl : w.cell? ⟨lb, 2, none⟩ = some (.slice (some ⟨rb, 0, none⟩) N N)) (hr : ∀ j, j < N → w.cell? ⟨rb, j, none⟩ = some (.bool (f j))) (hlt : sv < w.heap.size ∧ pv < w.heap.size ∧ lb < w.heap.size ∧ rb < w.heap.size) :
    Calls Tryz.prog 55 #[.int .i64 (i : Int), .pointer (some ⟨sv, 0, none⟩), .pointer (some ⟨pv, 0, none⟩)] w (Gives w (.bool (st.testBit i && f (st - 2 ^ i)))) := by
  have f1 := fun y : After w.heap.size w => And.intro (y.cell hsv hlt.1) (And.intro (y.cell hpv hlt.2.1) (y.cell hl hlt.2.2.1))
  have f0 := f1 (After.refl _ _)
  simp only [After.refl] at f0
  have hask := bit_ask st i (by omega)
  have hi0 : (0 : Int) ≤ (i : Int) := by omega
  have hi1 : (i : Int) ≤ 64 := by omega
  cases hb : st.testBit i
  · rw [hb] at hask
    simp only [Bool.false_eq_true, if_false] at hask
    rw [Bool.false_and]
    clear hb hr hsv hpv hl
    go_enter Tryz.func55, Tryz.ntmps55
    go_upto_region 1 with fail
    refine wp_region_after (After.refl w.heap.size w) (by kernel_rfl) (by kernel_rfl) ?_
    repeat (go_big_quiet_step (fail))
    refine wpQuiet_nil ?_
    intro z
    go_wp2_with fail
    go_ret
    exact Gives.mk rfl z.below
  · rw [hb] at hask
    simp only [if_true] at hask
    rw [Bool.true_and]
    have hge : 2 ^ i ≤ st := Nat.ge_two_pow_of_testBit hb
    have hshl := shl_one (n := i) (by omega)
    have hand := andNot_i64 (st := st) (i := i) (by omega) hb
    obtain ⟨j, hj⟩ : ∃ j, j = st - 2 ^ i := ⟨_, rfl⟩
    have hjN : j < N := by rw [hj]; exact Nat.lt_of_le_of_lt (Nat.sub_le _ _) hst
    obtain ⟨q, hq⟩ : ∃ q, q = 2 ^ i := ⟨_, rfl⟩
    rw [← hj] at hand ⊢
    rw [← hq] at hand hshl
    have hj0 : (0 : Int) ≤ (j : Int) := by omega
    have hj1 : (j : Int) < (N : Int) := by omega
    have hN0 : (N : Int) ≤ 4096 := by omega
    have hrj := fun y : After w.heap.size w => y.cell (hr j hjN) hlt.2.2.2
    have hrj0 := hrj (After.refl _ _)
    simp only [After.refl] at hrj0
    clear hb hr hsv hpv hl hge hj hq
    go_enter Tryz.func55, Tryz.ntmps55
    go_upto_region 1 with fail
    refine wp_region_after (After.refl w.heap.size w) (by kernel_rfl) (by kernel_rfl) ?_
    repeat (go_big_quiet_step (fail))
    refine wpQuiet_nil ?_
    intro z
    go_wp2_with fail
    go_ret
    exact Gives.mk rfl z.below
set_option maxRecDepth 100000 in
set_option maxHeartbeats 2000000 in
/-- whether a state leads on by the further job i -/
theorem of2_any (lb rb sv pv N st i : Nat) (f : Nat → Bool) (hst : st < N) (hN : N ≤ 4096) (hi : i < 12) (hin : st.testBit i = false → st + 2 ^ i < N) (w : World) (hsv : w.cell? ⟨sv, 0, none⟩ = some (.int .i64 (st : Int))) (hpv : w.cell? ⟨pv, 0, none⟩ = some (.pointer (some ⟨lb, 0, none⟩)))
    (hl : w.cell? ⟨lb, 3, none⟩ = some (.slice (some ⟨rb, 0, none⟩) N N)) (hr : ∀ j, j < N → w.cell? ⟨rb, j, none⟩ = some (.bool (f j))) (hlt : sv < w.heap.size ∧ pv < w.heap.size ∧ lb < w.heap.size ∧ rb < w.heap.size) :
    Calls Tryz.prog 56 #[.int .i64 (i : Int), .pointer (some ⟨sv, 0, none⟩), .pointer (some ⟨pv, 0, none⟩)] w (Gives w (.bool (!st.testBit i && f (st + 2 ^ i)))) := by
  have f1 := fun y : After w.heap.size w => And.intro (y.cell hsv hlt.1) (And.intro (y.cell hpv hlt.2.1) (y.cell hl hlt.2.2.1))
  have f0 := f1 (After.refl _ _)
  simp only [After.refl] at f0
  have hask := bit_ask st i (by omega)
  have hi0 : (0 : Int) ≤ (i : Int) := by omega
  have hi1 : (i : Int) ≤ 64 := by omega
  cases hb : st.testBit i
  · rw [hb] at hask
    simp only [Bool.false_eq_true, if_false] at hask
    rw [Bool.not_false, Bool.true_and]
    have hp2 : 2 ^ i ≤ 2 ^ 12 := Nat.pow_le_pow_right (by decide) (by omega)
    have hshl := shl_one (n := i) (by omega)
    have hand := or_i64 st (2 ^ i) (by omega) (Nat.lt_of_le_of_lt hp2 (by decide))
    rw [or_bit hb] at hand
    obtain ⟨j, hj⟩ : ∃ j, j = st + 2 ^ i := ⟨_, rfl⟩
    have hjN : j < N := by rw [hj]; exact hin hb
    obtain ⟨q, hq⟩ : ∃ q, q = 2 ^ i := ⟨_, rfl⟩
    rw [← hj] at hand ⊢
    rw [← hq] at hand hshl
    have hj0 : (0 : Int) ≤ (j : Int) := by omega
    have hj1 : (j : Int) < (N : Int) := by omega
    have hN0 : (N : Int) ≤ 4096 := by omega
    have hrj := fun y : After w.heap.size w => y.cell (hr j hjN) hlt.2.2.2
    have hrj0 := hrj (After.refl _ _)
    simp only [After.refl] at hrj0
    clear hb hin hr hsv hpv hl hp2 hj hq
    go_enter Tryz.func56, Tryz.ntmps56
    go_upto_region 1 with fail
    refine wp_region_after (After.refl w.heap.size w) (by kernel_rfl) (by kernel_rfl) ?_
    repeat (go_big_quiet_step (fail))
    refine wpQuiet_nil ?_
    intro z
    go_wp2_with fail
    go_ret
    exact Gives.mk rfl z.below
  · rw [hb] at hask
    simp only [if_true] at hask
    rw [Bool.not_true, Bool.false_and]
    clear hb hin hr hsv hpv hl
    go_enter Tryz.func56, Tryz.ntmps56
    go_upto_region 1 with fail
    refine wp_region_after (After.refl w.heap.size w) (by kernel_rfl) (by kernel_rfl) ?_
    repeat (go_big_quiet_step (fail))
    refine wpQuiet_nil ?_
    intro z
    go_wp2_with fail
    go_ret
    exact Gives.mk rfl z.below
end Go.Proofs.YtcdkhlndohokcaaGreatDoor
namespace Go.Proofs.YtcdkhlndohokcaaGreatDoor
open Go Go.RowKit Go.Maps Go.Deep

noncomputable def rchB (held : Nat → Bool) (n st : Nat) : Bool := @decide (Rch held n st) (Classical.propDecidable _)
noncomputable def ldsB (held : Nat → Bool) (n st : Nat) : Bool := @decide (Lds held n st) (Classical.propDecidable _)
section
variable {held : Nat → Bool} {n : Nat}
theorem rchB_iff {st : Nat} : rchB held n st = true ↔ Rch held n st := by unfold rchB; exact @decide_eq_true_iff _ (Classical.propDecidable _)
theorem ldsB_iff {st : Nat} : ldsB held n st = true ↔ Lds held n st := by unfold ldsB; exact @decide_eq_true_iff _ (Classical.propDecidable _)
theorem bool_iff {a b : Bool} (h : a = true ↔ b = true) : a = b := by cases a <;> cases b <;> simp_all
theorem rchB_rec (st : Nat) : rchB held n st = (held st && (decide (st = 0) || (List.range n).any fun i => st.testBit i && rchB held n (st - 2 ^ i))) := by
  refine bool_iff ?_
  rw [rchB_iff, Bool.and_eq_true, Bool.or_eq_true, decide_eq_true_eq, List.any_eq_true]
  constructor
  · intro hr
    refine ⟨hr.ok, ?_⟩
    cases hr with
    | zero _ => exact Or.inl rfl
    | @step s i hr hi hb _ =>
      refine Or.inr ⟨i, List.mem_range.2 hi, ?_⟩
      rw [Bool.and_eq_true, Nat.add_sub_cancel, rchB_iff]
      exact ⟨by rw [bit_add hb]; simp, hr⟩
  · rintro ⟨h1, rfl | ⟨i, hi, h2⟩⟩
    · exact Rch.zero h1
    · rw [Bool.and_eq_true, rchB_iff] at h2
      obtain ⟨s, rfl, hs⟩ := sub_bit h2.1
      rw [Nat.add_sub_cancel] at h2
      exact Rch.step h2.2 (List.mem_range.1 hi) hs h1
theorem ldsB_rec {st : Nat} : ldsB held n st = (held st && (decide (st = 2 ^ n - 1) || (List.range n).any fun i => !st.testBit i && ldsB held n (st + 2 ^ i))) := by
  refine bool_iff ?_
  rw [ldsB_iff, Bool.and_eq_true, Bool.or_eq_true, decide_eq_true_eq, List.any_eq_true]
  constructor
  · intro hl
    refine ⟨hl.ok, ?_⟩
    obtain ⟨st', hst'⟩ : ∃ s, s = st := ⟨_, rfl⟩
    rw [← hst'] at hl
    cases hl with
    | whole _ => exact Or.inl hst'.symm
    | @step _ i h3 hi hb hl2 =>
      rw [hst'] at hb hl2
      refine Or.inr ⟨i, List.mem_range.2 hi, ?_⟩
      rw [Bool.and_eq_true, Bool.not_eq_true', ldsB_iff]
      exact ⟨hb, hl2⟩
  · rintro ⟨h3, rfl | ⟨i, hi, h4⟩⟩
    · exact Lds.whole h3
    · rw [Bool.and_eq_true, Bool.not_eq_true', ldsB_iff] at h4
      exact Lds.step h3 (List.mem_range.1 hi) h4.1 h4.2
end
theorem any_congr {l : List Nat} {p q : Nat → Bool} (h : ∀ i ∈ l, p i = q i) : l.any p = l.any q := by
  induction l with
  | nil => rfl
  | cons a l ih => rw [List.any_cons, List.any_cons, h a (by simp), ih (fun i hi => h i (by simp [hi]))]
theorem imb_small {I : Int} {cs : List Int} {K : Int} (hK : 0 ≤ K) (h : ∀ x ∈ cs, -K ≤ x ∧ x ≤ K) (st : Nat) : I - K * cs.length ≤ imbAt I cs st ∧ imbAt I cs st ≤ I + K * cs.length := by
  unfold imbAt
  have h1 := sum_small (l := (List.range cs.length).map fun i => if st.testBit i then cs.getD i 0 else 0) (K := K) (fun x hx => by
    obtain ⟨i, hi, rfl⟩ := List.mem_map.1 hx
    rw [List.mem_range] at hi
    split
    · have : cs.getD i 0 = cs[i] := by rw [List.getD, List.getElem?_eq_getElem hi]; rfl
      rw [this]
      exact h _ (List.getElem_mem hi)
    · omega)
  rw [List.length_map, List.length_range] at h1
  omega

/-- the lattice in memory -/
structure Lat (W0 lb hb rb gb n N : Nat) (fh fr fg : Nat → Bool) (w : World) : Prop where
  n : w.cell? ⟨lb, 0, none⟩ = some (.int .i64 (n : Int))
  hs : w.cell? ⟨lb, 1, none⟩ = some (.slice (some ⟨hb, 0, none⟩) N N)
  rs : w.cell? ⟨lb, 2, none⟩ = some (.slice (some ⟨rb, 0, none⟩) N N)
  gs : w.cell? ⟨lb, 3, none⟩ = some (.slice (some ⟨gb, 0, none⟩) N N)
  h : w.rowIs hb 4 N (fun i => .bool (fh i))
  r : w.rowIs rb 4 N (fun i => .bool (fr i))
  g : w.rowIs gb 4 N (fun i => .bool (fg i))
  base : W0 ≤ lb ∧ W0 ≤ hb ∧ W0 ≤ rb ∧ W0 ≤ gb
  apart : lb ≠ hb ∧ lb ≠ rb ∧ lb ≠ gb ∧ hb ≠ rb ∧ hb ≠ gb ∧ rb ≠ gb
  lt : lb < w.heap.size
theorem cell_of_block {w w' : World} {b : Nat} (h : w'.heap[b]? = w.heap[b]?) (i : Nat) : w'.cell? ⟨b, i, none⟩ = w.cell? ⟨b, i, none⟩ := by
  unfold World.cell?
  rw [h]
section
variable {W0 lb hb rb gb n N : Nat} {fh fr fg : Nat → Bool} {w w' : World}
theorem Lat.all (h : Lat W0 lb hb rb gb n N fh fr fg w) (hl : w'.heap[lb]? = w.heap[lb]?) (hh : w'.heap[hb]? = w.heap[hb]?) (hr : w'.heap[rb]? = w.heap[rb]?) (hg : w'.heap[gb]? = w.heap[gb]?) (hs : w.heap.size ≤ w'.heap.size) : Lat W0 lb hb rb gb n N fh fr fg w' :=
  ⟨by rw [cell_of_block hl]; exact h.n, by rw [cell_of_block hl]; exact h.hs, by rw [cell_of_block hl]; exact h.rs, by rw [cell_of_block hl]; exact h.gs,
    h.h.of_block hh, h.r.of_block hr, h.g.of_block hg, h.base, h.apart, Nat.lt_of_lt_of_le h.lt hs⟩
theorem Lat.to (h : Lat W0 lb hb rb gb n N fh fr fg w) (b : Below w.heap.size w w') : Lat W0 lb hb rb gb n N fh fr fg w' :=
  h.all (b.block _ h.lt) (b.block _ h.h.lt) (b.block _ h.r.lt) (b.block _ h.g.lt) b.size
theorem Lat.other (h : Lat W0 lb hb rb gb n N fh fr fg w) {a : Addr} (hl : lb ≠ a.block) (hh : hb ≠ a.block) (hr : rb ≠ a.block) (hg : gb ≠ a.block) (v : Value) : Lat W0 lb hb rb gb n N fh fr fg (w.setCell a v) :=
  h.all (blk_setCell_other _ _ _ _ hl) (blk_setCell_other _ _ _ _ hh) (blk_setCell_other _ _ _ _ hr) (blk_setCell_other _ _ _ _ hg) (by simp [World.setCell])
theorem Lat.setH (h : Lat W0 lb hb rb gb n N fh fr fg w) (k : Nat) (b : Bool) : Lat W0 lb hb rb gb n N (fun j => if j = k then b else fh j) fr fg (w.setCell ⟨hb, k, none⟩ (.bool b)) := by
  obtain ⟨a1, a2, a3, a4, a5, a6⟩ := h.apart
  have e := blk_setCell_other w ⟨hb, k, none⟩ (.bool b) lb a1
  refine ⟨by rw [cell_of_block e]; exact h.n, by rw [cell_of_block e]; exact h.hs, by rw [cell_of_block e]; exact h.rs, by rw [cell_of_block e]; exact h.gs, (h.h.set k (.bool b)).congr fun j _ => ?_,
    h.r.setOther (a := ⟨hb, k, none⟩) (Ne.symm a4) _, h.g.setOther (a := ⟨hb, k, none⟩) (Ne.symm a5) _, h.base, h.apart, by have := h.lt; simpa [World.setCell] using this⟩
  by_cases e : j = k <;> simp [e]
theorem Lat.setR (h : Lat W0 lb hb rb gb n N fh fr fg w) (k : Nat) (b : Bool) : Lat W0 lb hb rb gb n N fh (fun j => if j = k then b else fr j) fg (w.setCell ⟨rb, k, none⟩ (.bool b)) := by
  obtain ⟨a1, a2, a3, a4, a5, a6⟩ := h.apart
  have e := blk_setCell_other w ⟨rb, k, none⟩ (.bool b) lb a2
  refine ⟨by rw [cell_of_block e]; exact h.n, by rw [cell_of_block e]; exact h.hs, by rw [cell_of_block e]; exact h.rs, by rw [cell_of_block e]; exact h.gs, h.h.setOther (a := ⟨rb, k, none⟩) a4 _, (h.r.set k (.bool b)).congr fun j _ => ?_,
    h.g.setOther (a := ⟨rb, k, none⟩) (Ne.symm a6) _, h.base, h.apart, by have := h.lt; simpa [World.setCell] using this⟩
  by_cases e : j = k <;> simp [e]
theorem Lat.setG (h : Lat W0 lb hb rb gb n N fh fr fg w) (k : Nat) (b : Bool) : Lat W0 lb hb rb gb n N fh fr (fun j => if j = k then b else fg j) (w.setCell ⟨gb, k, none⟩ (.bool b)) := by
  obtain ⟨a1, a2, a3, a4, a5, a6⟩ := h.apart
  have e := blk_setCell_other w ⟨gb, k, none⟩ (.bool b) lb a3
  refine ⟨by rw [cell_of_block e]; exact h.n, by rw [cell_of_block e]; exact h.hs, by rw [cell_of_block e]; exact h.rs, by rw [cell_of_block e]; exact h.gs, h.h.setOther (a := ⟨gb, k, none⟩) a5 _, h.r.setOther (a := ⟨gb, k, none⟩) a6 _,
    (h.g.set k (.bool b)).congr fun j _ => ?_, h.base, h.apart, by have := h.lt; simpa [World.setCell] using this⟩
  by_cases e : j = k <;> simp [e]
theorem Lat.congr {fh' fr' fg' : Nat → Bool} (h : Lat W0 lb hb rb gb n N fh fr fg w) (e1 : ∀ j, j < N → fh j = fh' j) (e2 : ∀ j, j < N → fr j = fr' j) (e3 : ∀ j, j < N → fg j = fg' j) : Lat W0 lb hb rb gb n N fh' fr' fg' w :=
  ⟨h.n, h.hs, h.rs, h.gs, h.h.congr fun j hj => by rw [e1 j hj], h.r.congr fun j hj => by rw [e2 j hj], h.g.congr fun j hj => by rw [e3 j hj], h.base, h.apart, h.lt⟩
end
theorem alloc_get : ∀ (os : List Obj) (X : World) (k : Nat), (∀ j o, os[j]? = some o → (os.foldl World.alloc X).heap[X.heap.size + j]? = some o) ∧ (k < X.heap.size → (os.foldl World.alloc X).heap[k]? = X.heap[k]?) ∧ (os.foldl World.alloc X).heap.size = X.heap.size + os.length
  | [], X, k => ⟨fun j o h => by simp at h, fun _ => rfl, rfl⟩
  | o :: os, X, k => by
    have hz : (X.alloc o).heap.size = X.heap.size + 1 := by simp
    obtain ⟨-, -, i3⟩ := alloc_get os (X.alloc o) 0
    refine ⟨fun j u h => ?_, fun hk => ?_, ?_⟩
    · cases j with
      | zero =>
        have hu : o = u := by simpa using h
        subst hu
        rw [List.foldl_cons, Nat.add_zero, (alloc_get os (X.alloc o) X.heap.size).2.1 (by omega)]
        exact blk_alloc_new _ _
      | succ j =>
        have h2 := (alloc_get os (X.alloc o) 0).1 j u (by simpa using h)
        rw [hz] at h2
        rw [List.foldl_cons, show X.heap.size + (j + 1) = X.heap.size + 1 + j by omega]
        exact h2
    · rw [List.foldl_cons, (alloc_get os (X.alloc o) k).2.1 (by omega)]
      exact blk_alloc_lt _ _ _ hk
    · rw [List.foldl_cons, i3, hz, List.length_cons]; omega
theorem below_alloc {B : Nat} {W : World} : ∀ (os : List Obj) (X : World), Below B W X → B ≤ X.heap.size → Below B W (os.foldl World.alloc X)
  | [], _, h, _ => h
  | o :: os, X, h, hs => below_alloc os (X.alloc o) (h.alloc hs o) (by simp; omega)
/-- the lattice just made, in whatever order -/
theorem lat_case {W0 n N : Nat} {W X : World} (a b c d e : Nat) (os : List Obj) (hbel : Below W0 W X) (hs : W0 ≤ X.heap.size)
    (hl : os[d]? = some (.cells #[.int .i64 (n : Int), .slice (some ⟨X.heap.size + a, 0, none⟩) N N, .slice (some ⟨X.heap.size + b, 0, none⟩) N N, .slice (some ⟨X.heap.size + c, 0, none⟩) N N] 71))
    (ha : os[a]? = some (.cells (madeCells #[.bool false] N) 4)) (hb : os[b]? = some (.cells (madeCells #[.bool false] N) 4)) (hc : os[c]? = some (.cells (madeCells #[.bool false] N) 4))
    (hp : os[e]? = some (.cells #[.pointer (some ⟨X.heap.size + d, 0, none⟩)] 66)) (hne : [a, b, c, d, e].Nodup) :
    Hid (Below W0 W (os.foldl World.alloc X).drew) ∧ Hid (Lat W0 (X.heap.size + d) (X.heap.size + a) (X.heap.size + b) (X.heap.size + c) n N (fun _ => false) (fun _ => false) (fun _ => false) (os.foldl World.alloc X).drew) ∧
      Hid (W0 ≤ X.heap.size + e ∧ X.heap.size + e < (os.foldl World.alloc X).drew.heap.size ∧ X.heap.size + e ≠ X.heap.size + d ∧ X.heap.size + e ≠ X.heap.size + a ∧ X.heap.size + e ≠ X.heap.size + b ∧ X.heap.size + e ≠ X.heap.size + c ∧
        (os.foldl World.alloc X).drew.cell? ⟨X.heap.size + e, 0, none⟩ = some (.pointer (some ⟨X.heap.size + d, 0, none⟩))) := by
  have hg := fun j o h => (alloc_get os X 0).1 j o h
  have hz := (alloc_get os X 0).2.2
  have hY : (os.foldl World.alloc X).drew.heap = (os.foldl World.alloc X).heap := rfl
  have hd := (List.getElem?_eq_some_iff.1 hl).1
  have he := (List.getElem?_eq_some_iff.1 hp).1
  have hrow : ∀ j, os[j]? = some (.cells (madeCells #[.bool false] N) 4) → (os.foldl World.alloc X).drew.rowIs (X.heap.size + j) 4 N (fun _ => .bool false) := fun j hj =>
    ⟨_, (by rw [hY]; exact hg j _ hj), size_madeCells _ _, fun i hi => by simp [madeCells, hi, Nat.mod_one]⟩
  have hcell : ∀ j o i, os[j]? = some (.cells o 71) → (os.foldl World.alloc X).drew.cell? ⟨X.heap.size + j, i, none⟩ = o[i]? := fun j o i hj => by
    unfold World.cell?
    rw [hY, hg j _ hj]
    simp
  simp only [List.nodup_cons, List.mem_cons, List.not_mem_nil, or_false, not_or] at hne
  obtain ⟨⟨n1, n2, n3, n4⟩, ⟨n5, n6, n7⟩, ⟨n8, n9⟩, n10, -⟩ := hne
  refine ⟨hide (Below.drew (below_alloc os X hbel hs)), hide ⟨by rw [hcell d _ 0 hl]; rfl, by rw [hcell d _ 1 hl]; rfl, by rw [hcell d _ 2 hl]; rfl, by rw [hcell d _ 3 hl]; rfl, hrow a ha, hrow b hb, hrow c hc, by omega, by omega, by rw [hY, hz]; omega⟩,
    hide ⟨by omega, by rw [hY, hz]; omega, by omega, by omega, by omega, by omega, ?_⟩⟩
  unfold World.cell?
  rw [hY, hg e _ hp]
  rfl
end Go.Proofs.YtcdkhlndohokcaaGreatDoor
namespace Go.Proofs.YtcdkhlndohokcaaGreatDoor
open Go Go.RowKit Go.Maps Go.Deep

structure OfSt (W : World) (lb hb rb gb pv n N : Nat) (fh fr fg : Nat → Bool) (x : World) : Prop where
  bel : Below W.heap.size W x
  lat : Lat W.heap.size lb hb rb gb n N fh fr fg x
  pc : x.cell? ⟨pv, 0, none⟩ = some (.pointer (some ⟨lb, 0, none⟩))
  base : W.heap.size ≤ pv
  lt : pv < x.heap.size
  apart : pv ≠ lb ∧ pv ≠ hb ∧ pv ≠ rb ∧ pv ≠ gb
structure ImSt (W : World) (lb hb rb gb pv ib n N : Nat) (fh fr fg : Nat → Bool) (fi : Nat → Int) (x : World) : Prop where
  st : OfSt W lb hb rb gb pv n N fh fr fg x
  row : x.rowIs ib 3 N (fun j => .int .i64 (fi j))
  base : W.heap.size ≤ ib
  apart : ib ≠ lb ∧ ib ≠ hb ∧ ib ≠ rb ∧ ib ≠ gb ∧ ib ≠ pv
section
variable {W : World} {lb hb rb gb pv ib n N : Nat} {fh fr fg : Nat → Bool} {fi : Nat → Int} {x y : World}
theorem OfSt.to (h : OfSt W lb hb rb gb pv n N fh fr fg x) (b : Below x.heap.size x y) : OfSt W lb hb rb gb pv n N fh fr fg y :=
  ⟨h.bel.trans (b.mono h.bel.size), h.lat.to b, (b.cell h.lt).trans h.pc, h.base, Nat.lt_of_lt_of_le h.lt b.size, h.apart⟩
theorem OfSt.lts (h : OfSt W lb hb rb gb pv n N fh fr fg x) : lb < x.heap.size ∧ hb < x.heap.size ∧ rb < x.heap.size ∧ gb < x.heap.size ∧ pv < x.heap.size := ⟨h.lat.lt, h.lat.h.lt, h.lat.r.lt, h.lat.g.lt, h.lt⟩
theorem OfSt.other (h : OfSt W lb hb rb gb pv n N fh fr fg x) {b i : Nat} (hb0 : W.heap.size ≤ b) (h1 : b ≠ lb) (h2 : b ≠ hb) (h3 : b ≠ rb) (h4 : b ≠ gb) (h5 : b ≠ pv) (v : Value) : OfSt W lb hb rb gb pv n N fh fr fg (x.setCell ⟨b, i, none⟩ v) :=
  ⟨h.bel.setCell hb0 _, h.lat.other (Ne.symm h1) (Ne.symm h2) (Ne.symm h3) (Ne.symm h4) _, (cell_of_block (blk_setCell_other _ ⟨b, i, none⟩ _ _ (Ne.symm h5)) 0).trans h.pc, h.base, by have := h.lt; simpa [World.setCell] using this, h.apart⟩
theorem OfSt.setH (h : OfSt W lb hb rb gb pv n N fh fr fg x) (k : Nat) (b : Bool) : OfSt W lb hb rb gb pv n N (fun j => if j = k then b else fh j) fr fg (x.setCell ⟨hb, k, none⟩ (.bool b)) :=
  ⟨h.bel.setCell h.lat.base.2.1 _, h.lat.setH k b, (cell_of_block (blk_setCell_other _ ⟨hb, k, none⟩ _ _ h.apart.2.1) 0).trans h.pc, h.base, by have := h.lt; simpa [World.setCell] using this, h.apart⟩
theorem OfSt.setR (h : OfSt W lb hb rb gb pv n N fh fr fg x) (k : Nat) (b : Bool) : OfSt W lb hb rb gb pv n N fh (fun j => if j = k then b else fr j) fg (x.setCell ⟨rb, k, none⟩ (.bool b)) :=
  ⟨h.bel.setCell h.lat.base.2.2.1 _, h.lat.setR k b, (cell_of_block (blk_setCell_other _ ⟨rb, k, none⟩ _ _ h.apart.2.2.1) 0).trans h.pc, h.base, by have := h.lt; simpa [World.setCell] using this, h.apart⟩
theorem OfSt.setG (h : OfSt W lb hb rb gb pv n N fh fr fg x) (k : Nat) (b : Bool) : OfSt W lb hb rb gb pv n N fh fr (fun j => if j = k then b else fg j) (x.setCell ⟨gb, k, none⟩ (.bool b)) :=
  ⟨h.bel.setCell h.lat.base.2.2.2 _, h.lat.setG k b, (cell_of_block (blk_setCell_other _ ⟨gb, k, none⟩ _ _ h.apart.2.2.2) 0).trans h.pc, h.base, by have := h.lt; simpa [World.setCell] using this, h.apart⟩
theorem OfSt.congr {fh' fr' fg' : Nat → Bool} (h : OfSt W lb hb rb gb pv n N fh fr fg x) (e1 : ∀ j, j < N → fh j = fh' j) (e2 : ∀ j, j < N → fr j = fr' j) (e3 : ∀ j, j < N → fg j = fg' j) : OfSt W lb hb rb gb pv n N fh' fr' fg' x :=
  ⟨h.bel, h.lat.congr e1 e2 e3, h.pc, h.base, h.lt, h.apart⟩
theorem OfSt.hAt (h : OfSt W lb hb rb gb pv n N fh fr fg x) {j : Nat} (hj : j < N) : x.cell? ⟨hb, j, none⟩ = some (.bool (fh j)) := h.lat.h.cell hj
theorem OfSt.rAt (h : OfSt W lb hb rb gb pv n N fh fr fg x) {j : Nat} (hj : j < N) : x.cell? ⟨rb, j, none⟩ = some (.bool (fr j)) := h.lat.r.cell hj
theorem OfSt.gAt (h : OfSt W lb hb rb gb pv n N fh fr fg x) {j : Nat} (hj : j < N) : x.cell? ⟨gb, j, none⟩ = some (.bool (fg j)) := h.lat.g.cell hj
theorem ImSt.to (h : ImSt W lb hb rb gb pv ib n N fh fr fg fi x) (b : Below x.heap.size x y) : ImSt W lb hb rb gb pv ib n N fh fr fg fi y :=
  ⟨h.st.to b, h.row.of_block (b.block _ h.row.lt), h.base, h.apart⟩
theorem ImSt.setI (h : ImSt W lb hb rb gb pv ib n N fh fr fg fi x) (k : Nat) (v : Int) : ImSt W lb hb rb gb pv ib n N fh fr fg (fun j => if j = k then v else fi j) (x.setCell ⟨ib, k, none⟩ (.int .i64 v)) := by
  obtain ⟨a1, a2, a3, a4, a5⟩ := h.apart
  exact ⟨h.st.other h.base a1 a2 a3 a4 a5 _, (h.row.set k (.int .i64 v)).congr fun j _ => by by_cases e : j = k <;> simp [e], h.base, h.apart⟩
theorem ImSt.setH (h : ImSt W lb hb rb gb pv ib n N fh fr fg fi x) (k : Nat) (b : Bool) : ImSt W lb hb rb gb pv ib n N (fun j => if j = k then b else fh j) fr fg fi (x.setCell ⟨hb, k, none⟩ (.bool b)) :=
  ⟨h.st.setH k b, h.row.setOther (a := ⟨hb, k, none⟩) h.apart.2.1 _, h.base, h.apart⟩
theorem ImSt.congr {fh' fr' fg' : Nat → Bool} {fi' : Nat → Int} (h : ImSt W lb hb rb gb pv ib n N fh fr fg fi x) (e1 : ∀ j, j < N → fh j = fh' j) (e2 : ∀ j, j < N → fr j = fr' j) (e3 : ∀ j, j < N → fg j = fg' j) (e4 : ∀ j, j < N → fi j = fi' j) :
    ImSt W lb hb rb gb pv ib n N fh' fr' fg' fi' x := ⟨h.st.congr e1 e2 e3, h.row.congr fun j hj => by rw [e4 j hj], h.base, h.apart⟩
theorem ImSt.iAt (h : ImSt W lb hb rb gb pv ib n N fh fr fg fi x) {j : Nat} (hj : j < N) : x.cell? ⟨ib, j, none⟩ = some (.int .i64 (fi j)) := h.row.cell hj
theorem ImSt.iFz (h : ImSt W lb hb rb gb pv ib n N fh fr fg fi x) (j : Nat) : x.frozen? ⟨ib, j, none⟩ = false := h.row.frozen j
end
theorem OfSt.count {W : World} {lb hb rb gb pv n N : Nat} {fh fr fg : Nat → Bool} {x : World} (h : OfSt W lb hb rb gb pv n N fh fr fg x) (v : Int) :
    (x.alloc (.cells #[.int .i64 v] 3)).cell? ⟨x.heap.size, 0, none⟩ = some (.int .i64 v) ∧
    Hid ((x.alloc (.cells #[.int .i64 v] 3)).frozen? ⟨x.heap.size, 0, none⟩ = false ∧ x.heap.size < (x.alloc (.cells #[.int .i64 v] 3)).heap.size ∧ W.heap.size ≤ x.heap.size ∧ x.heap.size ≠ lb ∧ x.heap.size ≠ hb ∧ x.heap.size ≠ rb ∧ x.heap.size ≠ gb ∧ x.heap.size ≠ pv) ∧
    Hid (OfSt W lb hb rb gb pv n N fh fr fg (x.alloc (.cells #[.int .i64 v] 3))) := by
  have hr := World.rowIs_alloc x #[.int .i64 v] 3 (fun _ => .int .i64 v) (fun i hi => by
    have : i = 0 := by simpa using hi
    subst this; rfl)
  obtain ⟨h1, h2, h3, h4, h5⟩ := h.lts
  exact ⟨hr.cell (by simp), hide ⟨hr.frozen 0, by simp, h.bel.size, by omega, by omega, by omega, by omega, by omega⟩, hide (h.to ((Below.refl _ _).alloc (Nat.le_refl _) _))⟩
/-- the states of the first k jobs have their imbalances -/
def ImUp (I : Int) (cs : List Int) (fi : Nat → Int) (m : Nat) : Prop := ∀ j, j < m → fi j = imbAt I cs j
theorem ImUp.next {I : Int} {cs : List Int} {fi : Nat → Int} {i st : Nat} (hi : i < cs.length) (hst : st < 2 ^ i) (h : ImUp I cs fi (2 ^ i + st)) : ImUp I cs (fun j => if j = st + 2 ^ i then fi st + cs.getD i 0 else fi j) (2 ^ i + (st + 1)) := by
  intro j hj
  by_cases e : j = st + 2 ^ i
  · subst e
    simp only [if_true]
    rw [imb_add hi (bit_lt (n := i) hst (Nat.le_refl _)), h st (by omega)]
  · simp only [if_neg e]
    exact h j (by omega)
theorem shl_small {n : Nat} (h : n ≤ 40) : IntKind.i64.wrap ((2 : Int) ^ n) = ((2 ^ n : Nat) : Int) := shl_one h
theorem or_state {st i : Nat} (hi : i ≤ 40) (hst : st < 2 ^ i) : bits .or .i64 (st : Int) ((2 ^ i : Nat) : Int) = ((st + 2 ^ i : Nat) : Int) := by
  have h2 : 2 ^ i ≤ 2 ^ 40 := Nat.pow_le_pow_right (by decide) hi
  rw [or_i64 st (2 ^ i) (by omega) (by omega), or_bit (bit_lt (n := i) hst (Nat.le_refl _))]
/-- what is counted down in a cell: the number there and one more -/
def cntAt (v : Value) (w : World) : Nat := match v with
  | .pointer (some p) => (match w.cell? p with | some (.int _ n) => (n + 1).toNat | _ => 0)
  | _ => 0
theorem cntAt_eq {w : World} {p : Addr} {k : IntKind} {n : Int} (h : w.cell? p = some (.int k n)) : cntAt (.pointer (some p)) w = (n + 1).toNat := by
  unfold cntAt; simp only [h]
end Go.Proofs.YtcdkhlndohokcaaGreatDoor
namespace Go.Proofs.YtcdkhlndohokcaaGreatDoor
open Go Go.RowKit Go.Maps Go.Deep

theorem infoBool : (Tryz.prog.info? 4).map (fun i => (i.zero, i.size, i.bytes)) = some (some (.bool false), 1, 1) := by kernel_rfl
set_option maxRecDepth 100000 in
set_option maxHeartbeats 2000000 in
theorem of_bad (s : SetD) (sok : s.ok) (A : Option Addr) (cap : Nat) (l : List JobD) (hok : ∀ x ∈ l, x.ok) (w : World) (B : Nat) (hB : B ≤ w.heap.size) (sat : SetD.at_ w B s) (hat : SlAt w B 3 JobD.cells ⟨A, cap, l⟩) (hbad : (setOk s && jobsOk l) = false) :
    Calls Tryz.prog 27 #[.agg #[.string s.name, .int .i64 s.depth, .int .i64 s.low, .int .i64 s.high, .int .i64 s.length, .slice s.lines.A s.lines.l.length s.lines.cap, .int .i64 s.pipe, .int .i64 s.arbor, .int .i64 s.purchase, .int .i64 s.most, .int .i64 s.brake, .slice s.items.A s.items.l.length s.items.cap, .slice s.bricks.A s.bricks.l.length s.bricks.cap], .slice A l.length cap] w (Gives w (.tuple #[.pointer none, .int .i64 1])) := by
  obtain ⟨W, hW, hWs, hWb, hWh⟩ := boxed w (.cells #[.string s.name, .int .i64 s.depth, .int .i64 s.low, .int .i64 s.high, .int .i64 s.length, .slice s.lines.A s.lines.l.length s.lines.cap, .int .i64 s.pipe, .int .i64 s.arbor, .int .i64 s.purchase, .int .i64 s.most, .int .i64 s.brake, .slice s.items.A s.items.l.length s.items.cap, .slice s.bricks.A s.bricks.l.length s.bricks.cap] 26)
  have hc := fun y : After W.heap.size W => SetD.boxed hWh (by omega) y
  have hc0 := hc (After.refl _ _)
  simp only [After.refl] at hc0
  have hbd : ∀ y : After W.heap.size W, Below w.heap.size w y.val := fun y => hWb.trans (y.below.mono (by omega))
  have sat2 := sat.to (hWb.mono hB) (show B ≤ W.heap.size by omega)
  have hat2 := hat.to (hWb.mono hB) (show B ≤ W.heap.size by omega)
  have KV := hide (Gives.first (battenValid_any s sok W W.heap.size (Nat.le_refl _) sat2))
  have KJ := hide (fun y : After W.heap.size W => Gives.after (x := y) (Nat.le_refl _) (brakeValid_any A cap l hok y.val W.heap.size y.size (hat2.to y.below (Nat.le_refl _))))
  have HBD := hide hbd
  have HW := hide hW
  clear hW hWh hWb hbd sat sat2 hat hat2 hok sok hWs
  cases hv : setOk s
  · rw [hv] at KV
    clear hbad hv
    go_enter Tryz.func27, Tryz.ntmps27
    go_upto_region 1 with fail
    rw [← HW.out]
    go_wp2_with (go_at_call 36; refine KV.out.mono ?_; rintro e w' ⟨rfl, y, rfl⟩)
    go_ret2
    exact Gives.mk rfl (HBD.out y)
  · have hj : jobsOk l = false := by rw [hv] at hbad; simpa using hbad
    rw [hv] at KV
    rw [hj] at KJ
    clear hbad hv hj
    go_enter Tryz.func27, Tryz.ntmps27
    go_upto_region 1 with fail
    rw [← HW.out]
    go_wp2_with (first
      | (go_at_call 36; refine KV.out.mono ?_; rintro e w' ⟨rfl, y, rfl⟩)
      | (go_at_call 34; refine (KJ.out y).mono ?_; rintro e w' ⟨rfl, y2, rfl⟩))
    go_ret2
    exact Gives.mk rfl (HBD.out y2)
/-- what `of` gives -/
def OfPost (w : World) (s : SetD) (l : List JobD) (e : Ending) (w' : World) : Prop :=
  Below w.heap.size w w' ∧ ∃ lb hb rb gb, e = .returned (.tuple #[.pointer (some ⟨lb, 0, none⟩), .int .i64 0]) ∧ Lat w.heap.size lb hb rb gb l.length (2 ^ l.length) (heldSt s l) (rchB (heldSt s l) l.length) (ldsB (heldSt s l) l.length) w'
set_option maxRecDepth 100000 in
set_option maxHeartbeats 8000000 in
theorem of_good (s : SetD) (sok : s.ok) (A : Option Addr) (cap : Nat) (l : List JobD) (hok : ∀ x ∈ l, x.ok) (w : World) (B : Nat) (hB : B ≤ w.heap.size) (sat : SetD.at_ w B s) (hat : SlAt w B 3 JobD.cells ⟨A, cap, l⟩) (hv : setOk s = true) (hj : jobsOk l = true) (hlen : l.length ≤ 12) :
    Calls Tryz.prog 27 #[.agg #[.string s.name, .int .i64 s.depth, .int .i64 s.low, .int .i64 s.high, .int .i64 s.length, .slice s.lines.A s.lines.l.length s.lines.cap, .int .i64 s.pipe, .int .i64 s.arbor, .int .i64 s.purchase, .int .i64 s.most, .int .i64 s.brake, .slice s.items.A s.items.l.length s.items.cap, .slice s.bricks.A s.bricks.l.length s.bricks.cap], .slice A l.length cap] w (OfPost w s l) := by
  obtain ⟨W, hW, hWs, hWb, hWh⟩ := boxed w (.cells #[.string s.name, .int .i64 s.depth, .int .i64 s.low, .int .i64 s.high, .int .i64 s.length, .slice s.lines.A s.lines.l.length s.lines.cap, .int .i64 s.pipe, .int .i64 s.arbor, .int .i64 s.purchase, .int .i64 s.most, .int .i64 s.brake, .slice s.items.A s.items.l.length s.items.cap, .slice s.bricks.A s.bricks.l.length s.bricks.cap] 26)
  have hc := fun y : After W.heap.size W => SetD.boxed hWh (by omega) y
  have hc0 := hc (After.refl _ _)
  simp only [After.refl] at hc0
  have hbd : ∀ y : After W.heap.size W, Below w.heap.size w y.val := fun y => hWb.trans (y.below.mono (by omega))
  have hWw : w.heap.size < W.heap.size := by omega
  have sat2 := sat.to (hWb.mono hB) (show B ≤ W.heap.size by omega)
  have hat2 := hat.to (hWb.mono hB) (show B ≤ W.heap.size by omega)
  have KV := hide (Gives.first (battenValid_any s sok W W.heap.size (Nat.le_refl _) sat2))
  have KJ := hide (fun y : After W.heap.size W => Gives.after (x := y) (Nat.le_refl _) (brakeValid_any A cap l hok y.val W.heap.size y.size (hat2.to y.below (Nat.le_refl _))))
  have KS := hide (fun y : After W.heap.size W => Gives.after (x := y) (Nat.le_refl _) (state_any s sok y.val W.heap.size y.size (sat2.to y.below (Nat.le_refl _))))
  have hjn := (job_nums hj).2
  have KC := hide (fun (x : JobD) (hx : x ∈ l) (y : After W.heap.size W) => (bigChange_any s x sok (hok x hx) hv (by unfold jobFine betweenB; obtain ⟨a, b, c⟩ := hjn x hx; simp [a, b, c]) y.val W.heap.size y.size (sat2.to y.below (Nat.le_refl _))))
  rw [hv] at KV
  rw [hj] at KJ
  rw [numOr_yes hv] at KS
  obtain ⟨hb0, hb1, -⟩ := bal_small hv
  have hcs : ∀ x ∈ csE s l, -2097152 ≤ x ∧ x ≤ 2097152 := fun x hx => by
    obtain ⟨j, hjm, rfl⟩ := List.mem_map.1 hx
    exact chg_small hv (hjn j hjm).2.1 (hjn j hjm).2.2
  have hcl : (csE s l).length = l.length := csE_len s l
  have himb : ∀ st, -5000000000 ≤ imbAt (balE s) (csE s l) st ∧ imbAt (balE s) (csE s l) st ≤ 5000000000 := fun st => by
    have := imb_small (I := balE s) (K := 2097152) (by omega) hcs st
    rw [hcl] at this
    omega
  have HIMB := hide himb
  have HCS := hide hcs
  have HCL := hide hcl
  obtain ⟨hq1, hq2⟩ : (0 ≤ s.brake ∧ s.brake ≤ 67108864) := by obtain ⟨-, -, -, -, h5, -⟩ := set_nums hv; exact h5
  have HAT := hide hat2
  have HBD := hide hbd
  have HW := hide hW
  have hm1 : l.length ≤ cap := hat.1
  have hm2 : cap ≤ 9223372036854775807 := hat.2.1
  clear hW hWh hWb hbd sat sat2 hat hat2 hok sok hWs hjn hcs hcl himb hv hj
  obtain ⟨n, hn⟩ : ∃ n, n = l.length := ⟨_, rfl⟩
  obtain ⟨N, hN⟩ : ∃ N, N = 2 ^ n := ⟨_, rfl⟩
  have hN1 : 1 ≤ N := by rw [hN]; exact Nat.two_pow_pos n
  have hN2 : N ≤ 4096 := by rw [hN]; exact Nat.pow_le_pow_right (show 0 < 2 by decide) (show n ≤ 12 by omega)
  have hshl := shl_one (n := n) (by omega)
  rw [← hN] at hshl
  have HMKB := hide (fun v : World => run_make_row' (P := Tryz.prog) 69 4 (.bool false) 1 Tryz.underlying69 infoBool rfl .i64 .i64 N (by omega) (by omega) v)
  have HMKI := hide (fun v : World => run_make_row' (P := Tryz.prog) 22 3 (.int .i64 0) 8 Tryz.underlying22 infoI rfl .i64 .i64 N (by omega) (by omega) v)
  have HSHL := hide hshl
  clear hshl
  have HN := hide hN
  have HNL := hide hn
  obtain ⟨I, hI⟩ : ∃ I, I = balE s := ⟨_, rfl⟩
  have HI := hide hI
  rw [← hI] at KS hb0 hb1
  rw [← hn] at KJ hlen hm1 ⊢
  have hn0 : (0 : Int) ≤ (n : Int) := by omega
  have hn1 : (n : Int) ≤ 12 := by omega
  clear hN hn hI
  go_enter Tryz.func27, Tryz.ntmps27
  go_upto_region 1 with fail
  rw [← HW.out]
  go_upto_region 9 with (first
    | (go_at_call 36; refine KV.out.mono ?_; rintro e w' ⟨rfl, y, rfl⟩; have hcy := hc y)
    | (go_at_call 34; refine (KJ.out y).mono ?_; rintro e w' ⟨rfl, y2, rfl⟩; have hcy2 := hc y2)
    | (go_at_call 53; refine (KS.out y2).mono ?_; rintro e w' ⟨rfl, y3, rfl⟩; have hcy3 := hc y3))
  clear hcy hcy2 hcy3 hc0
  go_cut [9] (fun a wx => ∃ lb hb rb gb pv, a = .pointer (some ⟨pv, 0, none⟩) ∧ Hid (Below W.heap.size W wx) ∧ Hid (Lat W.heap.size lb hb rb gb n N (fun _ => false) (fun _ => false) (fun _ => false) wx) ∧ Hid (W.heap.size ≤ pv ∧ pv < wx.heap.size ∧ pv ≠ lb ∧ pv ≠ hb ∧ pv ≠ rb ∧ pv ≠ gb ∧ wx.cell? ⟨pv, 0, none⟩ = some (.pointer (some ⟨lb, 0, none⟩))))
  case first =>
    have HYS := hide (And.intro y3.below y3.size)
    have HWW := hide hWw
    clear HIMB HCS HCL HAT HBD HNL HI KV KJ KS KC hc hb0 hb1 hq1 hq2 hm1 hm2 hWw HN HW
    have hmkB := HMKB.out
    have hshl := HSHL.out
    obtain ⟨X, hX⟩ : ∃ X, X = y3.val := ⟨_, rfl⟩
    rw [← hX] at HYS ⊢
    clear hX
    go_region
    · go_wp2_with fail
      go_meet
      exact ⟨_, _, _, _, _, rfl, lat_case 0 1 2 3 4 [_, _, _, _, _] HYS.out.1 HYS.out.2 rfl rfl rfl rfl rfl (by decide)⟩
    · go_wp2_with fail
      go_meet
      exact ⟨_, _, _, _, _, rfl, lat_case 0 1 2 4 3 [_, _, _, _, _] HYS.out.1 HYS.out.2 rfl rfl rfl rfl rfl (by decide)⟩
    · go_wp2_with fail
      go_meet
      exact ⟨_, _, _, _, _, rfl, lat_case 0 1 3 4 2 [_, _, _, _, _] HYS.out.1 HYS.out.2 rfl rfl rfl rfl rfl (by decide)⟩
    · go_wp2_with fail
      go_meet
      exact ⟨_, _, _, _, _, rfl, lat_case 0 2 1 3 4 [_, _, _, _, _] HYS.out.1 HYS.out.2 rfl rfl rfl rfl rfl (by decide)⟩
    · go_wp2_with fail
      go_meet
      exact ⟨_, _, _, _, _, rfl, lat_case 0 2 1 4 3 [_, _, _, _, _] HYS.out.1 HYS.out.2 rfl rfl rfl rfl rfl (by decide)⟩
    · go_wp2_with fail
      go_meet
      exact ⟨_, _, _, _, _, rfl, lat_case 0 3 1 4 2 [_, _, _, _, _] HYS.out.1 HYS.out.2 rfl rfl rfl rfl rfl (by decide)⟩
    · go_wp2_with fail
      go_meet
      exact ⟨_, _, _, _, _, rfl, lat_case 0 2 3 4 1 [_, _, _, _, _] HYS.out.1 HYS.out.2 rfl rfl rfl rfl rfl (by decide)⟩
    · go_wp2_with fail
      go_meet
      exact ⟨_, _, _, _, _, rfl, lat_case 0 3 2 4 1 [_, _, _, _, _] HYS.out.1 HYS.out.2 rfl rfl rfl rfl rfl (by decide)⟩
    · go_wp2_with fail
      go_meet
      exact ⟨_, _, _, _, _, rfl, lat_case 1 0 2 3 4 [_, _, _, _, _] HYS.out.1 HYS.out.2 rfl rfl rfl rfl rfl (by decide)⟩
    · go_wp2_with fail
      go_meet
      exact ⟨_, _, _, _, _, rfl, lat_case 1 0 2 4 3 [_, _, _, _, _] HYS.out.1 HYS.out.2 rfl rfl rfl rfl rfl (by decide)⟩
    · go_wp2_with fail
      go_meet
      exact ⟨_, _, _, _, _, rfl, lat_case 1 0 3 4 2 [_, _, _, _, _] HYS.out.1 HYS.out.2 rfl rfl rfl rfl rfl (by decide)⟩
    · go_wp2_with fail
      go_meet
      exact ⟨_, _, _, _, _, rfl, lat_case 2 0 1 3 4 [_, _, _, _, _] HYS.out.1 HYS.out.2 rfl rfl rfl rfl rfl (by decide)⟩
    · go_wp2_with fail
      go_meet
      exact ⟨_, _, _, _, _, rfl, lat_case 2 0 1 4 3 [_, _, _, _, _] HYS.out.1 HYS.out.2 rfl rfl rfl rfl rfl (by decide)⟩
    · go_wp2_with fail
      go_meet
      exact ⟨_, _, _, _, _, rfl, lat_case 3 0 1 4 2 [_, _, _, _, _] HYS.out.1 HYS.out.2 rfl rfl rfl rfl rfl (by decide)⟩
    · go_wp2_with fail
      go_meet
      exact ⟨_, _, _, _, _, rfl, lat_case 2 0 3 4 1 [_, _, _, _, _] HYS.out.1 HYS.out.2 rfl rfl rfl rfl rfl (by decide)⟩
    · go_wp2_with fail
      go_meet
      exact ⟨_, _, _, _, _, rfl, lat_case 3 0 2 4 1 [_, _, _, _, _] HYS.out.1 HYS.out.2 rfl rfl rfl rfl rfl (by decide)⟩
    · go_wp2_with fail
      go_meet
      exact ⟨_, _, _, _, _, rfl, lat_case 1 2 0 3 4 [_, _, _, _, _] HYS.out.1 HYS.out.2 rfl rfl rfl rfl rfl (by decide)⟩
    · go_wp2_with fail
      go_meet
      exact ⟨_, _, _, _, _, rfl, lat_case 1 2 0 4 3 [_, _, _, _, _] HYS.out.1 HYS.out.2 rfl rfl rfl rfl rfl (by decide)⟩
    · go_wp2_with fail
      go_meet
      exact ⟨_, _, _, _, _, rfl, lat_case 1 3 0 4 2 [_, _, _, _, _] HYS.out.1 HYS.out.2 rfl rfl rfl rfl rfl (by decide)⟩
    · go_wp2_with fail
      go_meet
      exact ⟨_, _, _, _, _, rfl, lat_case 2 1 0 3 4 [_, _, _, _, _] HYS.out.1 HYS.out.2 rfl rfl rfl rfl rfl (by decide)⟩
    · go_wp2_with fail
      go_meet
      exact ⟨_, _, _, _, _, rfl, lat_case 2 1 0 4 3 [_, _, _, _, _] HYS.out.1 HYS.out.2 rfl rfl rfl rfl rfl (by decide)⟩
    · go_wp2_with fail
      go_meet
      exact ⟨_, _, _, _, _, rfl, lat_case 3 1 0 4 2 [_, _, _, _, _] HYS.out.1 HYS.out.2 rfl rfl rfl rfl rfl (by decide)⟩
    · go_wp2_with fail
      go_meet
      exact ⟨_, _, _, _, _, rfl, lat_case 2 3 0 4 1 [_, _, _, _, _] HYS.out.1 HYS.out.2 rfl rfl rfl rfl rfl (by decide)⟩
    · go_wp2_with fail
      go_meet
      exact ⟨_, _, _, _, _, rfl, lat_case 3 2 0 4 1 [_, _, _, _, _] HYS.out.1 HYS.out.2 rfl rfl rfl rfl rfl (by decide)⟩
    · go_wp2_with fail
      go_meet
      exact ⟨_, _, _, _, _, rfl, lat_case 1 2 3 4 0 [_, _, _, _, _] HYS.out.1 HYS.out.2 rfl rfl rfl rfl rfl (by decide)⟩
    · go_wp2_with fail
      go_meet
      exact ⟨_, _, _, _, _, rfl, lat_case 1 3 2 4 0 [_, _, _, _, _] HYS.out.1 HYS.out.2 rfl rfl rfl rfl rfl (by decide)⟩
    · go_wp2_with fail
      go_meet
      exact ⟨_, _, _, _, _, rfl, lat_case 2 1 3 4 0 [_, _, _, _, _] HYS.out.1 HYS.out.2 rfl rfl rfl rfl rfl (by decide)⟩
    · go_wp2_with fail
      go_meet
      exact ⟨_, _, _, _, _, rfl, lat_case 3 1 2 4 0 [_, _, _, _, _] HYS.out.1 HYS.out.2 rfl rfl rfl rfl rfl (by decide)⟩
    · go_wp2_with fail
      go_meet
      exact ⟨_, _, _, _, _, rfl, lat_case 2 3 1 4 0 [_, _, _, _, _] HYS.out.1 HYS.out.2 rfl rfl rfl rfl rfl (by decide)⟩
    · go_wp2_with fail
      go_meet
      exact ⟨_, _, _, _, _, rfl, lat_case 3 2 1 4 0 [_, _, _, _, _] HYS.out.1 HYS.out.2 rfl rfl rfl rfl rfl (by decide)⟩
  case rest =>
    obtain ⟨lb, hb, rb, gb, pv, rfl, hbel, hlat, hpv⟩ := hcut
    obtain ⟨p1, p2, p3, p4, p5, p6, p7⟩ := hpv.out
    have hst0 : OfSt W lb hb rb gb pv n N (fun _ => false) (fun _ => false) (fun _ => false) wc := ⟨hbel.out, hlat.out, p7, p1, p2, p3, p4, p5, p6⟩
    obtain ⟨q1, q2, q3, q4, q5⟩ := hst0.lts
    have him0 : ImSt W lb hb rb gb pv wc.heap.size n N (fun _ => false) (fun _ => false) (fun _ => false) (fun _ => 0) (wc.alloc (.cells (madeCells #[.int .i64 0] N) 3)) :=
      ⟨hst0.to ((Below.refl _ _).alloc (Nat.le_refl _) _), World.rowIs_made _ _ _ _, hbel.out.size, by omega, by omega, by omega, by omega, by omega⟩
    have him1 := him0.setI 0 I
    have hfz0 := And.intro (him0.iFz 0) (him0.iAt (show 0 < N by omega))
    have HIM1 := hide him1
    obtain ⟨CS, hCS⟩ : ∃ CS, CS = csE s l := ⟨_, rfl⟩
    have HCS2 := hide hCS
    rw [← hCS] at HCL HIMB
    rw [← HI.out] at HIMB
    have hmkI := HMKI.out
    have hshlI := HSHL.out
    clear hbel hlat hpv p1 p2 p3 p4 p5 p6 p7 hst0 him0 him1 q1 q2 q3 q4 q5 hCS
    obtain ⟨ib, hib⟩ : ∃ ib, ib = wc.heap.size := ⟨_, rfl⟩
    have hibN := hide hib
    rw [← hib] at HIM1 hfz0
    go_upto_region 11 with fail
    rw [← hib]
    clear hib hmkI hshlI
    go_wp2_with fail
    go_loopw [63] (fun v wr => ∃ k : Nat, v = .int .i64 k ∧ k ≤ n ∧ Hid (∃ fi, ImSt W lb hb rb gb pv ib n N (fun _ => false) (fun _ => false) (fun _ => false) fi wr ∧ ImUp I CS fi (2 ^ k))) (fun v _ => n - (intOf v).toNat)
    case atStart => exact ⟨0, rfl, Nat.zero_le _, hide ⟨_, HIM1.out, fun j hj => by
      have : j = 0 := by simpa using hj
      subst this
      simp [imb_zero]⟩⟩
    case round =>
      obtain ⟨k, rfl, hk, hst⟩ := hrel
      by_cases hlt : k < n
      · obtain ⟨fi0, hst0, hup0⟩ := hst.out
        have hkl : k < l.length := by have := HNL.out; omega
        obtain ⟨b, off, hA, hb', hcell⟩ := HAT.out.2.2 (show 0 < l.length by omega)
        simp only at hA
        subst hA
        obtain ⟨x, hx⟩ : ∃ x, l[k]? = some x := ⟨l[k], List.getElem?_eq_getElem hkl⟩
        have he := JobD.elem hx hb' hcell ⟨wr, hst0.st.bel⟩
        simp only at he
        have hch : CS.getD k 0 = chgE s x := by rw [HCS2.out, csE, List.getD, List.getElem?_map, hx]; rfl
        have hkc : k < CS.length := by rw [HCL.out]; exact hkl
        obtain ⟨V, hV, hVs, hVb, hVh⟩ := boxed wr (.cells #[.string x.name, .bool x.pipe, .int .i64 x.weight] 37)
        have hcV := JobD.boxed hVh (by omega) (After.refl V.heap.size V)
        simp only [After.refl] at hcV
        have hstV := hst0.to hVb
        have hcV2 := hc ⟨V, hstV.st.bel⟩
        simp only at hcV2
        have KCX := hide (Gives.first (KC.out x (List.mem_of_getElem? hx) ⟨V, hstV.st.bel⟩))
        simp only at KCX
        obtain ⟨ch, hchE⟩ : ∃ ch, ch = chgE s x := ⟨_, rfl⟩
        have hchb := HCS.out ch (by rw [hchE]; exact List.mem_map.2 ⟨x, List.mem_of_getElem? hx, rfl⟩)
        rw [← hchE] at KCX hch
        have HV := hide hV
        have HSTV := hide (fun y : After V.heap.size V => hstV.to y.below)
        have HUP := hide hup0
        have HCH := hide hch
        have HKC := hide hkc
        obtain ⟨q, hq⟩ : ∃ q, q = 2 ^ k := ⟨_, rfl⟩
        have hqN : q + q ≤ N := by
          have h1 := Nat.pow_le_pow_right (show 0 < 2 by decide) (show k + 1 ≤ n by omega)
          rw [Nat.pow_succ] at h1
          have := HN.out
          omega
        have hq0 : 0 < q := by rw [hq]; exact Nat.two_pow_pos k
        have hshk := shl_one (n := k) (by omega)
        have hor := fun st : Nat => or_state (i := k) (st := st) (by omega)
        rw [← hq] at hshk hor
        have HQ := hide hq
        have HOR := hide hor
        have hk0 : (0 : Int) ≤ (k : Int) := by omega
        have hk1 : (k : Int) ≤ 64 := by omega
        clear hcell hx hV hVb hVh hVs hstV hchE hch hkc hup0 hst hst0 hq hor
        go_upto_region 15 with fail
        rw [← HV.out]
        go_wp2_with (go_at_call 54; refine KCX.out.mono ?_; rintro e w' ⟨rfl, z, rfl⟩)
        clear hcV hcV2 he
        go_loopw [79] (fun v wr => ∃ st : Nat, v = .int .i64 st ∧ st ≤ q ∧ Hid (∃ fi, ImSt W lb hb rb gb pv ib n N (fun _ => false) (fun _ => false) (fun _ => false) fi wr ∧ ImUp I CS fi (q + st))) (fun v _ => q - (intOf v).toNat)
        case atStart => exact ⟨0, rfl, Nat.zero_le _, hide ⟨_, HSTV.out z, by have := HUP.out; rw [← HQ.out] at this; exact this⟩⟩
        case round =>
          obtain ⟨st, rfl, hsq, hst⟩ := hrel
          by_cases hlt2 : st < q
          · obtain ⟨fi, hst0, hup⟩ := hst.out
            have hia := fun y : After wr.heap.size wr => (hst0.to y.below).iAt (show st < N by omega)
            have hfz := fun y : After wr.heap.size wr => And.intro ((hst0.to y.below).iFz (st + q)) ((hst0.to y.below).iAt (show st + q < N by omega))
            have hup' := hup
            rw [HQ.out] at hup'
            have hnx := ImUp.next HKC.out (show st < 2 ^ k by rw [← HQ.out]; exact hlt2) hup'
            rw [← HQ.out, HCH.out] at hnx
            have hbd2 := HIMB.out st
            rw [← hup st (by omega)] at hbd2
            have hnew := HIMB.out (st + 2 ^ k)
            rw [imb_add HKC.out (bit_lt (n := k) (show st < 2 ^ k by rw [← HQ.out]; exact hlt2) (Nat.le_refl _)), HCH.out, ← hup st (by omega)] at hnew
            obtain ⟨a, ha⟩ : ∃ a, a = fi st := ⟨_, rfl⟩
            rw [← ha] at hia hbd2 hnew hnx
            obtain ⟨j, hj⟩ : ∃ j, j = st + q := ⟨_, rfl⟩
            have hor := HOR.out st (by have := HQ.out; omega)
            have hj0 : (0 : Int) ≤ (j : Int) := by omega
            have hj1 : (j : Int) < (N : Int) := by omega
            have hs0 : (0 : Int) ≤ (st : Int) := by omega
            have hs1 : (st : Int) < (N : Int) := by omega
            rw [← hj] at hfz hnx hor
            have HST := hide hst0
            have HNX := hide hnx
            have hia0 := hia (After.refl _ _)
            have hfz00 := hfz (After.refl _ _)
            simp only [After.refl] at hia0 hfz00
            clear hst hst0 hup hup' hnx ha hj
            go_upto_region 21 with fail
            refine wp_tail_first wr.heap.size 12 (by kernel_rfl) (by kernel_rfl) ?_
            simp only [List.take_succ_cons, List.take_zero, List.drop_succ_cons, List.drop_zero]
            repeat (go_big_quiet_step (fail))
            refine wpQuiet_nil ?_
            intro y
            go_wp2_with fail
            exact ⟨⟨st + 1, by go_num, by omega, hide ⟨_, (HST.out.to y.below).setI j (a + ch), HNX.out⟩⟩, by simp [intOf]; omega⟩
          · have hst2 : ∃ fi, ImSt W lb hb rb gb pv ib n N (fun _ => false) (fun _ => false) (fun _ => false) fi wr ∧ ImUp I CS fi (2 ^ (k + 1)) := by
              obtain ⟨fi, h1, h2⟩ := hst.out
              have e : q + st = 2 ^ (k + 1) := by rw [Nat.pow_succ, ← HQ.out]; omega
              exact ⟨fi, h1, e ▸ h2⟩
            have HST := hide hst2
            clear hst hst2
            go_wp2_with fail
            exact ⟨⟨k + 1, by go_num, by omega, HST⟩, by simp [intOf]; omega⟩
      · have hst2 : ImSt W lb hb rb gb pv ib n N (fun _ => false) (fun _ => false) (fun _ => false) (fun j => imbAt I CS j) wr := by
          obtain ⟨fi, h1, h2⟩ := hst.out
          have e : 2 ^ k = N := by rw [HN.out, show k = n by omega]
          exact h1.congr (fun _ _ => rfl) (fun _ _ => rfl) (fun _ _ => rfl) (fun j hj => h2 j (by omega))
        have HST := hide hst2
        clear hst hst2 KC HMKI HMKB KV KJ KS
        have HHE := hide (fun st => (show heldSt s l st = heldE s (imbAt I CS st) by unfold heldSt; rw [HI.out, HCS2.out]))
        obtain ⟨H, hH⟩ : ∃ H, H = heldSt s l := ⟨_, rfl⟩
        have HHD := hide hH
        rw [← hH] at HHE
        clear hH
        go_wp2_with fail
        go_loopw [98] (fun v wr => ∃ k : Nat, v = .int .i64 k ∧ k ≤ N ∧ Hid (ImSt W lb hb rb gb pv ib n N (fun j => decide (j < k) && H j) (fun _ => false) (fun _ => false) (fun j => imbAt I CS j) wr)) (fun v _ => N - (intOf v).toNat)
        case atStart => exact ⟨0, rfl, Nat.zero_le _, hide (HST.out.congr (fun j _ => by simp) (fun _ _ => rfl) (fun _ _ => rfl) (fun _ _ => rfl))⟩
        case round =>
          clear hk hlt
          obtain ⟨k, rfl, hk, hst⟩ := hrel
          by_cases hlt : k < N
          · have hst0 := hst.out
            have hfa := fun y : After wr.heap.size wr => (hst0.to y.below).iAt hlt
            have hfb := fun y : After wr.heap.size wr => And.intro (And.intro (hst0.to y.below).st.pc (hst0.to y.below).st.lat.hs) (And.intro ((hst0.to y.below).st.lat.h.frozen k) ((hst0.to y.below).st.hAt hlt))
            have hfc := fun y : After wr.heap.size wr => hc ⟨y.val, (hst0.to y.below).st.bel⟩
            simp only at hfc
            have hbd2 := HIMB.out k
            have hhk := HHE.out k
            obtain ⟨a, ha⟩ : ∃ a, a = imbAt I CS k := ⟨_, rfl⟩
            rw [← ha] at hfa hbd2 hhk
            have hfa0 := hfa (After.refl _ _)
            have hfb0 := hfb (After.refl _ _)
            have hfc0 := hfc (After.refl _ _)
            simp only [After.refl] at hfa0 hfb0 hfc0
            have HST := hide hst0
            have hk0 : (0 : Int) ≤ (k : Int) := by omega
            have hk1 : (k : Int) < (N : Int) := by omega
            clear hst hst0 ha
            have hleaf : ∀ (b : Bool), b = H k → ∀ y : After wr.heap.size wr, Hid (ImSt W lb hb rb gb pv ib n N (fun j => decide (j < k + 1) && H j) (fun _ => false) (fun _ => false) (fun j => imbAt I CS j) (y.val.setCell ⟨hb, k, none⟩ (.bool b))) := fun b hb' y =>
              hide (((HST.out.to y.below).setH k b).congr (fun j _ => by
                by_cases e : j = k
                · subst e; simp [hb']
                · simp only [if_neg e]; congr 1; simp; omega) (fun _ _ => rfl) (fun _ _ => rfl) (fun _ _ => rfl))
            have HLEAF := hide hleaf
            clear hleaf
            by_cases h1 : -s.brake ≤ a
            · by_cases h2 : a ≤ s.brake
              · have HB := hide (show true = H k by rw [hhk]; simp [heldE, h1, h2])
                clear hhk
                go_upto_region 27 with fail
                refine wp_tail_first wr.heap.size 17 (by kernel_rfl) (by kernel_rfl) ?_
                simp only [List.take_succ_cons, List.take_zero, List.drop_succ_cons, List.drop_zero]
                repeat (go_big_quiet_step (fail))
                refine wpQuiet_nil ?_
                intro y
                go_wp2_with fail
                exact ⟨⟨k + 1, by go_num, by omega, HLEAF.out _ HB.out y⟩, by simp [intOf]; omega⟩
              · have HB := hide (show false = H k by rw [hhk]; simp [heldE, h1, h2])
                clear hhk
                go_upto_region 27 with fail
                refine wp_tail_first wr.heap.size 17 (by kernel_rfl) (by kernel_rfl) ?_
                simp only [List.take_succ_cons, List.take_zero, List.drop_succ_cons, List.drop_zero]
                repeat (go_big_quiet_step (fail))
                refine wpQuiet_nil ?_
                intro y
                go_wp2_with fail
                exact ⟨⟨k + 1, by go_num, by omega, HLEAF.out _ HB.out y⟩, by simp [intOf]; omega⟩
            · have HB := hide (show false = H k by rw [hhk]; simp [heldE, h1])
              clear hhk
              go_upto_region 27 with fail
              refine wp_tail_first wr.heap.size 17 (by kernel_rfl) (by kernel_rfl) ?_
              simp only [List.take_succ_cons, List.take_zero, List.drop_succ_cons, List.drop_zero]
              repeat (go_big_quiet_step (fail))
              refine wpQuiet_nil ?_
              intro y
              go_wp2_with fail
              exact ⟨⟨k + 1, by go_num, by omega, HLEAF.out _ HB.out y⟩, by simp [intOf]; omega⟩
          · have hst2 : OfSt W lb hb rb gb pv n N H (fun _ => false) (fun _ => false) wr :=
              hst.out.st.congr (fun j hj => by have : j < k := by omega
                                               simp [this]) (fun _ _ => rfl) (fun _ _ => rfl)
            have HST2 := hide hst2
            clear hst hst2 HIMB HCS HCL hc HHE HIM1 hfz0 hb0 hb1 hq1 hq2 HSHL HST
            have hf1 := HST2.out.pc
            have hf2 := HST2.out.lat.hs
            go_wp2_with fail
            clear hf1 hf2
            go_loopw [126] (fun v wr => ∃ k : Nat, v = .int .i64 k ∧ k ≤ N ∧ Hid (OfSt W lb hb rb gb pv n N H (fun j => decide (j < k) && rchB H n j) (fun _ => false) wr)) (fun v _ => N - (intOf v).toNat)
            case atStart => exact ⟨0, rfl, Nat.zero_le _, hide (HST2.out.congr (fun _ _ => rfl) (fun j _ => by simp) (fun _ _ => rfl))⟩
            case round =>
              clear hk hlt HST2
              obtain ⟨k, rfl, hk, hst⟩ := hrel
              by_cases hlt : k < N
              · obtain ⟨V, hV, hVs, hVb, hVh⟩ := boxed wr (.cells #[.int .i64 (k : Int)] 3)
                have hst0 := hst.out.to hVb
                obtain ⟨l1, l2, l3, l4, l5⟩ := hst.out.lts
                have hsv : ∀ y : After V.heap.size V, y.val.cell? ⟨wr.heap.size, 0, none⟩ = some (.int .i64 (k : Int)) := fun y => y.cell (Joins.cell_of_block hVh 0) (show wr.heap.size < V.heap.size by omega)
                have hfa := fun y : After V.heap.size V => And.intro (And.intro (hst0.to y.below).pc (hst0.to y.below).lat.hs) (And.intro (hst0.to y.below).lat.rs ((hst0.to y.below).hAt hlt))
                have hfz := fun y : After V.heap.size V => And.intro ((hst0.to y.below).lat.r.frozen k) ((hst0.to y.below).rAt hlt)
                have hfa0 := hfa (After.refl _ _)
                have hsv0 := hsv (After.refl _ _)
                simp only [After.refl] at hfa0 hsv0
                have hmf : ∀ (fn : Fn) (first cap : Array Value) (w : World), (Instr.makeFunc fn first cap).run Tryz.prog w = .ok (.func fn first cap) w := fun _ _ _ _ => rfl
                have HST := hide hst0
                have hk0 : (0 : Int) ≤ (k : Int) := by omega
                have hk1 : (k : Int) < (N : Int) := by omega
                have HV := hide hV
                have KA := hide (fun y : After V.heap.size V => Gives.after (x := y) (Nat.le_refl _) (any_any n lb hlen (k : Int) 55 #[.pointer (some ⟨wr.heap.size, 0, none⟩), .pointer (some ⟨pv, 0, none⟩)] (fun i => k.testBit i && (decide (k - 2 ^ i < k) && rchB H n (k - 2 ^ i))) enters_of1 y.val (hst0.to y.below).lat.n
                  (fun x i hi => by
                    have hx := (hst0.to y.below).to x.below
                    exact of1_any lb rb wr.heap.size pv N k i (fun j => decide (j < k) && rchB H n j) hlt hN2 (by omega) x.val ((x.below.cell (show wr.heap.size < y.val.heap.size by have := y.size; omega)).trans (hsv y)) hx.pc hx.lat.rs (fun j hj => hx.rAt hj)
                      ⟨by have := y.size; have := x.size; omega, by have := hx.lt; omega, hx.lat.lt, hx.lat.r.lt⟩)))
                have hrec := rchB_rec (held := H) (n := n) k
                have hany : ((List.range n).any fun i => k.testBit i && (decide (k - 2 ^ i < k) && rchB H n (k - 2 ^ i))) = ((List.range n).any fun i => k.testBit i && rchB H n (k - 2 ^ i)) := any_congr fun i _ => by
                  cases hb : k.testBit i with
                  | false => rfl
                  | true =>
                    have h1 := Nat.ge_two_pow_of_testBit hb
                    have h2 := Nat.two_pow_pos i
                    have h3 : k - 2 ^ i < k := by omega
                    simp [h3]
                rw [hany] at KA
                obtain ⟨an, han⟩ : ∃ b, b = (List.range n).any fun i => k.testBit i && rchB H n (k - 2 ^ i) := ⟨_, rfl⟩
                rw [← han] at KA hrec
                have hleaf : ∀ (b : Bool), b = rchB H n k → ∀ y : After V.heap.size V, Hid (OfSt W lb hb rb gb pv n N H (fun j => decide (j < k + 1) && rchB H n j) (fun _ => false) (y.val.setCell ⟨rb, k, none⟩ (.bool b))) := fun b hb' y =>
                  hide (((HST.out.to y.below).setR k b).congr (fun _ _ => rfl) (fun j _ => by
                    by_cases e : j = k
                    · subst e; simp [hb']
                    · simp only [if_neg e]; congr 1; simp; omega) (fun _ _ => rfl))
                have HLEAF := hide hleaf
                have HREC := hide hrec
                clear hleaf hrec hany han hst hst0 hV hVs hVb hVh l1 l2 l3 l4 l5
                cases hh : H k
                · have HB := hide (show false = rchB H n k by rw [HREC.out, hh]; rfl)
                  rw [hh] at hfa hfa0
                  clear hh
                  go_upto_region 32 with fail
                  rw [← HV.out]
                  refine wp_tail_first V.heap.size 23 (by kernel_rfl) (by kernel_rfl) ?_
                  simp only [List.take_succ_cons, List.take_zero, List.drop_succ_cons, List.drop_zero]
                  repeat (go_big_quiet_step (fail))
                  refine wpQuiet_nil ?_
                  intro y
                  go_wp2_with fail
                  exact ⟨⟨k + 1, by go_num, by omega, HLEAF.out _ HB.out y⟩, by simp [intOf]; omega⟩
                · rw [hh] at hfa hfa0
                  by_cases hkz : k = 0
                  · have hkd : ((k : Int) == 0) = true := by rw [beq_iff_eq]; omega
                    have HB := hide (show true = rchB H n k by rw [HREC.out, hh, decide_eq_true hkz]; rfl)
                    clear hh hkz
                    go_upto_region 32 with fail
                    rw [← HV.out]
                    refine wp_tail_first V.heap.size 23 (by kernel_rfl) (by kernel_rfl) ?_
                    simp only [List.take_succ_cons, List.take_zero, List.drop_succ_cons, List.drop_zero]
                    repeat (go_big_quiet_step (fail))
                    refine wpQuiet_nil ?_
                    intro y
                    go_wp2_with fail
                    exact ⟨⟨k + 1, by go_num, by omega, HLEAF.out _ HB.out y⟩, by simp [intOf]; omega⟩
                  · have hkd : ((k : Int) == 0) = false := by rw [beq_eq_false_iff_ne]; omega
                    have HB := hide (show an = rchB H n k by rw [HREC.out, hh, decide_eq_false hkz]; rfl)
                    clear hh hkz
                    go_upto_region 32 with fail
                    rw [← HV.out]
                    refine wp_tail_first V.heap.size 23 (by kernel_rfl) (by kernel_rfl) ?_
                    simp only [List.take_succ_cons, List.take_zero, List.drop_succ_cons, List.drop_zero]
                    repeat (go_big_quiet_step ((go_at_call 29; exact KA.out _)))
                    refine wpQuiet_nil ?_
                    intro y
                    go_wp2_with fail
                    exact ⟨⟨k + 1, by go_num, by omega, HLEAF.out _ HB.out y⟩, by simp [intOf]; omega⟩
              · have hst2 : OfSt W lb hb rb gb pv n N H (rchB H n) (fun _ => false) wr :=
                  hst.out.congr (fun _ _ => rfl) (fun j hj => by have : j < k := by omega
                                                                 simp [this]) (fun _ _ => rfl)
                have HST2 := hide hst2
                have KW := hide (Gives.first (whole_any n lb hlen wr hst2.lat.n))
                rw [← HN.out] at KW
                have hf1 := hst2.pc
                clear hst hst2
                go_upto_region 34 with fail
                go_wp2_with (go_at_call 28; refine KW.out.mono ?_; rintro e w' ⟨rfl, z, rfl⟩)
                clear hf1
                go_loopw [19] (fun v wr => ∃ sv k : Nat, v = .pointer (some ⟨sv, 0, none⟩) ∧ k ≤ N ∧ wr.cell? ⟨sv, 0, none⟩ = some (.int .i64 ((k : Int) - 1)) ∧ Hid (wr.frozen? ⟨sv, 0, none⟩ = false ∧ sv < wr.heap.size ∧ W.heap.size ≤ sv ∧ sv ≠ lb ∧ sv ≠ hb ∧ sv ≠ rb ∧ sv ≠ gb ∧ sv ≠ pv) ∧ Hid (OfSt W lb hb rb gb pv n N H (rchB H n) (fun j => decide (k ≤ j) && ldsB H n j) wr)) (fun v wr => cntAt v wr)
                case atStart =>
                  have hz := (HST2.out.to z.below).count ((N - 1 : Nat) : Int)
                  refine ⟨_, N, rfl, Nat.le_refl _, hz.1.trans (by congr 2; omega), hz.2.1, hide (hz.2.2.out.congr (fun _ _ => rfl) (fun _ _ => rfl) (fun j hj => by
                    have : ¬ N ≤ j := by omega
                    simp [this]))⟩
                case round =>
                  clear hk hlt
                  obtain ⟨sv, k, rfl, hk, hsv, hfs, hst⟩ := hrel
                  by_cases hlt : 0 < k
                  · obtain ⟨st, rfl⟩ : ∃ st, k = st + 1 := ⟨k - 1, by omega⟩
                    have hsv2 : wr.cell? ⟨sv, 0, none⟩ = some (.int .i64 (st : Int)) := by rw [hsv]; congr 2; omega
                    obtain ⟨f1, f2, f3, f4, f5, f6, f7, f8⟩ := hfs.out
                    have hst0 := hst.out
                    have hlt2 : st < N := by omega
                    have hsy := fun y : After wr.heap.size wr => y.cell hsv2 f2
                    have hfa := fun y : After wr.heap.size wr => And.intro (And.intro (hst0.to y.below).pc (hst0.to y.below).lat.hs) (And.intro (hst0.to y.below).lat.gs ((hst0.to y.below).hAt hlt2))
                    have hfz := fun y : After wr.heap.size wr => And.intro ((hst0.to y.below).lat.g.frozen st) ((hst0.to y.below).gAt hlt2)
                    have hfa0 := hfa (After.refl _ _)
                    have hsy0 := hsy (After.refl _ _)
                    simp only [After.refl] at hfa0 hsy0
                    have hmf : ∀ (fn : Fn) (first cap : Array Value) (w : World), (Instr.makeFunc fn first cap).run Tryz.prog w = .ok (.func fn first cap) w := fun _ _ _ _ => rfl
                    have HST := hide hst0
                    have hk0 : (0 : Int) ≤ (st : Int) := by omega
                    have hk1 : (st : Int) < (N : Int) := by omega
                    have KW2 := hide (fun y : After wr.heap.size wr => Gives.after (x := y) (Nat.le_refl _) (whole_any n lb hlen y.val (hst0.to y.below).lat.n))
                    have KA := hide (fun y : After wr.heap.size wr => Gives.after (x := y) (Nat.le_refl _) (any_any n lb hlen (st : Int) 56 #[.pointer (some ⟨sv, 0, none⟩), .pointer (some ⟨pv, 0, none⟩)] (fun i => !st.testBit i && (decide (st + 1 ≤ st + 2 ^ i) && ldsB H n (st + 2 ^ i))) enters_of2 y.val (hst0.to y.below).lat.n
                      (fun x i hi => by
                        have hx := (hst0.to y.below).to x.below
                        exact of2_any lb gb sv pv N st i (fun j => decide (st + 1 ≤ j) && ldsB H n j) hlt2 hN2 (by omega) (fun hb => HN.out ▸ add_lt (n := n) (by rw [← HN.out]; exact hlt2) hi hb) x.val ((x.below.cell (show sv < y.val.heap.size by have := y.size; omega)).trans (hsy y)) hx.pc hx.lat.gs (fun j hj => hx.gAt hj)
                          ⟨by have := y.size; have := x.size; omega, by have := hx.lt; omega, hx.lat.lt, hx.lat.g.lt⟩)))
                    have hrec := ldsB_rec (held := H) (n := n) (st := st)
                    have hany : ((List.range n).any fun i => !st.testBit i && (decide (st + 1 ≤ st + 2 ^ i) && ldsB H n (st + 2 ^ i))) = ((List.range n).any fun i => !st.testBit i && ldsB H n (st + 2 ^ i)) := any_congr fun i _ => by
                      have h2 := Nat.two_pow_pos i
                      have h3 : st + 1 ≤ st + 2 ^ i := by omega
                      simp [h3]
                    rw [hany] at KA
                    obtain ⟨an, han⟩ : ∃ b, b = (List.range n).any fun i => !st.testBit i && ldsB H n (st + 2 ^ i) := ⟨_, rfl⟩
                    rw [← han] at KA hrec
                    rw [← HN.out] at KW2 hrec
                    obtain ⟨m, hm⟩ : ∃ m, m = N - 1 := ⟨_, rfl⟩
                    rw [← hm] at KW2 hrec
                    have hleaf : ∀ (b : Bool), b = ldsB H n st → ∀ y : After wr.heap.size wr, ∃ U, U = y.val.setCell ⟨gb, st, none⟩ (.bool b) ∧ U.cell? ⟨sv, 0, none⟩ = some (.int .i64 (st : Int)) ∧ Hid (OfSt W lb hb rb gb pv n N H (rchB H n) (fun j => decide (st ≤ j) && ldsB H n j) U) := fun b hb' y =>
                      ⟨_, rfl, (cell_of_block (blk_setCell_other _ ⟨gb, st, none⟩ _ _ f7) 0).trans (hsy y), hide (((HST.out.to y.below).setG st b).congr (fun _ _ => rfl) (fun _ _ => rfl) (fun j _ => by
                        by_cases e : j = st
                        · subst e; simp [hb']
                        · simp only [if_neg e]; congr 1; simp; omega))⟩
                    have HLEAF := hide hleaf
                    have HREC := hide hrec
                    have HFS := hfs
                    clear hm hleaf hrec hany han hst hst0 hsv f1 f2 f3 f4 f5 f6 f7 f8 hfs
                    cases hh : H st
                    · have HB := hide (show false = ldsB H n st by rw [HREC.out, hh]; rfl)
                      rw [hh] at hfa hfa0
                      clear hh
                      go_upto_region 37 with fail
                      refine wp_tail_first wr.heap.size 25 (by kernel_rfl) (by kernel_rfl) ?_
                      simp only [List.take_succ_cons, List.take_zero, List.drop_succ_cons, List.drop_zero]
                      repeat (go_big_quiet_step (fail))
                      refine wpQuiet_nil ?_
                      intro y
                      go_upto_region 38 with fail
                      obtain ⟨U, hU, hUs, HU⟩ := HLEAF.out _ HB.out y
                      rw [← hU]
                      clear hU
                      go_wp2_with fail
                      exact ⟨⟨U.heap.size, st, rfl, by omega, (HU.out.count ((st : Int) - 1)).1, (HU.out.count ((st : Int) - 1)).2.1, (HU.out.count ((st : Int) - 1)).2.2⟩, by rw [cntAt_eq (HU.out.count ((st : Int) - 1)).1, cntAt_eq hsv2]; omega⟩
                    · rw [hh] at hfa hfa0
                      by_cases hkz : st = m
                      · have hkd : ((st : Int) == (m : Int)) = true := by rw [beq_iff_eq]; omega
                        have HB := hide (show true = ldsB H n st by rw [HREC.out, hh, decide_eq_true hkz]; rfl)
                        clear hh hkz
                        go_upto_region 37 with fail
                        refine wp_tail_first wr.heap.size 25 (by kernel_rfl) (by kernel_rfl) ?_
                        simp only [List.take_succ_cons, List.take_zero, List.drop_succ_cons, List.drop_zero]
                        repeat (go_big_quiet_step ((go_at_call 28; exact KW2.out _)))
                        refine wpQuiet_nil ?_
                        intro y
                        go_upto_region 38 with fail
                        obtain ⟨U, hU, hUs, HU⟩ := HLEAF.out _ HB.out y
                        rw [← hU]
                        clear hU
                        go_wp2_with fail
                        exact ⟨⟨U.heap.size, st, rfl, by omega, (HU.out.count ((st : Int) - 1)).1, (HU.out.count ((st : Int) - 1)).2.1, (HU.out.count ((st : Int) - 1)).2.2⟩, by rw [cntAt_eq (HU.out.count ((st : Int) - 1)).1, cntAt_eq hsv2]; omega⟩
                      · have hkd : ((st : Int) == (m : Int)) = false := by rw [beq_eq_false_iff_ne]; omega
                        have HB := hide (show an = ldsB H n st by rw [HREC.out, hh, decide_eq_false hkz]; rfl)
                        clear hh hkz
                        go_upto_region 37 with fail
                        refine wp_tail_first wr.heap.size 25 (by kernel_rfl) (by kernel_rfl) ?_
                        simp only [List.take_succ_cons, List.take_zero, List.drop_succ_cons, List.drop_zero]
                        repeat (go_big_quiet_step (first | (go_at_call 28; exact KW2.out _) | (go_at_call 29; exact KA.out _)))
                        refine wpQuiet_nil ?_
                        intro y
                        go_upto_region 38 with fail
                        obtain ⟨U, hU, hUs, HU⟩ := HLEAF.out _ HB.out y
                        rw [← hU]
                        clear hU
                        go_wp2_with fail
                        exact ⟨⟨U.heap.size, st, rfl, by omega, (HU.out.count ((st : Int) - 1)).1, (HU.out.count ((st : Int) - 1)).2.1, (HU.out.count ((st : Int) - 1)).2.2⟩, by rw [cntAt_eq (HU.out.count ((st : Int) - 1)).1, cntAt_eq hsv2]; omega⟩
                  · obtain rfl : k = 0 := by omega
                    have hend := hst.out.congr (fh' := heldSt s l) (fr' := rchB (heldSt s l) l.length) (fg' := ldsB (heldSt s l) l.length) (fun j _ => by rw [HHD.out]) (fun j _ => by rw [HHD.out, HNL.out]) (fun j _ => by rw [HHD.out, HNL.out]; simp)
                    have hp := hst.out.pc
                    have HEND := hide hend
                    clear hend hst hfs
                    go_wp2_with fail
                    go_ret2
                    obtain ⟨e1, e2, e3, e4⟩ := HEND.out.lat.base
                    have hlt9 := HEND.out.lat
                    rw [HN.out, HNL.out] at hlt9
                    exact ⟨HBD.out ⟨_, HEND.out.bel⟩, lb, hb, rb, gb, rfl, ⟨hlt9.n, hlt9.hs, hlt9.rs, hlt9.gs, hlt9.h, hlt9.r, hlt9.g, by omega, hlt9.apart, hlt9.lt⟩⟩
end Go.Proofs.YtcdkhlndohokcaaGreatDoor
