/- strconv.Atoi and the integers of a record: in plain Lean. -/
import Derived.Test.YtemlaliackblkaaDoorLedSpec
import Derived.Lib.AtoiAll
namespace Go.Proofs.YtemlaliackblkaaDoor
open Go Go.RowKit

theorem parse_digits : ∀ (l : List UInt8) (acc : Nat), l.all isDig = true → valN acc l < 1000000000000000 → Lib.parseUint10 acc l = .ok (valN acc l)
  | [], acc, _, _ => by rw [valN_nil]; rfl
  | c :: r, acc, hd, hb => by
    simp only [List.all_cons, Bool.and_eq_true] at hd
    have hc := dig_bounds hd.1
    have h1 := valN_ge (c :: r) acc
    rw [valN_cons] at hb ⊢
    have h2 := valN_ge r (10 * acc + (c.toNat - 48))
    have e : acc * 10 + (c.toNat - 48) = 10 * acc + (c.toNat - 48) := by omega
    rw [Lib.parseUint10, if_pos hc, if_neg (by omega), if_neg (by omega), e]
    exact parse_digits r _ hd.2 hb
theorem atoi_intOk {l : List UInt8} (h : intOk l = true) : Lib.atoiAll l = .ok (intV l) := by
  have hb := intV_bound h
  simp only [intOk, Bool.and_eq_true, decide_eq_true_eq] at h
  have hall := all_of_allDig h.1.1
  cases l with
  | nil => simp [allDig] at h
  | cons c r =>
    have hc : 48 ≤ c.toNat ∧ c.toNat ≤ 57 := by
      simp only [List.all_cons, Bool.and_eq_true] at hall
      exact dig_bounds hall.1
    have hv : valN 0 (c :: r) < 1000000000000000 := by unfold intV at hb; omega
    have h1 : ¬ (c.toNat = 43 ∨ c.toNat = 45) := by omega
    have h2 : ¬ c.toNat = 45 := by omega
    have hp : Lib.parseMag (c :: r) = .ok (valN 0 (c :: r)) := by
      rw [Lib.parseMag, if_neg (by simp)]
      exact parse_digits _ _ hall hv
    unfold Lib.atoiAll
    simp only
    rw [if_neg h1, hp]
    simp only [h2, not_false_eq_true, true_and, false_and, if_false]
    rw [if_neg (by omega)]
    rfl
/-- what ledger.integer tests -/
theorem intOk_iff {l : List UInt8} {v : Int} (h : Lib.atoiAll l = .ok v) : intOk l = true ↔ 0 ≤ v ∧ l.length ≤ 15 ∧ Lib.itoa v = l := by
  constructor
  · intro ho
    rw [atoi_intOk ho] at h
    injection h with h
    subst h
    refine ⟨(intV_bound ho).1, ?_, itoa_intV ho⟩
    simp only [intOk, Bool.and_eq_true, decide_eq_true_eq] at ho
    exact ho.1.2
  · rintro ⟨h0, hl, he⟩
    obtain ⟨m, rfl⟩ : ∃ m : Nat, v = m := ⟨v.toNat, by omega⟩
    rw [itoa_nat] at he
    subst he
    have hh : (decide (1 < (Lib.decDigits m).length) && (Lib.decDigits m).head? == some 48) = false := by
      by_cases h1 : 1 < (Lib.decDigits m).length
      · have := dec_head m h1
        simp [this]
      · simp [h1]
    rw [intOk, allDig_dec, hh, decide_eq_true hl]; rfl
theorem intOk_ok {l : List UInt8} {v : Int} (h : Lib.atoiAll l = .ok v) (ho : intOk l = true) : v = intV l := by
  rw [atoi_intOk ho] at h
  injection h with h
  exact h.symm
theorem intOk_no {l : List UInt8} (h : ∀ v, Lib.atoiAll l ≠ .ok v) : intOk l = false := by
  cases ho : intOk l
  · rfl
  · exact absurd (atoi_intOk ho) (h _)
/-- the reference's test: some digits, at most 15, the first no zero -/
def digTo (l : List UInt8) (k : Nat) : Prop := ∀ j c, j < k → l[j]? = some c → isDig c = true
theorem digTo_next {l : List UInt8} {k : Nat} {c : UInt8} (h : digTo l k) (hc : l[k]? = some c) (hd : isDig c = true) : digTo l (k + 1) := fun j d hj hjd => by
  by_cases e : j = k
  · subst e; rw [hc] at hjd; injection hjd with hjd; rw [← hjd]; exact hd
  · exact h j d (by omega) hjd
theorem digTo_all {l : List UInt8} (h : digTo l l.length) : l.all isDig = true := by
  rw [List.all_eq_true]
  intro c hc
  obtain ⟨j, hj, e⟩ := List.getElem_of_mem hc
  exact h j c hj (by rw [List.getElem?_eq_getElem hj, e])
theorem intOk_of {l : List UInt8} (h0 : 0 < l.length) (h1 : l.length ≤ 15) (h2 : (decide (1 < l.length) && l.head? == some 48) = false) (h : digTo l l.length) : intOk l = true := by
  have ha := digTo_all h
  have hn : l.isEmpty = false := by cases l with | nil => simp at h0 | cons => rfl
  rw [intOk, h2, decide_eq_true h1, allDig, ha, hn]; rfl
theorem intOk_bad {l : List UInt8} {k : Nat} {c : UInt8} (hc : l[k]? = some c) (h : isDig c = false) : intOk l = false := by
  cases ho : intOk l
  · rfl
  · simp only [intOk, Bool.and_eq_true] at ho
    have := List.all_eq_true.1 (all_of_allDig ho.1.1) c (List.mem_of_getElem? hc)
    rw [h] at this; cases this
theorem valN_next {l : List UInt8} {k : Nat} {c : UInt8} (hc : l[k]? = some c) : valN 0 (l.take (k + 1)) = 10 * valN 0 (l.take k) + (c.toNat - 48) := by
  rw [List.take_add_one, hc, valN_append]
  simp only [Option.toList_some]
  rw [valN_cons, valN_nil]
theorem valN_take_lt {l : List UInt8} (hl : l.length ≤ 15) : ∀ k, digTo l k → valN 0 (l.take k) < 1000000000000000
  | k, h => by
    have ha : (l.take k).all isDig = true := by
      rw [List.all_eq_true]
      intro c hc
      obtain ⟨j, hj, e⟩ := List.getElem_of_mem hc
      rw [List.length_take] at hj
      exact h j c (by omega) (by rw [← e, List.getElem_take, List.getElem?_eq_getElem])
    have h1 := valN_lt _ ha
    have h2 : 10 ^ (l.take k).length ≤ 10 ^ 15 := Nat.pow_le_pow_right (by decide) (by rw [List.length_take]; omega)
    omega
end Go.Proofs.YtemlaliackblkaaDoor
