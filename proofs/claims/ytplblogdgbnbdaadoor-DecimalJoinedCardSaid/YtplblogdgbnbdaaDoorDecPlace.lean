/- Where the tokens of a text stand: in plain Lean. -/
import Derived.Lib.Split
import Derived.Test.YtplblogdgbnbdaaDoorDecJoin
namespace Go.Proofs.YtplblogdgbnbdaaDoor
open Go

/-- what stands behind the last end of a line, behind a -/
def tailFrom : List UInt8 → List UInt8 → List UInt8
  | a, [] => a
  | a, c :: l => if c = 10 then tailFrom [] l else tailFrom (a ++ [c]) l
def tailOf (p : List UInt8) : List UInt8 := tailFrom [] p
theorem tailFrom_append : ∀ (p q a : List UInt8), tailFrom a (p ++ q) = tailFrom (tailFrom a p) q
  | [], _, _ => rfl
  | c :: p, q, a => by
    simp only [List.cons_append, tailFrom]
    split
    · exact tailFrom_append p q []
    · exact tailFrom_append p q _
theorem tailFrom_plain : ∀ (p a : List UInt8), p.count 10 = 0 → tailFrom a p = a ++ p
  | [], a, _ => by simp [tailFrom]
  | c :: p, a, h => by
    have hc : c ≠ 10 := fun e => by subst e; simp at h
    have hp : p.count 10 = 0 := by rw [List.count_cons_of_ne hc] at h; exact h
    simp only [tailFrom, hc, if_false]
    rw [tailFrom_plain p _ hp, List.append_assoc]; rfl
theorem tailFrom_reset : ∀ (p a : List UInt8), 0 < p.count 10 → tailFrom a p = tailFrom [] p
  | [], a, h => by simp at h
  | c :: p, a, h => by
    by_cases hc : c = 10
    · simp [tailFrom, hc]
    · rw [List.count_cons_of_ne hc] at h
      simp only [tailFrom, hc, if_false]
      rw [tailFrom_reset p (a ++ [c]) h, tailFrom_reset p ([] ++ [c]) h]
def lineOf (p : List UInt8) : Nat := 1 + p.count 10
def colOf (p : List UInt8) : Nat := 1 + (tailOf p).length
/-- the lines of a text -/
def linesOf : List UInt8 → List (List UInt8)
  | [] => [[]]
  | c :: l => if c = 10 then [] :: linesOf l else match linesOf l with | h :: t => (c :: h) :: t | [] => [[c]]
theorem linesOf_ne (l : List UInt8) : ∃ h t, linesOf l = h :: t := by
  cases l with
  | nil => exact ⟨_, _, rfl⟩
  | cons c l =>
    unfold linesOf
    split
    · exact ⟨_, _, rfl⟩
    · split <;> exact ⟨_, _, rfl⟩
theorem linesOf_length : ∀ l : List UInt8, (linesOf l).length = 1 + l.count 10
  | [] => rfl
  | c :: l => by
    have ih := linesOf_length l
    obtain ⟨h, t, e⟩ := linesOf_ne l
    by_cases hc : c = 10
    · subst hc; simp [linesOf, ih]; omega
    · rw [List.count_cons_of_ne hc, ← ih]
      simp [linesOf, hc, e]
def upTo10 (l : List UInt8) : List UInt8 := l.takeWhile (fun c => !decide (c = 10))
theorem lines_at : ∀ (s : List UInt8) (j : Nat), j ≤ s.length → (linesOf s)[(s.take j).count 10]? = some (tailOf (s.take j) ++ upTo10 (s.drop j))
  | [], j, hj => by
    have : j = 0 := by simpa using hj
    subst this; rfl
  | c :: l, 0, _ => by
    obtain ⟨h, t, e⟩ := linesOf_ne l
    have ih := lines_at l 0 (Nat.zero_le _)
    simp only [List.take_zero, List.count_nil, List.drop_zero, e, List.getElem?_cons_zero, Option.some.injEq, tailOf, tailFrom, List.nil_append] at ih ⊢
    by_cases hc : c = 10
    · simp [linesOf, hc, upTo10]
    · simp [linesOf, hc, e, ih, upTo10]
  | c :: l, j + 1, hj => by
    obtain ⟨h, t, e⟩ := linesOf_ne l
    have ih := lines_at l j (by simpa using hj)
    simp only [List.take_succ_cons, List.drop_succ_cons]
    by_cases hc : c = 10
    · subst hc
      rw [List.count_cons_self, show linesOf (10 :: l) = [] :: linesOf l by simp [linesOf], List.getElem?_cons_succ, ih]
      rfl
    · rw [List.count_cons_of_ne hc, show linesOf (c :: l) = (c :: h) :: t by simp [linesOf, hc, e]]
      rw [e] at ih
      have htl : tailOf (c :: l.take j) = tailFrom [c] (l.take j) := by simp [tailOf, tailFrom, hc]
      rw [htl]
      rcases Nat.eq_zero_or_pos ((l.take j).count 10) with h0 | h0
      · rw [h0] at ih ⊢
        simp only [List.getElem?_cons_zero, Option.some.injEq] at ih ⊢
        rw [ih, tailFrom_plain _ _ h0]
        unfold tailOf
        rw [tailFrom_plain _ _ h0]; rfl
      · obtain ⟨m, hm⟩ : ∃ m, (l.take j).count 10 = m + 1 := ⟨(l.take j).count 10 - 1, by omega⟩
        rw [hm] at ih ⊢
        rw [List.getElem?_cons_succ] at ih ⊢
        rw [ih, tailFrom_reset _ _ h0]; rfl
/-- the library's split at the ends of lines -/
theorem linesOf_cut : ∀ (w r : List UInt8), (∀ c ∈ w, c ≠ 10) → linesOf (w ++ 10 :: r) = w :: linesOf r
  | [], r, _ => by simp [linesOf]
  | c :: w, r, h => by
    have hc : c ≠ 10 := h c (by simp)
    have := linesOf_cut w r (fun d hd => h d (by simp [hd]))
    simp [linesOf, hc, this]
theorem linesOf_plain : ∀ (w : List UInt8), (∀ c ∈ w, c ≠ 10) → linesOf w = [w]
  | [], _ => rfl
  | c :: w, h => by
    have hc : c ≠ 10 := h c (by simp)
    have := linesOf_plain w (fun d hd => h d (by simp [hd]))
    simp [linesOf, hc, this]
theorem cut10 (s : List UInt8) : (Lib.index s [10] = -1 ∧ ∀ c ∈ s, c ≠ 10) ∨ ∃ w r, s = w ++ 10 :: r ∧ (∀ c ∈ w, c ≠ 10) ∧ Lib.index s [10] = w.length := by
  rcases Lib.index_spec s [10] with ⟨h1, h2⟩ | ⟨m, h1, h2, h3, h4⟩
  · refine Or.inl ⟨h1, fun c hc e => ?_⟩
    obtain ⟨j, hj⟩ := List.mem_iff_getElem?.1 hc
    have := h2 j (Nat.le_of_lt (List.getElem?_eq_some_iff.1 hj).1)
    rw [occAt_one, hj, e] at this
    simp at this
  · rw [occAt_one] at h3
    have h3 : s[m]? = some 10 := by simpa using h3
    obtain ⟨hlt, e⟩ := List.getElem?_eq_some_iff.1 h3
    refine Or.inr ⟨s.take m, s.drop (m + 1), ?_, fun c hc => ?_, by rw [h1, List.length_take]; omega⟩
    · rw [← e]; simp
    · obtain ⟨j, hj⟩ := List.mem_iff_getElem?.1 hc
      have hjm : j < m := by have := (List.getElem?_eq_some_iff.1 hj).1; rw [List.length_take] at this; omega
      rw [List.getElem?_take_of_lt hjm] at hj
      have := h4 j hjm
      rw [occAt_one, hj] at this
      simpa using this
theorem count10_none {s : List UInt8} (h : ∀ c ∈ s, c ≠ 10) : s.count 10 = 0 := List.count_eq_zero.2 fun hc => h 10 hc rfl
theorem split_lines : ∀ (n : Nat) (s : List UInt8), s.length ≤ n → Lib.count s [10] = s.count 10 ∧ Lib.splitK [10] 0 (s.count 10) s = linesOf s
  | 0, s, h => by
    have : s = [] := List.eq_nil_of_length_eq_zero (by omega)
    subst this
    exact ⟨rfl, rfl⟩
  | n + 1, s, h => by
    rcases cut10 s with ⟨h1, h2⟩ | ⟨w, r, rfl, hw, hi⟩
    · rw [count10_none h2, linesOf_plain s h2]
      exact ⟨Lib.count_miss h1, rfl⟩
    · have hlen : r.length ≤ n := by simp at h; omega
      obtain ⟨i1, i2⟩ := split_lines n r hlen
      have hdrop : (w ++ 10 :: r).drop (w.length + [(10 : UInt8)].length) = r := by simp
      have hc : (w ++ 10 :: r).count 10 = 1 + r.count 10 := by rw [List.count_append, count10_none hw]; simp; omega
      refine ⟨?_, ?_⟩
      · rw [Lib.count_hit (i := w.length) (by simp) hi, hdrop, i1, hc]
      · rw [hc, Nat.add_comm, Lib.splitK, hi]
        have e : ((w.length : Int) == -1) = false := by rw [beq_eq_false_iff_ne]; omega
        rw [e]
        simp only [Bool.false_eq_true, if_false, Int.toNat_natCast, Nat.add_zero]
        rw [hdrop, i2, linesOf_cut w r hw]
        simp
end Go.Proofs.YtplblogdgbnbdaaDoor
