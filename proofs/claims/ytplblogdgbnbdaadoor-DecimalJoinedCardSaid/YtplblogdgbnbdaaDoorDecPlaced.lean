/- The tokens of a text ascend, and their texts stand at their places: in plain Lean. -/
import Derived.Test.YtplblogdgbnbdaaDoorDecPlace
namespace Go.Proofs.YtplblogdgbnbdaaDoor
open Go

/-- from place i on, each token stands at a place of its own, its text there, without an end of a line -/
def PlacedFrom (s : List UInt8) : Nat → List TokD → Prop
  | _, [] => True
  | i, t :: ts => ∃ j, i ≤ j ∧ j ≤ s.length ∧ t.line = lineOf (s.take j) ∧ t.col = colOf (s.take j) ∧ (bs t.text).isPrefixOf (s.drop j) = true ∧ (∀ c ∈ bs t.text, c ≠ 10) ∧ PlacedFrom s (j + 1) ts
theorem PlacedFrom.mono {s : List UInt8} : ∀ {i i' : Nat} {ts : List TokD}, i ≤ i' → PlacedFrom s i' ts → PlacedFrom s i ts
  | _, _, [], _, _ => trivial
  | _, _, _ :: _, h, ⟨j, h1, h2⟩ => ⟨j, by omega, h2⟩
theorem lineOf_plain {p u : List UInt8} (h : ∀ c ∈ u, c ≠ 10) : lineOf (p ++ u) = lineOf p := by
  unfold lineOf; rw [List.count_append, count10_none h, Nat.add_zero]
theorem colOf_plain {p u : List UInt8} (h : ∀ c ∈ u, c ≠ 10) : colOf (p ++ u) = colOf p + u.length := by
  unfold colOf tailOf
  rw [tailFrom_append, tailFrom_plain _ _ (count10_none h), List.length_append]
  omega
theorem lineOf_end (p : List UInt8) : lineOf (p ++ [10]) = lineOf p + 1 := by unfold lineOf; rw [List.count_append]; simp; omega
theorem colOf_end (p : List UInt8) : colOf (p ++ [10]) = 1 := by unfold colOf tailOf; rw [tailFrom_append]; rfl
theorem take_no10 {l : List UInt8} {n : Nat} (h : ∀ j c, j < n → l[j]? = some c → c ≠ 10) : ∀ c ∈ l.take n, c ≠ 10 := by
  intro c hc
  obtain ⟨j, hj⟩ := List.mem_iff_getElem?.1 hc
  have hjn : j < n := by have := (List.getElem?_eq_some_iff.1 hj).1; rw [List.length_take] at this; omega
  rw [List.getElem?_take_of_lt hjn] at hj
  exact h j c hjn hj
theorem comLen_at : ∀ (l : List UInt8) (j : Nat) (c : UInt8), j < comLen l → l[j]? = some c → c ≠ 10
  | [], j, c, h, _ => by simp [comLen] at h
  | d :: l, j, c, h, hc => by
    unfold comLen at h
    split at h
    · omega
    · rename_i hd
      cases j with
      | zero => simp at hc; rw [← hc]; exact hd
      | succ j => exact comLen_at l j c (by omega) (by simpa using hc)
theorem wordB_10 {c : UInt8} (h : wordB c = true) : c ≠ 10 := fun e => by subst e; revert h; decide
theorem isDig_10 {c : UInt8} (h : isDig c = true) : c ≠ 10 := fun e => by subst e; revert h; decide
theorem blank_no10 {c : UInt8} {l : List UInt8} {n : Nat} (h : nextTk (c :: l) = .blank n) : ∀ d ∈ (c :: l).take n, d ≠ 10 := by
  simp only [nextTk] at h
  by_cases a1 : c = 32 ∨ c = 9
  · rw [if_pos a1] at h
    have e : 1 = n := by injection h
    subst e
    intro d hd
    have : d = c := by simpa using hd
    rw [this]
    rcases a1 with rfl | rfl <;> decide
  · rw [if_neg a1] at h
    by_cases a2 : c = 10
    · rw [if_pos a2] at h; cases h
    · rw [if_neg a2] at h
      by_cases a3 : c = 35
      · rw [if_pos a3] at h
        have e : comLen (c :: l) = n := by injection h
        subst e
        exact take_no10 fun j d hj hd => comLen_at _ j d hj hd
      · rw [if_neg a3] at h
        exfalso
        revert h
        split
        · split <;> intro h <;> cases h
        · split
          · intro h; cases h
          · split <;> intro h <;> cases h
theorem numLen_at {l : List UInt8} {j : Nat} {c : UInt8} (hj : j < numLen l) (hc : l[j]? = some c) : c ≠ 10 := by
  by_cases hp : pointAt l (digLen l) = true
  · have h1 : numLen l = digLen l + 1 + digLen (l.drop (digLen l + 1)) := by unfold numLen; rw [if_pos hp]
    unfold pointAt at hp
    rw [Bool.and_eq_true, beq_iff_eq] at hp
    rcases Nat.lt_trichotomy j (digLen l) with h | h | h
    · obtain ⟨d, hd, hdd⟩ := digLen_at l j h
      rw [hc] at hd; cases hd; exact isDig_10 hdd
    · subst h; rw [hp.1] at hc; cases hc; decide
    · obtain ⟨d, hd, hdd⟩ := digLen_at (l.drop (digLen l + 1)) (j - (digLen l + 1)) (by omega)
      rw [List.getElem?_drop, show digLen l + 1 + (j - (digLen l + 1)) = j by omega, hc] at hd
      cases hd; exact isDig_10 hdd
  · have hp : pointAt l (digLen l) = false := by simpa using hp
    rw [numLen_no rfl hp] at hj
    obtain ⟨d, hd, hdd⟩ := digLen_at l j hj
    rw [hc] at hd; cases hd; exact isDig_10 hdd
theorem alone_10 {c : UInt8} (h : alone.contains c = true) : c ≠ 10 := fun e => by subst e; revert h; decide
theorem symLen_no10 {c : UInt8} {l : List UInt8} : ∀ d ∈ (c :: l).take (symLen (c :: l)), d ≠ 10 := by
  by_cases h2 : twoB (c :: l) = true
  · rw [symLen_two h2]
    cases l with
    | nil => rw [twoB_one] at h2; cases h2
    | cons d l =>
      rw [twoB_cons, Bool.and_eq_true, Bool.or_eq_true, Bool.or_eq_true] at h2
      simp only [beq_iff_eq] at h2
      intro x hx
      have hx : x = c ∨ x = d := by simpa using hx
      intro e
      have h10 : (x.toNat : Int) = 10 := by rw [e]; rfl
      rcases hx with rfl | rfl
      · rcases h2 with ⟨(h | h) | h, _⟩ <;> omega
      · omega
  · have h2 : twoB (c :: l) = false := by simpa using h2
    cases ha : alone.contains c with
    | true =>
      rw [symLen_yes h2 ha]
      intro d hd
      have : d = c := by simpa using hd
      rw [this]; exact alone_10 ha
    | false => rw [symLen_no h2 ha]; intro d hd; simp at hd
theorem tok_no10 {c : UInt8} {l : List UInt8} {k : Int} {n : Nat} (h : nextTk (c :: l) = .tok k n) : ∀ d ∈ (c :: l).take n, d ≠ 10 := by
  simp only [nextTk] at h
  by_cases a1 : c = 32 ∨ c = 9
  · rw [if_pos a1] at h; cases h
  · rw [if_neg a1] at h
    by_cases a2 : c = 10
    · rw [if_pos a2] at h; cases h
    · rw [if_neg a2] at h
      by_cases a3 : c = 35
      · rw [if_pos a3] at h; cases h
      · rw [if_neg a3] at h
        by_cases a4 : letterB (c.toNat : Int) = true
        · rw [if_pos a4] at h
          by_cases a5 : wordLen (c :: l) ≤ 20
          · rw [if_pos a5] at h
            have e : wordLen (c :: l) = n := by injection h
            subst e
            refine take_no10 fun j d hj hd => ?_
            obtain ⟨d', hd', hw⟩ := wordLen_at _ j hj
            rw [hd] at hd'; cases hd'; exact wordB_10 hw
          · rw [if_neg a5] at h; cases h
        · rw [if_neg a4] at h
          by_cases a6 : isDig c = true
          · rw [if_pos a6] at h
            have e : numLen (c :: l) = n := by injection h
            subst e
            exact take_no10 fun j d hj hd => numLen_at hj hd
          · rw [if_neg a6] at h
            by_cases a7 : symLen (c :: l) = 0
            · rw [if_pos a7] at h; cases h
            · rw [if_neg a7] at h
              have e : symLen (c :: l) = n := by injection h
              subst e
              exact symLen_no10
theorem isPrefixOf_take : ∀ (l : List UInt8) (n : Nat), (l.take n).isPrefixOf l = true
  | [], n => by simp
  | c :: l, 0 => by simp
  | c :: l, n + 1 => by simp [isPrefixOf_take l n]
theorem bs_nil : bs ⟨#[]⟩ = [] := bs_mk []
/-- THE PLACES OF THE TOKENS -/
theorem placed_of_toks (s : List UInt8) : ∀ (f : Nat) (acc : List TokD) (l : List UInt8) (ln col : Int) (r : List TokD), toksF f acc l ln col = .good r → ∀ p, s = p ++ l → ln = lineOf p → col = colOf p → ∃ r', r = acc ++ r' ∧ PlacedFrom s p.length r' ∧ ∃ r0 t, r' = r0 ++ [t] ∧ t.kind = 5
  | 0, _, _, _, _, _, h, _, _, _, _ => by simp [toksF] at h
  | f + 1, acc, [], ln, col, r, h, p, hs, h1, h2 => by
    simp only [toksF, TRes.good.injEq] at h
    refine ⟨_, h.symm, ⟨p.length, Nat.le_refl _, by rw [hs]; simp, ?_, ?_, ?_, ?_, trivial⟩, [], _, rfl, rfl⟩
    · rw [hs]; simpa using h1
    · rw [hs]; simpa using h2
    · rw [bs_nil]; simp [List.isPrefixOf]
    · rw [bs_nil]; simp
  | f + 1, acc, c :: l, ln, col, r, h, p, hs, h1, h2 => by
    have htake : s.take p.length = p := by rw [hs]; simp
    have hdrop : s.drop p.length = c :: l := by rw [hs]; simp
    have hle : p.length ≤ s.length := by rw [hs]; simp
    rw [toksF] at h
    split at h
    · rename_i n hn
      have hno := blank_no10 hn
      have hb := nextTk_blank hn
      have hlt : ((c :: l).take n).length = n := by rw [List.length_take]; omega
      obtain ⟨r', e1, e2, e3⟩ := placed_of_toks s f _ _ _ _ _ h (p ++ (c :: l).take n) (by rw [hs, List.append_assoc, List.take_append_drop]) (by rw [lineOf_plain hno, h1]) (by rw [colOf_plain hno, hlt, h2]; omega)
      exact ⟨r', e1, PlacedFrom.mono (by simp) e2, e3⟩
    · rename_i hn
      have hc : c = 10 := by
        simp only [nextTk] at hn
        by_cases a1 : c = 32 ∨ c = 9
        · rw [if_pos a1] at hn; cases hn
        · rw [if_neg a1] at hn
          by_cases a2 : c = 10
          · exact a2
          · rw [if_neg a2] at hn
            exfalso
            revert hn
            split
            · intro h; cases h
            · split
              · split <;> intro h <;> cases h
              · split
                · intro h; cases h
                · split <;> intro h <;> cases h
      subst hc
      obtain ⟨r', e1, e2, r0, t, e3, e4⟩ := placed_of_toks s f _ _ _ _ _ h (p ++ [10]) (by rw [hs, List.append_assoc]; rfl) (by rw [lineOf_end, h1]; omega) (by rw [colOf_end]; rfl)
      refine ⟨_ :: r', by rw [e1, List.append_assoc]; rfl, ⟨p.length, Nat.le_refl _, hle, by rw [htake]; exact h1, by rw [htake]; exact h2, by rw [bs_nil]; simp [List.isPrefixOf], by rw [bs_nil]; simp, ?_⟩, _ :: r0, t, by rw [e3]; rfl, e4⟩
      simpa using e2
    · rename_i k n hn
      have hno := tok_no10 hn
      have hb := nextTk_tok hn
      have hlt : ((c :: l).take n).length = n := by rw [List.length_take]; omega
      obtain ⟨r', e1, e2, r0, t, e3, e4⟩ := placed_of_toks s f _ _ _ _ _ h (p ++ (c :: l).take n) (by rw [hs, List.append_assoc, List.take_append_drop]) (by rw [lineOf_plain hno, h1]) (by rw [colOf_plain hno, hlt, h2]; omega)
      refine ⟨_ :: r', by rw [e1, List.append_assoc]; rfl, ⟨p.length, Nat.le_refl _, hle, by rw [htake]; exact h1, by rw [htake]; exact h2, by rw [bs_mk, hdrop]; exact isPrefixOf_take _ _, by rw [bs_mk]; exact hno, PlacedFrom.mono (by rw [List.length_append, hlt]; omega) e2⟩, _ :: r0, t, by rw [e3]; rfl, e4⟩
    · cases h
end Go.Proofs.YtplblogdgbnbdaaDoor
