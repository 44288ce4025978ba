/- States of jobs that are done in some order, each held or not: which are reached, and from which the whole is reached; in plain Lean. The lattice as the program computes it: lists of held, reached and good states; the first safe order; the path of an order and back; in plain Lean. Jobs of a load-in as plain data and as they lie in memory; what a set weighs and how it is balanced; in plain Lean. A load-in: what the orders that are found, checked and proved say of the imbalances; in plain Lean. -/
import Derived.Test.YtcdkhlndohokcaaGreatDoorBase
import Derived.Test.YtcdkhlndohokcaaGreatDoorSpecSet
namespace Go.Proofs.YtcdkhlndohokcaaGreatDoor

/-! ### states: sets of jobs as numbers -/
theorem bit_add {st i : Nat} (h : st.testBit i = false) (j : Nat) : (st + 2 ^ i).testBit j = (st.testBit j || decide (i = j)) := by
  have e : st + 2 ^ i = st ||| 2 ^ i := by
    have h2 := Nat.two_pow_add_eq_or_of_lt (i := i) (b := st % 2 ^ i) (Nat.mod_lt _ (Nat.two_pow_pos i)) 1
    apply Nat.eq_of_testBit_eq
    intro k
    rw [Nat.testBit_or, Nat.testBit_two_pow]
    have hd : st = 2 ^ i * (st / 2 ^ i) + st % 2 ^ i := (Nat.div_add_mod st (2 ^ i)).symm
    have hq : (st / 2 ^ i) % 2 = 0 := by
      have := h
      rw [Nat.testBit_eq_decide_div_mod_eq] at this
      have h3 : ¬ st / 2 ^ i % 2 = 1 := by simpa using this
      omega
    have he : st + 2 ^ i = 2 ^ i * (st / 2 ^ i + 1) + st % 2 ^ i := by
      rw [Nat.mul_add, Nat.mul_one]; omega
    rw [he, Nat.testBit_two_pow_mul_add _ (Nat.mod_lt _ (Nat.two_pow_pos i))]
    by_cases hk : k < i
    · rw [if_pos hk, Nat.testBit_mod_two_pow]
      have : ¬ i = k := by omega
      simp [hk, this]
    · rw [if_neg hk]
      obtain ⟨m, rfl⟩ : ∃ m, k = i + m := ⟨k - i, by omega⟩
      have e2 : st.testBit (i + m) = (st / 2 ^ i).testBit m := by rw [Nat.testBit_div_two_pow]; congr 1; omega
      rw [e2, Nat.add_sub_cancel_left]
      cases m with
      | zero =>
        rw [Nat.testBit_zero, Nat.testBit_zero]
        simp
        omega
      | succ m =>
        rw [Nat.testBit_succ, Nat.testBit_succ, show (st / 2 ^ i + 1) / 2 = st / 2 ^ i / 2 by omega]
        simp
  rw [e, Nat.testBit_or, Nat.testBit_two_pow]
theorem whole_bit {n j : Nat} : (2 ^ n - 1).testBit j = decide (j < n) := by rw [Nat.testBit_two_pow_sub_one]
theorem bit_lt {n st : Nat} (h : st < 2 ^ n) {j : Nat} (hj : n ≤ j) : st.testBit j = false := Nat.testBit_lt_two_pow (Nat.lt_of_lt_of_le h (Nat.pow_le_pow_right (by decide) hj))
theorem lt_of_bits {n st : Nat} (h : ∀ j, n ≤ j → st.testBit j = false) : st < 2 ^ n := Nat.lt_pow_two_of_testBit st h
theorem add_lt {n st i : Nat} (hst : st < 2 ^ n) (hi : i < n) (h : st.testBit i = false) : st + 2 ^ i < 2 ^ n := lt_of_bits fun j hj => by
  rw [bit_add h, bit_lt hst hj]
  have : ¬ i = j := by omega
  simp [this]
theorem eq_whole {n st : Nat} (hst : st < 2 ^ n) (h : ∀ j, j < n → st.testBit j = true) : st = 2 ^ n - 1 := Nat.eq_of_testBit_eq fun j => by
  rw [whole_bit]
  by_cases hj : j < n
  · rw [h j hj]; simp [hj]
  · rw [bit_lt hst (by omega)]; simp [hj]
theorem not_whole {n st : Nat} (hst : st < 2 ^ n) (h : st ≠ 2 ^ n - 1) : ∃ i, i < n ∧ st.testBit i = false := by
  by_cases hc : ∃ i, i < n ∧ st.testBit i = false
  · exact hc
  · refine absurd (eq_whole hst fun j hj => ?_) h
    cases hb : st.testBit j with
    | true => rfl
    | false => exact absurd ⟨j, hj, hb⟩ hc

/-! ### the imbalances of the states -/
def imbs (I : Int) : List Int → List Int
  | [] => [I]
  | cs => cs.foldl (fun L c => L ++ L.map (· + c)) [I]
/-- the imbalance of a state of the first jobs -/
def imbAt (I : Int) (cs : List Int) (st : Nat) : Int := I + ((List.range cs.length).map fun i => if st.testBit i then cs.getD i 0 else 0).sum
theorem sum_one {l : List Nat} {f g : Nat → Int} {i : Nat} {d : Int} (hl : l.Nodup) (hi : i ∈ l) (h : ∀ j ∈ l, j ≠ i → f j = g j) (hd : f i = g i + d) : (l.map f).sum = (l.map g).sum + d := by
  induction l with
  | nil => cases hi
  | cons a l ih =>
    rw [List.nodup_cons] at hl
    simp only [List.map_cons, List.sum_cons]
    rcases List.mem_cons.1 hi with rfl | hi
    · have : l.map f = l.map g := List.map_congr_left fun j hj => h j (by simp [hj]) (fun e => hl.1 (e ▸ hj))
      rw [this, hd]; omega
    · rw [ih hl.2 hi (fun j hj => h j (by simp [hj])), h a (by simp) (fun e => hl.1 (e ▸ hi))]; omega
theorem imb_add {I : Int} {cs : List Int} {st i : Nat} (hi : i < cs.length) (h : st.testBit i = false) : imbAt I cs (st + 2 ^ i) = imbAt I cs st + cs.getD i 0 := by
  unfold imbAt
  rw [sum_one (f := fun j => if (st + 2 ^ i).testBit j then cs.getD j 0 else 0) (g := fun j => if st.testBit j then cs.getD j 0 else 0) (i := i) (d := cs.getD i 0) List.nodup_range (List.mem_range.2 hi) (fun j _ hne => ?_) ?_]
  · omega
  · simp only [bit_add h, h]; simp
  · have h2 : ¬ i = j := fun e => hne e.symm
    simp only [bit_add h, h2, decide_false, Bool.or_false]
theorem imb_zero (I : Int) (cs : List Int) : imbAt I cs 0 = I := by
  unfold imbAt
  have : ((List.range cs.length).map fun i => if (0 : Nat).testBit i then cs.getD i 0 else 0) = (List.range cs.length).map fun _ => 0 := List.map_congr_left fun j _ => by simp
  rw [this]
  have h2 : ∀ l : List Nat, (l.map fun _ => (0 : Int)).sum = 0 := fun l => by
    induction l with
    | nil => rfl
    | cons a l ih => rw [List.map_cons, List.sum_cons, ih]; rfl
  rw [h2]; omega

/-! ### what is reached, and what reaches the whole -/
section
variable (held : Nat → Bool) (n : Nat)
inductive Rch : Nat → Prop
  | zero : held 0 = true → Rch 0
  | step {st i : Nat} : Rch st → i < n → st.testBit i = false → held (st + 2 ^ i) = true → Rch (st + 2 ^ i)
inductive Lds : Nat → Prop
  | whole : held (2 ^ n - 1) = true → Lds (2 ^ n - 1)
  | step {st i : Nat} : held st = true → i < n → st.testBit i = false → Lds (st + 2 ^ i) → Lds st
/-- an order of all jobs that are not done, each state of which is held -/
inductive Safe : Nat → List Nat → Prop
  | nil : Safe (2 ^ n - 1) []
  | cons {st i : Nat} {l : List Nat} : i < n → st.testBit i = false → held (st + 2 ^ i) = true → Safe (st + 2 ^ i) l → Safe st (i :: l)
end
section
variable {held : Nat → Bool} {n : Nat}
theorem Rch.ok {st : Nat} (h : Rch held n st) : held st = true := by cases h with
  | zero h => exact h
  | step _ _ _ h => exact h
theorem Rch.lt {st : Nat} (h : Rch held n st) : st < 2 ^ n := by
  induction h with
  | zero _ => exact Nat.two_pow_pos n
  | step _ hi hb _ ih => exact add_lt ih hi hb
theorem Lds.ok {st : Nat} (h : Lds held n st) : held st = true := by cases h with
  | whole h => exact h
  | step h _ _ _ => exact h
theorem Lds.reach {st : Nat} (h : Lds held n st) : Rch held n st → Rch held n (2 ^ n - 1) := by
  induction h with
  | whole _ => exact id
  | step _ hi hb hl ih => exact fun hr => ih (Rch.step hr hi hb hl.ok)
theorem Rch.back {st : Nat} (h : Rch held n st) : Lds held n st → Lds held n 0 := by
  induction h with
  | zero _ => exact id
  | step hr hi hb _ ih => exact fun hl => ih (Lds.step hr.ok hi hb hl)
/-- there is a safe order from the start exactly if the whole is reached -/
theorem lds_rch : Lds held n 0 ↔ Rch held n (2 ^ n - 1) :=
  ⟨fun h => h.reach (Rch.zero h.ok), fun h => h.back (Lds.whole h.ok)⟩
theorem Safe.reach {st : Nat} {l : List Nat} (h : Safe held n st l) : Rch held n st → Rch held n (2 ^ n - 1) := by
  induction h with
  | nil => exact id
  | cons hi hb hh _ ih => exact fun hr => ih (Rch.step hr hi hb hh)
/-- the state behind some jobs -/
def after (st : Nat) (l : List Nat) : Nat := l.foldl (fun s i => s + 2 ^ i) st
theorem after_bits : ∀ (l : List Nat) (st : Nat), l.Nodup → (∀ i ∈ l, st.testBit i = false) → ∀ j, (after st l).testBit j = (st.testBit j || decide (j ∈ l))
  | [], st, _, _, j => by simp [after]
  | i :: l, st, hn, hb, j => by
    rw [List.nodup_cons] at hn
    have h1 : after st (i :: l) = after (st + 2 ^ i) l := rfl
    rw [h1, after_bits l (st + 2 ^ i) hn.2 (fun k hk => by
      rw [bit_add (hb i (by simp)), hb k (by simp [hk])]
      have : ¬ i = k := fun e => hn.1 (e ▸ hk)
      simp [this]), bit_add (hb i (by simp))]
    by_cases e : i = j
    · subst e; simp
    · have e2 : ¬ j = i := fun h => e h.symm
      simp [e, e2]
theorem nodup_len : ∀ (n : Nat) (l : List Nat), l.Nodup → (∀ i ∈ l, i < n) → l.length ≤ n
  | 0, [], _, _ => Nat.le_refl _
  | 0, a :: l, _, h => absurd (h a (by simp)) (Nat.not_lt_zero _)
  | n + 1, l, hn, h => by
    by_cases hm : n ∈ l
    · have h1 := nodup_len n (l.erase n) (hn.erase n) (fun i hi => by
        have h2 := (hn.mem_erase_iff).1 hi
        have h3 := h i h2.2
        have h4 := h2.1
        omega)
      rw [List.length_erase_of_mem hm] at h1
      omega
    · have h1 := nodup_len n l hn (fun i hi => by
        have h3 := h i hi
        have h4 : i ≠ n := fun e => hm (e ▸ hi)
        omega)
      omega
theorem perm_mem {l : List Nat} (hn : l.Nodup) (hl : l.length = n) (h : ∀ i ∈ l, i < n) : ∀ j, j < n → j ∈ l := by
  intro j hj
  by_cases hm : j ∈ l
  · exact hm
  · have h1 := nodup_len n (j :: l) (List.nodup_cons.2 ⟨hm, hn⟩) (fun i hi => by
      rcases List.mem_cons.1 hi with rfl | hi
      · exact hj
      · exact h i hi)
    rw [List.length_cons] at h1
    omega
/-- an order of all jobs, each once, all states of which are held, is safe -/
theorem safe_of : ∀ (l : List Nat) (st : Nat), (∀ i ∈ l, i < n) → l.Nodup → (∀ i ∈ l, st.testBit i = false) → (∀ k, k ≤ l.length → 0 < k → held (after st (l.take k)) = true) → after st l = 2 ^ n - 1 → Safe held n st l
  | [], st, _, _, _, _, hw => by
    have : st = 2 ^ n - 1 := hw
    rw [this]; exact Safe.nil
  | i :: l, st, hi, hn, hb, hh, hw => by
    rw [List.nodup_cons] at hn
    refine Safe.cons (hi i (by simp)) (hb i (by simp)) (hh 1 (by simp) (by omega)) (safe_of l (st + 2 ^ i) (fun k hk => hi k (by simp [hk])) hn.2 (fun k hk => ?_) (fun k hk h0 => ?_) hw)
    · rw [bit_add (hb i (by simp)), hb k (by simp [hk])]
      have : ¬ i = k := fun e => hn.1 (e ▸ hk)
      simp [this]
    · exact hh (k + 1) (by simp only [List.length_cons]; omega) (by omega)
theorem after_whole {l : List Nat} (hn : l.Nodup) (hl : l.length = n) (h : ∀ i ∈ l, i < n) : after 0 l = 2 ^ n - 1 := by
  have hb := after_bits l 0 hn (fun i _ => by simp)
  refine eq_whole (lt_of_bits fun j hj => ?_) fun j hj => ?_
  · rw [hb]
    have : ¬ j ∈ l := fun hm => by have := h j hm; omega
    simp [this]
  · rw [hb]
    simp [perm_mem hn hl h j hj]
end
end Go.Proofs.YtcdkhlndohokcaaGreatDoor
namespace Go.Proofs.YtcdkhlndohokcaaGreatDoor

section
variable (held : Nat → Bool) (n : Nat)
/-- whether a state is reached, of the states beneath it -/
def reachOf (L : List Bool) (k : Nat) : Bool := held k && (decide (k = 0) || (List.range n).any fun i => k.testBit i && L.getD (k - 2 ^ i) false)
def reachL : Nat → List Bool
  | 0 => []
  | k + 1 => reachL k ++ [reachOf held n (reachL k) k]
/-- whether the whole is reached from a state, of the states above it (the last k states) -/
def goodOf (L : List Bool) (k st : Nat) : Bool := held st && (decide (st = 2 ^ n - 1) || (List.range n).any fun i => !st.testBit i && L.getD (st + 2 ^ i - (2 ^ n - k)) false)
def goodL : Nat → List Bool
  | 0 => []
  | k + 1 => goodOf held n (goodL k) k (2 ^ n - (k + 1)) :: goodL k
end
section
variable {held : Nat → Bool} {n : Nat}
theorem reachL_len : ∀ k, (reachL held n k).length = k
  | 0 => rfl
  | k + 1 => by rw [reachL, List.length_append, reachL_len k]; rfl
theorem goodL_len : ∀ k, (goodL held n k).length = k
  | 0 => rfl
  | k + 1 => by rw [goodL, List.length_cons, goodL_len k]
theorem getD_app {L : List Bool} {x : Bool} {j : Nat} : (L ++ [x]).getD j false = if j < L.length then L.getD j false else if j = L.length then x else false := by
  rw [List.getD, List.getD]
  by_cases h : j < L.length
  · rw [if_pos h, List.getElem?_append_left h]
  · rw [if_neg h, List.getElem?_append_right (by omega)]
    by_cases h2 : j = L.length
    · rw [if_pos h2, h2, Nat.sub_self]; rfl
    · rw [if_neg h2]
      obtain ⟨m, hm⟩ : ∃ m, j - L.length = m + 1 := ⟨j - L.length - 1, by omega⟩
      rw [hm]; rfl
theorem sub_bit {st i : Nat} (h : st.testBit i = true) : ∃ s, st = s + 2 ^ i ∧ s.testBit i = false := by
  have hge : 2 ^ i ≤ st := Nat.ge_two_pow_of_testBit h
  refine ⟨st - 2 ^ i, by omega, ?_⟩
  cases hb : (st - 2 ^ i).testBit i with
  | false => rfl
  | true =>
    have h2 := Nat.testBit_two_pow_add_eq (st - 2 ^ i) i
    rw [show 2 ^ i + (st - 2 ^ i) = st by omega, h, hb] at h2
    cases h2
/-- what the loop over the states lays: which are reached -/
theorem reachL_spec : ∀ k, k ≤ 2 ^ n → ∀ j, j < k → ((reachL held n k).getD j false = true ↔ Rch held n j)
  | 0, _, j, hj => absurd hj (Nat.not_lt_zero _)
  | k + 1, hk, j, hj => by
    have ih := reachL_spec k (by omega)
    rw [reachL, getD_app, reachL_len]
    by_cases h : j < k
    · rw [if_pos h]; exact ih j h
    · obtain rfl : j = k := by omega
      rw [if_neg h, if_pos rfl, reachOf, Bool.and_eq_true, Bool.or_eq_true, decide_eq_true_eq, List.any_eq_true]
      constructor
      · rintro ⟨h1, rfl | ⟨i, hi, h2⟩⟩
        · exact Rch.zero h1
        · rw [Bool.and_eq_true] at h2
          obtain ⟨s, rfl, hs⟩ := sub_bit h2.1
          have hp := Nat.two_pow_pos i
          rw [Nat.add_sub_cancel] at h2
          exact Rch.step ((ih s (by omega)).1 h2.2) (List.mem_range.1 hi) hs h1
      · intro hr
        refine ⟨hr.ok, ?_⟩
        cases hr with
        | zero _ => exact Or.inl rfl
        | @step s i hr hi hb _ =>
          have hp := Nat.two_pow_pos i
          refine Or.inr ⟨i, List.mem_range.2 hi, ?_⟩
          rw [Bool.and_eq_true, Nat.add_sub_cancel]
          exact ⟨by rw [bit_add hb]; simp, (ih s (by omega)).2 hr⟩
theorem goodL_spec : ∀ k, k ≤ 2 ^ n → ∀ j, 2 ^ n - k ≤ j → j < 2 ^ n → ((goodL held n k).getD (j - (2 ^ n - k)) false = true ↔ Lds held n j)
  | 0, _, j, h1, h2 => by omega
  | k + 1, hk, j, h1, h2 => by
    have ih := goodL_spec k (by omega)
    by_cases h : 2 ^ n - k ≤ j
    · rw [show j - (2 ^ n - (k + 1)) = (j - (2 ^ n - k)) + 1 by omega, goodL, List.getD_cons_succ]
      exact ih j h h2
    · obtain rfl : j = 2 ^ n - (k + 1) := by omega
      rw [Nat.sub_self, goodL, List.getD_cons_zero, goodOf, Bool.and_eq_true, Bool.or_eq_true, decide_eq_true_eq, List.any_eq_true]
      obtain ⟨st, hst⟩ : ∃ st, st = 2 ^ n - (k + 1) := ⟨_, rfl⟩
      rw [← hst]
      constructor
      · rintro ⟨h3, h4 | ⟨i, hi, h4⟩⟩
        · rw [h4] at h3 ⊢; exact Lds.whole h3
        · rw [Bool.and_eq_true, Bool.not_eq_true'] at h4
          have hi2 := List.mem_range.1 hi
          have hlt := add_lt (n := n) (show st < 2 ^ n by omega) hi2 h4.1
          have hp := Nat.two_pow_pos i
          exact Lds.step h3 hi2 h4.1 ((ih (st + 2 ^ i) (by omega) hlt).1 h4.2)
      · intro hl
        refine ⟨hl.ok, ?_⟩
        obtain ⟨st', hst'⟩ : ∃ s, s = st := ⟨_, rfl⟩
        rw [← hst'] at hl
        cases hl with
        | whole _ => exact Or.inl hst'.symm
        | @step _ i h3 hi hb hl2 =>
          rw [hst'] at hb hl2
          have hlt := add_lt (n := n) (show st < 2 ^ n by omega) hi hb
          have hp := Nat.two_pow_pos i
          refine Or.inr ⟨i, List.mem_range.2 hi, ?_⟩
          rw [Bool.and_eq_true, Bool.not_eq_true']
          exact ⟨hb, (ih (st + 2 ^ i) (by omega) hlt).2 hl2⟩
/-- the next job of the first safe order -/
def nextJob (good : Nat → Bool) (n st : Nat) : Option Nat := (List.range n).find? fun i => !st.testBit i && good (st + 2 ^ i)
theorem nextJob_some {good : Nat → Bool} (hg : ∀ st, st < 2 ^ n → (good st = true ↔ Lds held n st)) {st : Nat} (hst : st < 2 ^ n) (hl : Lds held n st) (hw : st ≠ 2 ^ n - 1) :
    ∃ i, nextJob good n st = some i ∧ i < n ∧ st.testBit i = false ∧ Lds held n (st + 2 ^ i) := by
  obtain ⟨st', hst'⟩ : ∃ s, s = st := ⟨_, rfl⟩
  rw [← hst'] at hl
  cases hl with
  | whole _ => exact absurd hst'.symm hw
  | @step _ i h3 hi hb hl2 =>
    rw [hst'] at hb hl2
    have hex : ((List.range n).find? fun i => !st.testBit i && good (st + 2 ^ i)).isSome = true := by
      rw [List.find?_isSome]
      exact ⟨i, List.mem_range.2 hi, by rw [hb]; simpa using (hg _ (add_lt hst hi hb)).2 hl2⟩
    obtain ⟨i', hi'⟩ := Option.isSome_iff_exists.1 hex
    have h4 := List.find?_some hi'
    have h5 := List.mem_range.1 (List.mem_of_find?_eq_some hi')
    rw [Bool.and_eq_true, Bool.not_eq_true'] at h4
    exact ⟨i', hi', h5, h4.1, (hg _ (add_lt hst h5 h4.1)).1 h4.2⟩
/-- the first safe order, from a state -/
def orderFrom (good : Nat → Bool) (n : Nat) : Nat → Nat → List Nat
  | 0, _ => []
  | f + 1, st => if st = 2 ^ n - 1 then [] else match nextJob good n st with
    | none => []
    | some i => i :: orderFrom good n f (st + 2 ^ i)
theorem order_safe {good : Nat → Bool} (hg : ∀ st, st < 2 ^ n → (good st = true ↔ Lds held n st)) : ∀ (f st : Nat), st < 2 ^ n → Lds held n st → 2 ^ n - 1 - st < f → Safe held n st (orderFrom good n f st)
  | 0, _, _, _, hf => absurd hf (Nat.not_lt_zero _)
  | f + 1, st, hst, hl, hf => by
    rw [orderFrom]
    by_cases hw : st = 2 ^ n - 1
    · rw [if_pos hw, hw]; exact Safe.nil
    · obtain ⟨i, h1, h2, h3, h4⟩ := nextJob_some hg hst hl hw
      rw [if_neg hw, h1]
      have hlt := add_lt hst h2 h3
      have hp := Nat.two_pow_pos i
      exact Safe.cons h2 h3 h4.ok (order_safe hg f _ hlt h4 (by omega))
theorem Safe.facts {st : Nat} {l : List Nat} (h : Safe held n st l) : st < 2 ^ n → l.Nodup ∧ (∀ i ∈ l, i < n ∧ st.testBit i = false) ∧ (∀ j, j < n → st.testBit j = false → j ∈ l) ∧ ∀ k, k ≤ l.length → 0 < k → held (after st (l.take k)) = true := by
  induction h with
  | nil =>
    intro _
    refine ⟨List.nodup_nil, fun i hi => (by cases hi), fun j hj hb => ?_, fun k hk h0 => (by simp only [List.length_nil] at hk; omega)⟩
    rw [whole_bit] at hb
    simp [hj] at hb
  | @cons st i l hi hb hh _ ih =>
    intro hst
    obtain ⟨h1, h2, h3, h4⟩ := ih (add_lt hst hi hb)
    refine ⟨List.nodup_cons.2 ⟨fun hm => ?_, h1⟩, fun j hj => ?_, fun j hj hb2 => ?_, fun k hk h0 => ?_⟩
    · have := (h2 i hm).2
      rw [bit_add hb] at this
      simp at this
    · rcases List.mem_cons.1 hj with rfl | hj
      · exact ⟨hi, hb⟩
      · have h5 := h2 j hj
        rw [bit_add hb, Bool.or_eq_false_iff] at h5
        exact ⟨h5.1, h5.2.1⟩
    · by_cases e : i = j
      · subst e; simp
      · exact List.mem_cons_of_mem _ (h3 j hj (by rw [bit_add hb, hb2]; simp [e]))
    · obtain ⟨m, rfl⟩ : ∃ m, k = m + 1 := ⟨k - 1, by omega⟩
      rw [List.take_succ_cons]
      show held (after (st + 2 ^ i) (l.take m)) = true
      by_cases hm : m = 0
      · subst hm; exact hh
      · exact h4 m (by simp only [List.length_cons] at hk; omega) (by omega)
theorem sub_len {l m : List Nat} (hn : l.Nodup) (h : ∀ x ∈ l, x ∈ m) : l.length ≤ m.length := by
  induction l generalizing m with
  | nil => exact Nat.zero_le _
  | cons a l ih =>
    rw [List.nodup_cons] at hn
    have h1 := ih (m := m.erase a) hn.2 (fun x hx => by
      have hne : x ≠ a := fun e => hn.1 (e ▸ hx)
      exact (List.mem_erase_of_ne hne).2 (h x (by simp [hx])))
    have h2 := List.length_erase_of_mem (h a (by simp))
    have h3 : 0 < m.length := List.length_pos_of_mem (h a (by simp))
    rw [List.length_cons]; omega
theorem Safe.len {l : List Nat} (h : Safe held n 0 l) : l.length = n := by
  obtain ⟨h1, h2, h3, -⟩ := h.facts (Nat.two_pow_pos n)
  have h4 := nodup_len n l h1 (fun i hi => (h2 i hi).1)
  have h5 := sub_len (l := List.range n) (m := l) List.nodup_range (fun j hj => h3 j (List.mem_range.1 hj) (by simp))
  rw [List.length_range] at h5
  omega
end

/-! ### the path of an order -/
/-- the imbalances of changes, one after the other -/
def pathL (I : Int) : List Int → List Int
  | [] => [I]
  | c :: cs => I :: pathL (I + c) cs
theorem pathL_len : ∀ (cs : List Int) (I : Int), (pathL I cs).length = cs.length + 1
  | [], _ => rfl
  | c :: cs, I => by rw [pathL, List.length_cons, pathL_len cs]; rfl
/-- an order's imbalances are those of its states -/
theorem path_states {I : Int} {cs : List Int} : ∀ (l : List Nat) (st : Nat), l.Nodup → (∀ i ∈ l, i < cs.length ∧ st.testBit i = false) → pathL (imbAt I cs st) (l.map fun i => cs.getD i 0) = (List.range (l.length + 1)).map fun k => imbAt I cs (after st (l.take k))
  | [], st, _, _ => rfl
  | i :: l, st, hn, h => by
    rw [List.nodup_cons] at hn
    have hi := h i (by simp)
    rw [List.map_cons, pathL, ← imb_add hi.1 hi.2, path_states l (st + 2 ^ i) hn.2 (fun j hj => ⟨(h j (by simp [hj])).1, by
      rw [bit_add hi.2, (h j (by simp [hj])).2]
      have : ¬ i = j := fun e => hn.1 (e ▸ hj)
      simp [this]⟩)]
    rw [List.length_cons, List.range_succ_eq_map (n := l.length + 1), List.map_cons, List.map_map]
    rfl
/-- there and back: the same imbalances -/
theorem path_app (I : Int) : ∀ (a b : List Int), pathL I (a ++ b) = (pathL I a).dropLast ++ pathL (I + a.sum) b
  | [], b => by simp [pathL]
  | c :: a, b => by
    rw [List.cons_append, pathL, path_app (I + c) a b, pathL, List.sum_cons, show I + (c + a.sum) = I + c + a.sum by omega]
    have hne : pathL (I + c) a ≠ [] := by cases a <;> simp [pathL]
    rw [List.dropLast_cons_of_ne_nil hne]; rfl
theorem path_back (I : Int) : ∀ (a : List Int), pathL (I + a.sum) (a.map (-·)).reverse = (pathL I a).reverse
  | [] => by simp [pathL]
  | c :: a => by
    have hs : ∀ l : List Int, ((l.map (-·)).reverse).sum = - l.sum := fun l => by
      induction l with
      | nil => rfl
      | cons x l ih => rw [List.map_cons, List.reverse_cons, List.sum_append, ih, List.sum_cons]; simp; omega
    have hl : (pathL (I + c) a).reverse = (pathL (I + c) a).reverse.dropLast ++ [I + c] := by
      cases a <;> simp [pathL]
    have e1 : pathL I (c :: a) = I :: pathL (I + c) a := rfl
    have e2 : ∀ x : Int, pathL x [-c] = [x, x + -c] := fun x => rfl
    rw [List.map_cons, List.reverse_cons, path_app, List.sum_cons, show I + (c + a.sum) = (I + c) + a.sum by omega, path_back (I + c) a, hs, show I + c + a.sum + -a.sum = I + c by omega, e2, e1, List.reverse_cons, show I + c + -c = I by omega]
    conv => rhs; rw [hl]
    simp
end Go.Proofs.YtcdkhlndohokcaaGreatDoor
namespace Go.Proofs.YtcdkhlndohokcaaGreatDoor
open Go.RowKit

structure JobD where
  name : ByteArray
  pipe : Bool
  weight : Int
def JobD.cells (j : JobD) : List Value := [.string j.name, .bool j.pipe, .int .i64 j.weight]
structure JobD.ok (j : JobD) : Prop where
  name : j.name.size ≤ maxLen
  weight : I64 j.weight
section
variable {W : World} {B b off : Nat} {t : TypeId}
theorem JobD.boxed {j : JobD} (hW : W.heap[b]? = some (.cells #[.string j.name, .bool j.pipe, .int .i64 j.weight] t (0, 0))) (hb : b < B) (x : After B W) : x.val.cell? ⟨b, 0, none⟩ = some (.string j.name) ∧ x.val.cell? ⟨b, 1, none⟩ = some (.bool j.pipe) ∧ x.val.cell? ⟨b, 2, none⟩ = some (.int .i64 j.weight) := ⟨x.cells hW hb 0 _ rfl, x.cells hW hb 1 _ rfl, x.cells hW hb 2 _ rfl⟩
theorem JobD.elem {l : List JobD} {k : Nat} {s : JobD} (hs : l[k]? = some s) (hb : b < B) (hc : ∀ i x, l[i]? = some x → ∀ j u, (x.cells)[j]? = some u → W.cell? ⟨b, off + (i * 3 + j), none⟩ = some u) (x : After B W) :
    x.val.cell? ⟨b, off + k * 3, none⟩ = some (.string s.name) ∧ x.val.cell? ⟨b, off + k * 3 + 1, none⟩ = some (.bool s.pipe) ∧ x.val.cell? ⟨b, off + k * 3 + 2, none⟩ = some (.int .i64 s.weight) := by
  have h : ∀ j u, s.cells[j]? = some u → x.val.cell? ⟨b, off + k * 3 + j, none⟩ = some u := fun j u hu => by rw [Nat.add_assoc]; exact x.cell (hc k s hs j u hu) hb
  exact ⟨h 0 _ rfl, h 1 _ rfl, h 2 _ rfl⟩
end
/-! ### weights and balance -/
def itemsE (l : List ItemD) : Int := (l.map (·.weight)).sum
def pipeE (s : SetD) : Int := s.pipe * (s.length / 1000)
def weightE (s : SetD) : Int := pipeE s + itemsE s.items.l
def brickE (l : List BrickD) : Int := (l.map fun b => b.weight * b.count).sum
def neededE (s : SetD) : Int := weightE s * s.purchase - s.arbor
def balE (s : SetD) : Int := neededE s - brickE s.bricks.l
def chgE (s : SetD) (x : JobD) : Int := if x.pipe then s.purchase * x.weight else -x.weight
def heldE (s : SetD) (n : Int) : Bool := decide (-s.brake ≤ n) && decide (n ≤ s.brake)
theorem itemsE_take {l : List ItemD} {k : Nat} {x : ItemD} (h : l[k]? = some x) : itemsE (l.take (k + 1)) = itemsE (l.take k) + x.weight := by
  unfold itemsE
  rw [List.take_add_one, h]
  simp
theorem brickE_take {l : List BrickD} {k : Nat} {x : BrickD} (h : l[k]? = some x) : brickE (l.take (k + 1)) = brickE (l.take k) + x.weight * x.count := by
  unfold brickE
  rw [List.take_add_one, h]
  simp
theorem counts_take {l : List BrickD} {k : Nat} {x : BrickD} (h : l[k]? = some x) : counts (l.take (k + 1)) = counts (l.take k) + x.count := by
  unfold counts
  rw [List.take_add_one, h]
  simp
theorem itemsE_small : ∀ (l : List ItemD), (∀ x ∈ l, 0 ≤ x.weight ∧ x.weight ≤ 1048576) → 0 ≤ itemsE l ∧ itemsE l ≤ 1048576 * l.length
  | [], _ => by simp [itemsE]
  | x :: l, h => by
    have h1 := h x (by simp)
    have h2 := itemsE_small l (fun y hy => h y (by simp [hy]))
    simp only [itemsE, List.map_cons, List.sum_cons, List.length_cons] at h2 ⊢
    omega
theorem brickE_small : ∀ (l : List BrickD), (∀ x ∈ l, 1 ≤ x.weight ∧ x.weight ≤ 1048576 ∧ 0 ≤ x.count ∧ x.count ≤ 60) → 0 ≤ brickE l ∧ brickE l ≤ 62914560 * l.length
  | [], _ => by simp [brickE]
  | x :: l, h => by
    obtain ⟨a, b, c, d⟩ := h x (by simp)
    have h2 := brickE_small l (fun y hy => h y (by simp [hy]))
    have h3 : 0 ≤ x.weight * x.count := Int.mul_nonneg (by omega) c
    have h4 : x.weight * x.count ≤ 1048576 * 60 := Int.mul_le_mul b d c (by omega)
    simp only [brickE, List.map_cons, List.sum_cons, List.length_cons] at h2 ⊢
    omega
/-- what a valid set says of its numbers -/
theorem set_nums {s : SetD} (h : setOk s = true) : (0 ≤ s.pipe ∧ s.pipe ≤ 1048576) ∧ (1000 ≤ s.length ∧ s.length ≤ 1048576) ∧ (0 ≤ s.arbor ∧ s.arbor ≤ 1048576) ∧ (1 ≤ s.purchase ∧ s.purchase ≤ 2) ∧ (0 ≤ s.brake ∧ s.brake ≤ 67108864) ∧
    s.items.l.length ≤ 40 ∧ s.bricks.l.length ≤ 8 ∧ (∀ x ∈ s.items.l, 0 ≤ x.weight ∧ x.weight ≤ 1048576) ∧ (∀ x ∈ s.bricks.l, 1 ≤ x.weight ∧ x.weight ≤ 1048576 ∧ 0 ≤ x.count ∧ x.count ≤ 60) := by
  simp only [setOk, setFirst, setSecond, linesOk, itemsOk, bricksOk, betweenB, Bool.and_eq_true, decide_eq_true_eq] at h
  obtain ⟨⟨⟨⟨⟨⟨⟨⟨⟨h1, h2⟩, h3⟩, h4⟩, h5⟩, h6⟩, ⟨h7, h7'⟩, h8⟩, ⟨⟨⟨⟨h9, h10⟩, h11⟩, h12⟩, h13⟩⟩, h14, h15⟩, ⟨h16, h17⟩, h18⟩ := h
  have mem : ∀ {α : Type} {p : Nat → α → Bool} {l : List α}, allIdx p l = true → ∀ x ∈ l, ∃ i, p i x = true := fun h x hx => by
    obtain ⟨j, hj, e⟩ := List.getElem_of_mem hx
    exact ⟨j, allIdx_iff.1 h j x (by rw [List.getElem?_eq_getElem hj, e])⟩
  refine ⟨h9, h5, h10, h11, h13, h14, h16, fun x hx => ?_, fun x hx => ?_⟩
  · obtain ⟨i, hi⟩ := mem h15 x hx
    simp only [itemAt, Bool.and_eq_true] at hi
    obtain ⟨a0, a1, a2, a3, a4, a5, a6⟩ := itemFine_iff.1 hi.1
    simp only [betweenB, Bool.and_eq_true, decide_eq_true_eq] at a3
    exact a3
  · obtain ⟨i, hi⟩ := mem h17 x hx
    simp only [brickAt, brickFine, betweenB, Bool.and_eq_true, decide_eq_true_eq] at hi
    exact ⟨hi.1.1.2.1, hi.1.1.2.2, hi.1.2.1, hi.1.2.2⟩
/-- a valid set's balance is small -/
theorem bal_small {s : SetD} (h : setOk s = true) : -4000000000 ≤ balE s ∧ balE s ≤ 4000000000 ∧ 0 ≤ weightE s ∧ weightE s ≤ 1200000000 ∧ 0 ≤ pipeE s ∧ pipeE s ≤ 1100000000 := by
  obtain ⟨h1, h2, h3, h4, h5, h6, h7, h8, h9⟩ := set_nums h
  have i1 := itemsE_small _ h8
  have b1 := brickE_small _ h9
  have p1 : 0 ≤ s.length / 1000 ∧ s.length / 1000 ≤ 1048 := by omega
  have p2 : 0 ≤ s.pipe * (s.length / 1000) := Int.mul_nonneg h1.1 p1.1
  have p3 : s.pipe * (s.length / 1000) ≤ 1048576 * 1048 := Int.mul_le_mul h1.2 p1.2 p1.1 (by omega)
  have w1 : 0 ≤ weightE s ∧ weightE s ≤ 1200000000 := by unfold weightE pipeE; omega
  have w2 : 0 ≤ weightE s * s.purchase := Int.mul_nonneg w1.1 (by omega)
  have w3 : weightE s * s.purchase ≤ 1200000000 * 2 := Int.mul_le_mul w1.2 h4.2 (by omega) (by omega)
  refine ⟨?_, ?_, w1.1, w1.2, p2, ?_⟩
  · unfold balE neededE; omega
  · unfold balE neededE; omega
  · unfold pipeE; omega
/-! ### valid jobs -/
def jobFine (x : JobD) : Bool := isName x.name && betweenB x.weight (-1048576) 1048576
def jobAt (l : List JobD) (i : Nat) (x : JobD) : Bool := jobFine x && !(l.take i).any (fun y => sameName y.name x.name)
def jobsOk (l : List JobD) : Bool := decide (l.length ≤ 100) && allIdx (jobAt l) l
theorem jobsOk_long {l : List JobD} (h : 100 < (l.length : Int)) : jobsOk l = false := by rw [jobsOk, decide_eq_false (by omega)]; rfl
theorem jobsOk_no {l : List JobD} {k : Nat} {x : JobD} (hx : l[k]? = some x) (h : jobAt l k x = false) : jobsOk l = false := by rw [jobsOk, allIdx_no hx h, Bool.and_false]
theorem jobsOk_yes {l : List JobD} {k : Nat} (h : (l.length : Int) ≤ 100) (hk : l.length ≤ k) (hu : UpTo (jobAt l) l k) : jobsOk l = true := by rw [jobsOk, decide_eq_true (by omega), hu.all hk]; rfl
theorem job_nums {l : List JobD} (h : jobsOk l = true) : l.length ≤ 100 ∧ ∀ x ∈ l, isName x.name = true ∧ -1048576 ≤ x.weight ∧ x.weight ≤ 1048576 := by
  rw [jobsOk, Bool.and_eq_true, decide_eq_true_eq] at h
  refine ⟨h.1, fun x hx => ?_⟩
  obtain ⟨j, hj, e⟩ := List.getElem_of_mem hx
  have h1 := allIdx_iff.1 h.2 j x (by rw [List.getElem?_eq_getElem hj, e])
  simp only [jobAt, jobFine, betweenB, Bool.and_eq_true, decide_eq_true_eq] at h1
  exact ⟨h1.1.1, h1.1.2.1, h1.1.2.2⟩
theorem chg_small {s : SetD} {x : JobD} (hs : setOk s = true) (h1 : -1048576 ≤ x.weight) (h2 : x.weight ≤ 1048576) : -2097152 ≤ chgE s x ∧ chgE s x ≤ 2097152 := by
  obtain ⟨-, -, -, hp, -⟩ := set_nums hs
  unfold chgE
  cases x.pipe
  · simp only [Bool.false_eq_true, if_false]; omega
  · simp only [if_true]
    have : s.purchase = 1 ∨ s.purchase = 2 := by omega
    rcases this with e | e <;> rw [e] <;> omega
end Go.Proofs.YtcdkhlndohokcaaGreatDoor
namespace Go.Proofs.YtcdkhlndohokcaaGreatDoor

def csE (s : SetD) (l : List JobD) : List Int := l.map (chgE s)
/-- whether a state of jobs is held -/
def heldSt (s : SetD) (l : List JobD) (st : Nat) : Bool := heldE s (imbAt (balE s) (csE s l) st)
theorem csE_len (s : SetD) (l : List JobD) : (csE s l).length = l.length := List.length_map ..
section
variable {s : SetD} {l : List JobD}
theorem held_zero : heldSt s l 0 = heldE s (balE s) := by unfold heldSt; rw [imb_zero]
/-- all imbalances of a safe order are held -/
theorem safe_path {o : List Nat} (h : Safe (heldSt s l) l.length 0 o) (h0 : heldSt s l 0 = true) : ∀ x ∈ pathL (balE s) (o.map fun i => (csE s l).getD i 0), heldE s x = true := by
  obtain ⟨h1, h2, -, h4⟩ := h.facts (Nat.two_pow_pos _)
  have hp := path_states (I := balE s) (cs := csE s l) o 0 h1 (fun i hi => ⟨by rw [csE_len]; exact (h2 i hi).1, (h2 i hi).2⟩)
  rw [imb_zero] at hp
  intro x hx
  rw [hp] at hx
  obtain ⟨k, hk, rfl⟩ := List.mem_map.1 hx
  rw [List.mem_range] at hk
  rcases Nat.eq_zero_or_pos k with rfl | hk0
  · rw [List.take_zero]; exact h0
  · exact h4 k (by omega) hk0
/-- an order that is checked, with a state that leads nowhere: there is none -/
theorem checked_reach {o : List Nat} (hn : o.Nodup) (hl : o.length = l.length) (hi : ∀ i ∈ o, i < l.length) (hh : ∀ k, k ≤ o.length → heldSt s l (after 0 (o.take k)) = true) : Lds (heldSt s l) l.length 0 := by
  have hw := after_whole hn hl hi
  have hs := safe_of (held := heldSt s l) o 0 hi hn (fun i _ => by simp) (fun k hk _ => hh k hk) hw
  have h0 : heldSt s l 0 = true := by have := hh 0 (Nat.zero_le _); rwa [List.take_zero] at this
  exact lds_rch.2 (hs.reach (Rch.zero h0))
end
/-- there and back -/
theorem back_mem {I : Int} {cs : List Int} : ∀ x ∈ pathL I (cs ++ (cs.map (-·)).reverse), x ∈ pathL I cs := by
  intro x hx
  rw [path_app, path_back, List.mem_append] at hx
  rcases hx with hx | hx
  · exact List.dropLast_subset _ hx
  · exact List.mem_reverse.1 hx
theorem back_len {I : Int} {cs : List Int} : (pathL I (cs ++ (cs.map (-·)).reverse)).length = 2 * cs.length + 1 := by
  rw [pathL_len, List.length_append, List.length_reverse, List.length_map]; omega
theorem back_last {I : Int} {cs : List Int} : (pathL I (cs ++ (cs.map (-·)).reverse)).getLast? = some I := by
  rw [path_app, path_back]
  have hne : (pathL I cs).reverse ≠ [] := by cases cs <;> simp [pathL]
  have hl : (pathL I cs).reverse = (pathL I cs).reverse.dropLast ++ [I] := by cases cs <;> simp [pathL]
  rw [hl, ← List.append_assoc, List.getLast?_concat]
/-- a changed sign: the opposite job -/
theorem chg_neg (s : SetD) (x : JobD) (n : ByteArray) : chgE s ⟨n, x.pipe, -x.weight⟩ = - chgE s x := by
  unfold chgE
  cases x.pipe
  · simp
  · simp only [if_true]; rw [Int.mul_neg]
end Go.Proofs.YtcdkhlndohokcaaGreatDoor
