/- Numbers and their texts, in plain Lean: a number is read back from its text; a text that is read, with all its digits, is its number's. -/
import Derived.Test.YtplblogdgbnbdaaDoorDecFmt
import Derived.Test.YtplblogdgbnbdaaDoorDecCut
namespace Go.Proofs.YtplblogdgbnbdaaDoor
open Go Go.Lib

/-- the value of digits behind a number -/
def valN (n : Nat) (l : List UInt8) : Nat := l.foldl (fun n c => 10 * n + (c.toNat - 48)) n
theorem valN_nil (n : Nat) : valN n [] = n := by unfold valN; rw [List.foldl_nil]
theorem valN_cons (n : Nat) (c : UInt8) (l : List UInt8) : valN n (c :: l) = valN (10 * n + (c.toNat - 48)) l := by unfold valN; rw [List.foldl_cons]
theorem valN_append (l l' : List UInt8) (n : Nat) : valN n (l ++ l') = valN (valN n l) l' := by
  unfold valN
  rw [List.foldl_append]
theorem valN_from : ∀ (l : List UInt8) (n : Nat), valN n l = n * 10 ^ l.length + valN 0 l
  | [], n => by simp [valN_nil]
  | c :: l, n => by
    simp only [valN_cons, List.length_cons]
    rw [valN_from l (10 * n + (c.toNat - 48)), valN_from l (10 * 0 + (c.toNat - 48)), Nat.pow_succ, Nat.add_mul, Nat.mul_comm 10 n, Nat.mul_assoc, Nat.mul_comm 10 (10 ^ l.length)]
    simp [Nat.add_assoc]
theorem valN_ge (l : List UInt8) (n : Nat) : n ≤ valN n l := by
  rw [valN_from]
  have : 1 ≤ 10 ^ l.length := Nat.one_le_pow _ _ (by decide)
  have : n * 1 ≤ n * 10 ^ l.length := Nat.mul_le_mul_left _ this
  omega
theorem dig_bounds {c : UInt8} (h : isDig c = true) : 48 ≤ c.toNat ∧ c.toNat ≤ 57 := by
  have : 48 ≤ (c.toNat : Int) ∧ (c.toNat : Int) ≤ 57 := by simpa [isDig, digitB] using h
  omega
theorem valN_lt : ∀ (l : List UInt8), l.all isDig = true → valN 0 l < 10 ^ l.length
  | [], _ => by simp [valN_nil]
  | c :: l, h => by
    simp only [List.all_cons, Bool.and_eq_true] at h
    have hc := dig_bounds h.1
    have := valN_lt l h.2
    simp only [valN_cons, List.length_cons]
    rw [valN_from, Nat.pow_succ]
    have : (10 * 0 + (c.toNat - 48)) * 10 ^ l.length ≤ 9 * 10 ^ l.length := Nat.mul_le_mul_right _ (by omega)
    omega
theorem accum_val : ∀ (l : List UInt8) (n : Nat), l.all isDig = true → n ≤ 1152921504606846976 → accum l n = if valN n l ≤ 1152921504606846976 then some ((valN n l : Nat) : Int) else none
  | [], n, _, h => by simp [accum, valN_nil, h]
  | c :: l, n, hd, h => by
    simp only [List.all_cons, Bool.and_eq_true] at hd
    have hc := dig_bounds hd.1
    have hcc : ((c.toNat : Int) - 48) = ((c.toNat - 48 : Nat) : Int) := by omega
    unfold accum
    rw [hcc, valN_cons]
    by_cases hb : (1152921504606846976 - ((c.toNat - 48 : Nat) : Int)) / 10 < n
    · have := valN_ge l (10 * n + (c.toNat - 48))
      rw [if_pos hb, if_neg (by omega)]
    · rw [if_neg hb]
      have := accum_val l (10 * n + (c.toNat - 48)) hd.2 (by omega)
      rw [← this]
      congr 1
theorem isDig_dg (u j : Nat) : isDig (dg u j) = true := by
  have hm : u / 10 ^ j % 10 < 10 := Nat.mod_lt _ (by decide)
  have : (dg u j).toNat = 48 + u / 10 ^ j % 10 := by
    unfold dg
    exact UInt8.toNat_ofNat_of_lt' (by simp only [UInt8.size]; omega)
  simp [isDig, digitB, this]
  omega
theorem dg_toNat (u j : Nat) : (dg u j).toNat = 48 + u / 10 ^ j % 10 := by
  have hm : u / 10 ^ j % 10 < 10 := Nat.mod_lt _ (by decide)
  unfold dg
  exact UInt8.toNat_ofNat_of_lt' (by simp only [UInt8.size]; omega)
theorem lowDigits_all (u : Nat) : ∀ j, (lowDigits u j).all isDig = true
  | 0 => rfl
  | j + 1 => by simp [lowDigits, isDig_dg, lowDigits_all u j]
theorem decDigits_all (u : Nat) : (decDigits u).all isDig = true := by rw [decDigits_low]; exact lowDigits_all _ _
theorem valN_low (u : Nat) : ∀ j, valN 0 (lowDigits u j) = u % 10 ^ j
  | 0 => by simp [lowDigits, valN_nil, Nat.mod_one]
  | j + 1 => by
    simp only [lowDigits, valN_cons]
    rw [valN_from, lowDigits_length, valN_low u j, dg_toNat, Nat.mod_pow_succ]
    simp [Nat.mul_comm, Nat.add_comm]
theorem valN_dec (u : Nat) : valN 0 (decDigits u) = u := by
  rw [decDigits_low, valN_low, Nat.mod_eq_of_lt (lt_pow_nDigits u)]
theorem low_val : ∀ (l : List UInt8), l.all isDig = true → ∀ n : Nat, lowDigits (n * 10 ^ l.length + valN 0 l) l.length = l
  | [], _, _ => rfl
  | c :: l, h, n => by
    simp only [List.all_cons, Bool.and_eq_true] at h
    have hc := dig_bounds h.1
    have hlt := valN_lt l h.2
    simp only [valN_cons, List.length_cons, lowDigits]
    rw [valN_from l (10 * 0 + (c.toNat - 48)), Nat.mul_zero, Nat.zero_add]
    have e : n * 10 ^ (l.length + 1) + ((c.toNat - 48) * 10 ^ l.length + valN 0 l) = (n * 10 + (c.toNat - 48)) * 10 ^ l.length + valN 0 l := by
      rw [Nat.pow_succ, Nat.mul_comm (10 ^ l.length) 10, ← Nat.mul_assoc, Nat.add_mul, Nat.add_assoc]
    rw [e, low_val l h.2]
    congr 1
    apply UInt8.toNat_inj.1
    rw [dg_toNat, Nat.mul_comm, Nat.mul_add_div (Nat.pow_pos (by decide)), Nat.div_eq_of_lt hlt]
    omega
theorem allDig_dec (u : Nat) : allDig (decDigits u) = true := by
  have h1 := nDigits_pos u
  have h2 := decDigits_length u
  have h3 := decDigits_all u
  cases hd : decDigits u with
  | nil => rw [hd] at h2; simp at h2; omega
  | cons c l => rw [hd] at h3; unfold allDig; rw [h3]; rfl
/-- a numeral of more digits than one does not begin with a zero -/
theorem dec_head (u : Nat) (h : 1 < (decDigits u).length) : (decDigits u).head? ≠ some 48 := by
  rw [decDigits_length] at h
  obtain ⟨k, hk⟩ : ∃ k, nDigits u = k + 1 := ⟨nDigits u - 1, by omega⟩
  rw [decDigits_low, hk]
  simp only [lowDigits, List.head?_cons, ne_eq, Option.some.injEq]
  intro e
  have e2 : (dg u k).toNat = 48 := by rw [e]; rfl
  rw [dg_toNat] at e2
  have hlt := lt_pow_nDigits u
  rw [hk, Nat.pow_succ] at hlt
  have : u / 10 ^ k < 10 := Nat.div_lt_of_lt_mul hlt
  rw [Nat.mod_eq_of_lt this] at e2
  have h0 : u < 10 ^ k := by
    rcases Nat.lt_or_ge u (10 ^ k) with h | h
    · exact h
    · have := Nat.div_pos h (Nat.pow_pos (by decide)); omega
  have := nDigits_le u (k - 1) (by rw [show k - 1 + 1 = k by omega]; exact h0)
  omega
theorem form_dec (u k j : Nat) (part : List UInt8) (pt : Bool) (hk : k ≤ j) (hp : (pt = false) ∨ (allDig part = true ∧ part.length = k)) : formB (decDigits u) part pt j = true := by
  unfold formB
  have h48 : (decide (1 < (decDigits u).length) && (decDigits u).head? == some 48) = false := by
    by_cases h : 1 < (decDigits u).length
    · have := dec_head u h
      simp [this]
    · simp [h]
  rw [allDig_dec, h48]
  rcases hp with rfl | ⟨h1, h2⟩
  · rfl
  · simp [h1, h2, hk]
theorem noPoint {l : List UInt8} (h : l.all isDig = true) : ∀ (j : Nat) (d : UInt8), l[j]? = some d → d ≠ 46 := fun j d hd => dig_ne (List.all_eq_true.1 h d (List.mem_iff_getElem?.2 ⟨j, hd⟩))
theorem cut_dec {l p : List UInt8} (h : l.all isDig = true) : cut (l ++ 46 :: p) [46] = (l, p, true) := by
  rw [cut_at (w := l.length) (by simp) (fun j hj d hd => noPoint h j d (by rwa [List.getElem?_append_left hj] at hd))]
  simp
theorem fmt_sign (n : Int) (k : Nat) : hasPrefix (fmtL n k) [45] = decide (n < 0) ∧ trimPrefix (fmtL n k) [45] = fmtAbs n.natAbs k := by
  have hno : hasPrefix (fmtAbs n.natAbs k) [45] = false := by
    unfold fmtAbs
    have h2 := decDigits_length (n.natAbs / 10 ^ k)
    have h3 := decDigits_all (n.natAbs / 10 ^ k)
    have h4 := nDigits_pos (n.natAbs / 10 ^ k)
    cases hd : decDigits (n.natAbs / 10 ^ k) with
    | nil => rw [hd] at h2; simp at h2; omega
    | cons c l =>
      rw [hd] at h3
      simp only [List.all_cons, Bool.and_eq_true] at h3
      have := dig_bounds h3.1
      simp only [hasPrefix, List.cons_append, List.isPrefixOf, Bool.and_true]
      rw [beq_eq_false_iff_ne]
      intro e
      rw [← e] at this
      exact absurd this (by decide)
  unfold fmtL
  by_cases h : n < 0
  · rw [if_pos h]
    refine ⟨by simp [hasPrefix, List.isPrefixOf, h], ?_⟩
    unfold trimPrefix
    simp [hasPrefix, List.isPrefixOf]
  · rw [if_neg h, List.nil_append]
    refine ⟨by simp [hno, h], ?_⟩
    unfold trimPrefix
    rw [hno]; rfl
/-- a number's text, read with as many digits or more -/
theorem parse_fmt (n : Int) (k j : Nat) (hkj : k ≤ j) : parseE (fmtL n k) j = if n.natAbs * 10 ^ (j - k) ≤ 1152921504606846976 then (n * (10 ^ (j - k) : Nat), 0) else (0, 5) := by
  obtain ⟨h1, h2⟩ := fmt_sign n k
  unfold parseE
  rw [h1, h2]
  have hval : ∀ (part : List UInt8), part = lowDigits n.natAbs k → valN 0 (decDigits (n.natAbs / 10 ^ k) ++ part ++ List.replicate (j - part.length) 48) = n.natAbs * 10 ^ (j - k) := by
    rintro part rfl
    have hz : ∀ (m v : Nat), valN v (List.replicate m 48) = v * 10 ^ m := by
      intro m
      induction m with
      | zero => intro v; simp [valN_nil]
      | succ m ih =>
        intro v
        rw [List.replicate_succ, valN_cons, show 10 * v + ((48 : UInt8).toNat - 48) = 10 * v from rfl, ih, Nat.pow_succ, Nat.mul_comm 10 v, Nat.mul_assoc, Nat.mul_comm 10]
    rw [valN_append, hz, valN_append, valN_dec, valN_from, lowDigits_length, valN_low]
    congr 1
    rw [Nat.mul_comm]; exact Nat.div_add_mod _ _
  have hall : ∀ (part : List UInt8), part = lowDigits n.natAbs k → (decDigits (n.natAbs / 10 ^ k) ++ part ++ List.replicate (j - part.length) 48).all isDig = true := by
    rintro part rfl
    simp only [List.all_append, decDigits_all, lowDigits_all, Bool.and_self, Bool.true_and]
    rw [List.all_eq_true]
    intro c hc
    rw [(List.mem_replicate.1 hc).2]
    rfl
  have fin : ∀ (part : List UInt8) (pt : Bool), part = lowDigits n.natAbs k → formB (decDigits (n.natAbs / 10 ^ k)) part pt j = true →
      parseParts (decide (n < 0)) (decDigits (n.natAbs / 10 ^ k)) part pt j = if n.natAbs * 10 ^ (j - k) ≤ 1152921504606846976 then (n * (10 ^ (j - k) : Nat), 0) else (0, 5) := by
    intro part pt hp hf
    unfold parseParts
    have ha : accum (decDigits (n.natAbs / 10 ^ k) ++ part ++ List.replicate (j - part.length) 48) 0 = _ := accum_val _ 0 (hall part hp) (by omega)
    rw [if_pos hf, ha, hval part hp]
    split
    · by_cases h : n < 0
      · rw [decide_eq_true h]
        show ((-(((n.natAbs * 10 ^ (j - k) : Nat)) : Int)), (0 : Int)) = _
        congr 1
        rw [Int.natCast_mul]
        generalize ((10 ^ (j - k) : Nat) : Int) = p
        rw [← Int.neg_mul, show (-(n.natAbs : Int)) = n by omega]
      · rw [decide_eq_false h]
        show (((n.natAbs * 10 ^ (j - k) : Nat) : Int), (0 : Int)) = _
        congr 1
        rw [Int.natCast_mul]
        generalize ((10 ^ (j - k) : Nat) : Int) = p
        rw [show (n.natAbs : Int) = n by omega]
    · rfl
  unfold fmtAbs
  by_cases hk : k = 0
  · subst hk
    rw [if_pos rfl, List.append_nil]
    rw [show cut (decDigits (n.natAbs / 10 ^ 0)) [46] = (decDigits (n.natAbs / 10 ^ 0), [], false) from cut_not (noPoint (decDigits_all _))]
    exact fin [] false rfl (form_dec _ 0 j [] false (Nat.zero_le _) (Or.inl rfl))
  · rw [if_neg hk, cut_dec (decDigits_all _)]
    refine fin _ true rfl (form_dec _ k j _ true hkj (Or.inr ⟨?_, lowDigits_length _ _⟩))
    have hl := lowDigits_all n.natAbs k
    obtain ⟨m, rfl⟩ : ∃ m, k = m + 1 := ⟨k - 1, by omega⟩
    unfold allDig
    rw [hl]
    rfl
end Go.Proofs.YtplblogdgbnbdaaDoor
