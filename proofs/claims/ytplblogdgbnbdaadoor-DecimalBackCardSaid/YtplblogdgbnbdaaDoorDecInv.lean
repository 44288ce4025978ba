/- A text that is read, and has all its digits, is its number's text, but for a minus sign before zero. -/
import Derived.Test.YtplblogdgbnbdaaDoorDecVal
import Derived.Test.YtplblogdgbnbdaaDoorDecTok
namespace Go.Proofs.YtplblogdgbnbdaaDoor
open Go Go.Lib

/-- digits without a zero ahead are the numeral of their value -/
theorem dec_val {ds : List UInt8} (h : allDig ds = true) (h0 : (decide (1 < ds.length) && ds.head? == some 48) = false) : decDigits (valN 0 ds) = ds := by
  have hall := all_of_allDig h
  have hlt := valN_lt ds hall
  have hpos : 0 < ds.length := by
    cases ds with
    | nil => simp [allDig] at h
    | cons => simp
  have hn : nDigits (valN 0 ds) = ds.length := by
    by_cases h1 : 1 < ds.length
    · obtain ⟨k, hk⟩ : ∃ k, ds.length = k + 1 := ⟨ds.length - 1, by omega⟩
      rw [hk] at hlt ⊢
      refine nDigits_unique k _ ?_ hlt
      cases ds with
      | nil => simp at hpos
      | cons c l =>
        simp only [List.all_cons, Bool.and_eq_true] at hall
        have hc := dig_bounds hall.1
        simp only [List.length_cons, Nat.add_right_cancel_iff] at hk
        have hne : c.toNat ≠ 48 := by
          intro e
          have : c = 48 := UInt8.toNat_inj.1 e
          rw [this] at h0
          simp only [List.length_cons, List.head?_cons] at h0
          simp at h0
          rw [h0] at h1
          simp at h1
        rw [valN_cons, valN_from, hk]
        have : 1 * 10 ^ k ≤ (10 * 0 + (c.toNat - 48)) * 10 ^ k := Nat.mul_le_mul_right _ (by omega)
        omega
    · have e : ds.length = 1 := by omega
      rw [e] at hlt ⊢
      exact nDigits_small (by simpa using hlt)
  rw [decDigits_low, hn]
  have := low_val ds hall 0
  rwa [Nat.zero_mul, Nat.zero_add] at this
theorem formB_parts {whole part : List UInt8} {pt : Bool} {k : Nat} (h : formB whole part pt k = true) : allDig whole = true ∧ (decide (1 < whole.length) && whole.head? == some 48) = false ∧ (pt = false ∨ (allDig part = true ∧ part.length ≤ k)) := by
  unfold formB at h
  simp only [Bool.and_eq_true, Bool.or_eq_true, Bool.not_eq_true', decide_eq_true_eq] at h
  obtain ⟨⟨h1, h2⟩, h3⟩ := h
  exact ⟨h1, h2, h3⟩
theorem indexByte_none {l : List UInt8} (h : ∀ d ∈ l, d ≠ 46) : indexByte l 46 = -1 := by
  induction l with
  | nil => rfl
  | cons c l ih =>
    have hc : (c == 46) = false := by have := h c (by simp); simpa using this
    simp [indexByte, hc, ih fun d hd => h d (by simp [hd])]
theorem indexByte_at {l p : List UInt8} (h : ∀ d ∈ l, d ≠ 46) : indexByte (l ++ 46 :: p) 46 = l.length := by
  induction l with
  | nil => simp [indexByte]
  | cons c l ih =>
    have hc : (c == 46) = false := by have := h c (by simp); simpa using this
    have := ih fun d hd => h d (by simp [hd])
    simp only [List.cons_append, indexByte, hc, this, List.length_cons]
    have : ((l.length : Int) == -1) = false := by rw [beq_eq_false_iff_ne]; omega
    simp [this]
/-- are all the digits there? -/
def fullB (l : List UInt8) (k : Nat) : Bool := decide (k = 0) || (decide (0 ≤ indexByte l 46) && decide ((l.length : Int) - indexByte l 46 - 1 = k))
theorem digs_ne {l : List UInt8} (h : l.all isDig = true) : ∀ d ∈ l, d ≠ 46 := fun d hd => dig_ne (List.all_eq_true.1 h d hd)
theorem cut_index {r : List UInt8} : (∃ w p, cut r [46] = (w, p, true) ∧ r = w ++ 46 :: p) ∨ (cut r [46] = (r, [], false)) := by
  rcases index_spec r [46] with ⟨h1, _⟩ | ⟨m, h1, h2, h3, _⟩
  · right; unfold cut; rw [h1, if_neg (by decide)]
  · left
    rw [occAt_one] at h3
    have h3 : r[m]? = some 46 := by simpa using h3
    obtain ⟨hlt, e⟩ := List.getElem?_eq_some_iff.1 h3
    refine ⟨r.take m, r.drop (m + 1), ?_, ?_⟩
    · unfold cut; rw [h1, if_pos (by omega)]; simp
    · rw [← e]; simp
theorem sign_text (l : List UInt8) : (hasPrefix l [45] = true ∧ l = 45 :: trimPrefix l [45]) ∨ (hasPrefix l [45] = false ∧ l = trimPrefix l [45]) := by
  cases h : hasPrefix l [45]
  · right; exact ⟨rfl, by unfold trimPrefix; rw [h]; rfl⟩
  · left
    refine ⟨rfl, ?_⟩
    unfold trimPrefix
    rw [h, if_pos rfl]
    cases l with
    | nil => simp [hasPrefix, List.isPrefixOf] at h
    | cons c l => simp [hasPrefix, List.isPrefixOf] at h; rw [← h]; rfl
theorem parts_inv {neg pt : Bool} {whole part : List UInt8} {k : Nat} {v : Int} (hp : parseParts neg whole part pt k = (v, 0)) (hpt : pt = false → part = []) :
    formB whole part pt k = true ∧ ∃ m : Nat, m = valN 0 (whole ++ part ++ List.replicate (k - part.length) 48) ∧ m ≤ 1152921504606846976 ∧ v = if neg = true then -(m : Int) else (m : Int) := by
  unfold parseParts at hp
  split at hp
  · rename_i hf
    refine ⟨hf, _, rfl, ?_⟩
    obtain ⟨h1, _, h3⟩ := formB_parts hf
    have hpart : part.all isDig = true := by
      rcases h3 with h3 | ⟨h3, _⟩
      · rw [hpt h3]; rfl
      · exact all_of_allDig h3
    have hz : (List.replicate (k - part.length) (48 : UInt8)).all isDig = true := by
      rw [List.all_eq_true]; intro c hc; rw [(List.mem_replicate.1 hc).2]; rfl
    have hall : (whole ++ part ++ List.replicate (k - part.length) 48).all isDig = true := by
      rw [List.all_append, List.all_append, all_of_allDig h1, hpart, hz]; rfl
    have ha : accum (whole ++ part ++ List.replicate (k - part.length) 48) 0 = _ := accum_val _ 0 hall (by omega)
    rw [ha] at hp
    split at hp
    · rename_i hle
      exact ⟨hle, (congrArg Prod.fst hp).symm⟩
    · have := congrArg Prod.snd hp
      cases this
  · have := congrArg Prod.snd hp
    cases this
theorem fmt_abs {n : Int} {m k : Nat} (h : n.natAbs = m) : fmtL n k = (if n < 0 then [45] else []) ++ fmtAbs m k := by unfold fmtL; rw [h]
/-- what a text that is read says of its number -/
theorem fmt_parse (l : List UInt8) (k : Nat) (v : Int) (h : parseE l k = (v, 0)) : v.natAbs ≤ 1152921504606846976 ∧ (fullB l k = true → fmtL v k = l ∨ (v = 0 ∧ 45 :: fmtL v k = l)) := by
  have fin : ∀ m : Nat, (v = if hasPrefix l [45] = true then -(m : Int) else (m : Int)) → m ≤ 1152921504606846976 → v.natAbs ≤ 1152921504606846976 ∧ (fmtAbs m k = trimPrefix l [45] → fmtL v k = l ∨ (v = 0 ∧ 45 :: fmtL v k = l)) := by
    intro m hv hm
    rcases sign_text l with ⟨hs, hl⟩ | ⟨hs, hl⟩
    · rw [hs, if_pos rfl] at hv
      refine ⟨by omega, fun ht => ?_⟩
      by_cases h0 : m = 0
      · subst h0
        right
        refine ⟨by omega, ?_⟩
        rw [fmt_abs (m := 0) (by omega), if_neg (by omega), List.nil_append, ht]
        exact hl.symm
      · left
        rw [fmt_abs (m := m) (by omega), if_pos (by omega), ht]
        exact hl.symm
    · rw [hs, if_neg (by decide)] at hv
      refine ⟨by omega, fun ht => Or.inl ?_⟩
      rw [fmt_abs (m := m) (by omega), if_neg (by omega), List.nil_append, ht]
      exact hl.symm
  unfold parseE at h
  have hpoint : ∀ w p, trimPrefix l [45] = w ++ 46 :: p → (∀ d ∈ w, d ≠ 46) → (l.length : Int) - indexByte l 46 - 1 = p.length ∧ 0 ≤ indexByte l 46 := by
    intro w p hr hw
    rcases sign_text l with ⟨_, hl⟩ | ⟨_, hl⟩
    · rw [hl, hr, show 45 :: (w ++ 46 :: p) = (45 :: w) ++ 46 :: p from rfl, indexByte_at (fun d hd => by
        rcases List.mem_cons.1 hd with rfl | hd
        · decide
        · exact hw d hd)]
      simp; omega
    · rw [hl, hr, indexByte_at hw]
      simp; omega
  have hnopoint : (∀ d ∈ trimPrefix l [45], d ≠ 46) → indexByte l 46 = -1 := by
    intro hw
    rcases sign_text l with ⟨_, hl⟩ | ⟨_, hl⟩
    · rw [hl]; exact indexByte_none (fun d hd => by
        rcases List.mem_cons.1 hd with rfl | hd
        · decide
        · exact hw d hd)
    · rw [hl]; exact indexByte_none hw
  rcases cut_index (r := trimPrefix l [45]) with ⟨w, p, hc, hr⟩ | hc
  · rw [hc] at h
    dsimp only at h
    obtain ⟨hf, m, hm, hle, hv⟩ := parts_inv h (fun h => by cases h)
    obtain ⟨h1, h2, h3⟩ := formB_parts hf
    obtain ⟨f1, f2⟩ := fin m hv hle
    refine ⟨f1, fun hfull => f2 ?_⟩
    rcases h3 with h3 | ⟨h3, h4⟩
    · cases h3
    · have hp1 : 0 < p.length := by
        cases p with
        | nil => simp [allDig] at h3
        | cons => simp
      obtain ⟨i1, i2⟩ := hpoint w p hr (digs_ne (all_of_allDig h1))
      have hpk : p.length = k := by
        unfold fullB at hfull
        simp only [Bool.or_eq_true, Bool.and_eq_true, decide_eq_true_eq] at hfull
        rcases hfull with h | ⟨_, h⟩
        · omega
        · exact Int.ofNat_inj.1 (i1.symm.trans h)
      rw [hpk, Nat.sub_self, List.replicate_zero, List.append_nil] at hm
      have hall := all_of_allDig h3
      have hlt := valN_lt p hall
      rw [valN_append, valN_from] at hm
      rw [hpk] at hm hlt
      have e1 : m / 10 ^ k = valN 0 w := by
        rw [hm, Nat.mul_comm, Nat.mul_add_div (Nat.pow_pos (by decide)), Nat.div_eq_of_lt hlt, Nat.add_zero]
      have e2 : lowDigits m k = p := by
        have := low_val p hall (valN 0 w)
        rw [hpk, ← hm] at this
        exact this
      unfold fmtAbs
      rw [if_neg (by omega), e1, e2, dec_val h1 h2, hr]
  · rw [hc] at h
    dsimp only at h
    obtain ⟨hf, m, hm, hle, hv⟩ := parts_inv h (fun _ => rfl)
    obtain ⟨h1, h2, _⟩ := formB_parts hf
    obtain ⟨f1, f2⟩ := fin m hv hle
    refine ⟨f1, fun hfull => f2 ?_⟩
    have hi := hnopoint (digs_ne (all_of_allDig h1))
    have hk : k = 0 := by
      unfold fullB at hfull
      rw [hi] at hfull
      simp only [Bool.or_eq_true, Bool.and_eq_true, decide_eq_true_eq] at hfull
      rcases hfull with h | ⟨h, _⟩
      · exact h
      · omega
    subst hk
    rw [List.append_nil, List.length_nil, Nat.sub_self, List.replicate_zero, List.append_nil] at hm
    rw [fmtAbs_zero, hm, dec_val h1 h2]
/-- an error comes with the number 0 -/
theorem parse_zero (l : List UInt8) (k : Nat) : (parseE l k).2 = 0 ∨ (parseE l k).1 = 0 := by
  unfold parseE parseParts
  split
  · generalize accum _ 0 = a
    cases a with
    | none => right; rfl
    | some m => left; rfl
  · right; rfl
end Go.Proofs.YtplblogdgbnbdaaDoor
