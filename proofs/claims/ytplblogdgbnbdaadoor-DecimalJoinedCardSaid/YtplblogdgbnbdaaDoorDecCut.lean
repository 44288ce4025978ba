/- The parts of a number's text, as the reference finds them. -/
import Derived.Test.YtplblogdgbnbdaaDoorDecParseP
namespace Go.Proofs.YtplblogdgbnbdaaDoor
open Go

theorem occAt_one (l : List UInt8) (c : UInt8) (j : Nat) : Lib.occAt l [c] j = (l[j]? == some c) := by
  unfold Lib.occAt
  rcases Nat.lt_or_ge j l.length with h | h
  · rw [List.drop_eq_getElem_cons h, List.getElem?_eq_getElem h]
    simp [List.isPrefixOf, BEq.comm]
  · rw [List.drop_of_length_le h, List.getElem?_eq_none h]
    rfl
theorem index_at {l : List UInt8} {c : UInt8} {w : Nat} (h : l[w]? = some c) (hb : ∀ j, j < w → ∀ d, l[j]? = some d → d ≠ c) : Lib.index l [c] = w := by
  have hw := (List.getElem?_eq_some_iff.1 h).1
  refine Lib.index_first (by omega) (by rw [occAt_one, h]; simp) ?_
  intro j hj
  rw [occAt_one, List.getElem?_eq_getElem (by omega)]
  have := hb j hj _ (List.getElem?_eq_getElem (by omega))
  simpa using this
theorem index_not {l : List UInt8} {c : UInt8} (hb : ∀ (j : Nat) (d : UInt8), l[j]? = some d → d ≠ c) : Lib.index l [c] = -1 := by
  refine Lib.index_none ?_
  intro j _
  rw [occAt_one]
  cases h : l[j]? with
  | none => rfl
  | some d => have := hb j d h; simpa using this
theorem cut_at {l : List UInt8} {c : UInt8} {w : Nat} (h : l[w]? = some c) (hb : ∀ j, j < w → ∀ d, l[j]? = some d → d ≠ c) : Lib.cut l [c] = (l.take w, l.drop (w + 1), true) := by
  unfold Lib.cut
  rw [index_at h hb, if_pos (by omega)]
  simp
theorem cut_not {l : List UInt8} {c : UInt8} (hb : ∀ (j : Nat) (d : UInt8), l[j]? = some d → d ≠ c) : Lib.cut l [c] = (l, [], false) := by
  unfold Lib.cut
  rw [index_not hb, if_neg (by omega)]

/-- from place i to place j there are digits -/
def DigTo (l : List UInt8) (i j : Nat) : Prop := ∀ m, i ≤ m → m < j → ∃ c, l[m]? = some c ∧ isDig c = true
theorem DigTo.start (l : List UInt8) (i : Nat) : DigTo l i i := fun m h1 h2 => by omega
theorem DigTo.next {l : List UInt8} {i j : Nat} {c : UInt8} (h : DigTo l i j) (hc : l[j]? = some c) (hd : isDig c = true) : DigTo l i (j + 1) := fun m h1 h2 => by
  by_cases e : m = j
  · subst e; exact ⟨c, hc, hd⟩
  · exact h m h1 (by omega)
theorem dig_ne {c : UInt8} (h : isDig c = true) : c ≠ 46 := fun e => by subst e; revert h; decide
theorem DigTo.before {l r : List UInt8} {i j : Nat} (h : DigTo l i j) (hr : r = l.drop i) : ∀ m, m < j - i → ∀ d, r[m]? = some d → isDig d = true := by
  intro m hm d hd
  obtain ⟨c, hc, hdig⟩ := h (i + m) (by omega) (by omega)
  rw [hr, List.getElem?_drop, hc] at hd
  cases hd
  exact hdig
theorem parse_whole {s : ByteArray} {i j k : Nat} {neg : Bool} (hn : neg = Lib.hasPrefix (bs s) [45]) (hr : Lib.trimPrefix (bs s) [45] = (bs s).drop i) (hi : i ≤ j) (h : DigTo (bs s) i j) (hj : j = s.size) :
    parseE (bs s) k = parseParts neg (bs (s.extract i j)) [] false k := by
  have hb := h.before rfl
  have hc : Lib.cut ((bs s).drop i) [46] = ((bs s).drop i, [], false) := cut_not fun m d hd => by
    have hlt := (List.getElem?_eq_some_iff.1 hd).1
    rw [List.length_drop, bs_length] at hlt
    exact dig_ne (hb m (by omega) d hd)
  unfold parseE
  rw [hr, hc, ← hn]
  have : bs (s.extract i j) = (bs s).drop i := by
    rw [bs_data, bs_data, Lib.extract_data, List.take_of_length_le]
    rw [List.length_drop, ← bs_data, bs_length]; omega
  rw [this]
theorem parse_point {s : ByteArray} {i j k : Nat} {neg : Bool} (hn : neg = Lib.hasPrefix (bs s) [45]) (hr : Lib.trimPrefix (bs s) [45] = (bs s).drop i) (hi : i ≤ j) (h : DigTo (bs s) i j) (hj : (bs s)[j]? = some 46) :
    parseE (bs s) k = parseParts neg (bs (s.extract i j)) (bs (s.extract (j + 1) s.size)) true k := by
  have hb := h.before rfl
  have hc : Lib.cut ((bs s).drop i) [46] = (((bs s).drop i).take (j - i), ((bs s).drop i).drop (j - i + 1), true) := cut_at (by rw [List.getElem?_drop, show i + (j - i) = j by omega]; exact hj) fun m hm d hd => dig_ne (hb m hm d hd)
  unfold parseE
  rw [hr, hc, ← hn]
  have h1 : bs (s.extract i j) = ((bs s).drop i).take (j - i) := by rw [bs_data, bs_data, Lib.extract_data]
  have h2 : bs (s.extract (j + 1) s.size) = ((bs s).drop i).drop (j - i + 1) := by
    rw [bs_data, bs_data, Lib.extract_data, List.take_of_length_le, List.drop_drop]
    · congr 1; omega
    · rw [List.length_drop, ← bs_data, bs_length]; omega
  rw [h1, h2]
theorem parse_bad {s : ByteArray} {i j k : Nat} {c : UInt8} (hr : Lib.trimPrefix (bs s) [45] = (bs s).drop i) (hi : i ≤ j) (h : DigTo (bs s) i j) (hj : (bs s)[j]? = some c) (h46 : c ≠ 46) (hd : isDig c = false) :
    parseE (bs s) k = (0, 7) := by
  have hb := h.before rfl
  have hcr : ((bs s).drop i)[j - i]? = some c := by rw [List.getElem?_drop, show i + (j - i) = j by omega]; exact hj
  unfold parseE parseParts
  rw [hr]
  rw [formB_all]
  · rfl
  · generalize (bs s).drop i = r at hb hcr
    unfold Lib.cut
    split
    · rename_i hidx
      rcases Lib.index_spec r [46] with ⟨h1, _⟩ | ⟨m, h1, h2, h3, _⟩
      · omega
      · rw [occAt_one] at h3
        have h3 : r[m]? = some 46 := by simpa using h3
        have hlt : j - i < m := by
          rcases Nat.lt_trichotomy (j - i) m with h | h | h
          · exact h
          · rw [← h, hcr] at h3; injection h3 with h3; exact absurd h3 h46
          · exact absurd rfl (dig_ne (hb m h _ h3))
        refine allDig_no (k := j - i) (c := c) ?_ hd
        rw [h1]
        show (r.take (Int.toNat (m : Int)))[j - i]? = some c
        rw [show ((m : Int)).toNat = m by omega, List.getElem?_take_of_lt hlt]
        exact hcr
    · exact allDig_no hcr hd
theorem parseParts_all {neg : Bool} {whole part : List UInt8} {pt : Bool} {k : Nat} (h : allDig whole = false) : parseParts neg whole part pt k = (0, 7) := by rw [parseParts, formB_all h]; rfl
theorem parse_minus {s : ByteArray} (h : (bs s)[0]? = some 45) : true = Lib.hasPrefix (bs s) [45] ∧ Lib.trimPrefix (bs s) [45] = (bs s).drop 1 := by
  have h1 : Lib.hasPrefix (bs s) [45] = true := by
    cases hb : bs s with
    | nil => rw [hb] at h; simp at h
    | cons c l => rw [hb] at h; simp at h; subst h; rfl
  exact ⟨h1.symm, by unfold Lib.trimPrefix; rw [h1]; rfl⟩
theorem parse_plus {s : ByteArray} (h : ¬ (bs s)[0]? = some 45) : false = Lib.hasPrefix (bs s) [45] ∧ Lib.trimPrefix (bs s) [45] = (bs s).drop 0 := by
  have h1 : Lib.hasPrefix (bs s) [45] = false := by
    cases hb : bs s with
    | nil => rfl
    | cons c l =>
      rw [hb] at h
      simp at h
      simp [Lib.hasPrefix, List.isPrefixOf]
      exact fun e => h e.symm
  exact ⟨h1.symm, by unfold Lib.trimPrefix; rw [h1]; rfl⟩
end Go.Proofs.YtplblogdgbnbdaaDoor
