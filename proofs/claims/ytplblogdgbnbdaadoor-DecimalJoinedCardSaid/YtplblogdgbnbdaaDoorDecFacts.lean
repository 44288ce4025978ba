/- What the law asks of each token's place, of the lines and of the joined texts: in plain Lean. -/
import Derived.Test.YtplblogdgbnbdaaDoorDecPlaced
import Derived.Lib.Join
namespace Go.Proofs.YtplblogdgbnbdaaDoor
open Go

theorem upTo10_prefix : ∀ (x l : List UInt8), x.isPrefixOf l = true → (∀ c ∈ x, c ≠ 10) → x.isPrefixOf (upTo10 l) = true
  | [], _, _, _ => by simp
  | c :: x, [], h, _ => by simp at h
  | c :: x, d :: l, h, hc => by
    simp only [List.isPrefixOf, Bool.and_eq_true, beq_iff_eq] at h
    obtain ⟨rfl, h2⟩ := h
    have h3 := hc c (by simp)
    have h4 := upTo10_prefix x l h2 (fun d hd => hc d (by simp [hd]))
    unfold upTo10 at h4 ⊢
    rw [List.takeWhile_cons]
    simp [h3, h4]
theorem tailFrom_length : ∀ (p a : List UInt8), (tailFrom a p).length ≤ a.length + p.length
  | [], a => by simp [tailFrom]
  | c :: p, a => by
    unfold tailFrom
    split
    · have := tailFrom_length p []; simp at *; omega
    · have := tailFrom_length p (a ++ [c]); simp at *; omega
/-- what holds of the token at place k -/
structure TokAt (s : List UInt8) (r : List TokD) (k : Nat) (t : TokD) (L : List UInt8) : Prop where
  line1 : 1 ≤ t.line
  line2 : t.line ≤ (linesOf s).length
  lineAt : (linesOf s)[(t.line - 1).toNat]? = some L
  col1 : 1 ≤ t.col
  col2 : t.col ≤ L.length + 1
  text : (bs t.text).isPrefixOf (L.drop (t.col - 1).toNat) = true
  lenL : L.length ≤ s.length
  asc : ∀ t', 0 < k → r[k - 1]? = some t' → t'.line < t.line ∨ t'.line = t.line ∧ t'.col < t.col
theorem placed_get {s : List UInt8} : ∀ {r : List TokD} {i k : Nat} {t : TokD}, PlacedFrom s i r → r[k]? = some t → ∃ j, i ≤ j ∧ j ≤ s.length ∧ t.line = lineOf (s.take j) ∧ t.col = colOf (s.take j) ∧ (bs t.text).isPrefixOf (s.drop j) = true ∧ (∀ c ∈ bs t.text, c ≠ 10) ∧ PlacedFrom s (j + 1) (r.drop (k + 1))
  | [], _, _, _, _, h => by simp at h
  | x :: r, i, 0, t, ⟨j, h1, h2, h3, h4, h5, h6, h7⟩, h => by
    simp only [List.getElem?_cons_zero, Option.some.injEq] at h
    subst h
    exact ⟨j, h1, h2, h3, h4, h5, h6, by simpa using h7⟩
  | x :: r, i, k + 1, t, ⟨j, h1, h2, h3, h4, h5, h6, h7⟩, h => by
    obtain ⟨j', g1, g2⟩ := placed_get h7 (by simpa using h)
    exact ⟨j', by omega, by simpa using g2⟩
theorem place_lt {s : List UInt8} {j j' : Nat} (h : j < j') (hj : j' ≤ s.length) : lineOf (s.take j) < lineOf (s.take j') ∨ lineOf (s.take j) = lineOf (s.take j') ∧ colOf (s.take j) < colOf (s.take j') := by
  obtain ⟨u, hu, hl⟩ : ∃ u, s.take j' = s.take j ++ u ∧ u.length = j' - j := ⟨(s.drop j).take (j' - j), by
    rw [← List.take_append_drop j s]
    rw [List.take_append, List.length_take, List.take_take]
    simp [Nat.min_eq_left (by omega : j ≤ s.length), Nat.min_eq_right (by omega : j ≤ j')], by rw [List.length_take, List.length_drop]; omega⟩
  rw [hu]
  by_cases hc : u.count 10 = 0
  · have hn : ∀ c ∈ u, c ≠ 10 := fun c hc' e => by subst e; exact List.count_eq_zero.1 hc hc'
    rw [lineOf_plain hn, colOf_plain hn]
    exact Or.inr ⟨rfl, by omega⟩
  · refine Or.inl ?_
    unfold lineOf
    rw [List.count_append]
    omega
theorem tokAt {s : List UInt8} {r : List TokD} (h : PlacedFrom s 0 r) {k : Nat} {t : TokD} (hk : r[k]? = some t) : ∃ L, TokAt s r k t L := by
  obtain ⟨j, h1, h2, h3, h4, h5, h6, h7⟩ := placed_get h hk
  have hla := lines_at s j h2
  have hlt := (List.getElem?_eq_some_iff.1 hla).1
  have e1 : (t.line - 1).toNat = (s.take j).count 10 := by rw [h3]; unfold lineOf; omega
  have e2 : (t.col - 1).toNat = (tailOf (s.take j)).length := by rw [h4]; unfold colOf; omega
  refine ⟨_, ?_, ?_, by rw [e1]; exact hla, ?_, ?_, ?_, ?_, ?_⟩
  · rw [h3]; unfold lineOf; omega
  · rw [h3]; unfold lineOf; omega
  · rw [h4]; unfold colOf; omega
  · rw [h4, List.length_append]; unfold colOf; omega
  · rw [e2, List.drop_left]; exact upTo10_prefix _ _ h5 h6
  · rw [List.length_append]
    have a1 := tailFrom_length (s.take j) []
    have a2 : (upTo10 (s.drop j)).length ≤ (s.drop j).length := (List.takeWhile_prefix _).length_le
    rw [List.length_take] at a1
    rw [List.length_drop] at a2
    unfold tailOf
    simp only [List.length_nil] at a1
    omega
  · intro t' hk0 ht'
    obtain ⟨j', g1, g2, g3, g4, _, _, g7⟩ := placed_get h ht'
    rw [show k - 1 + 1 = k by omega] at g7
    have hd : r.drop k = t :: r.drop (k + 1) := by
      rw [List.drop_eq_getElem_cons (List.getElem?_eq_some_iff.1 hk).1, (List.getElem?_eq_some_iff.1 hk).2]
    rw [hd] at g7
    obtain ⟨j2, b1, b2, b3, b4, _⟩ := g7
    rw [g3, g4, b3, b4]
    have := place_lt (s := s) (show j' < j2 by omega) b2
    omega
theorem joined_join : ∀ ts : List (Int × List UInt8), joined ts = Lib.join (ts.map tokText) [32]
  | [] => rfl
  | [t] => by simp [joined, Lib.join_one]
  | t :: u :: ts => by
    show tokText t ++ 32 :: joined (u :: ts) = _
    rw [joined_join (u :: ts)]
    simp only [List.map_cons]
    rw [Lib.join_cons, Lib.join_cons]
    simp [Lib.joinTail]
end Go.Proofs.YtplblogdgbnbdaaDoor
