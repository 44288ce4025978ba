/- A system whose ropes run the other way, and one whose blocks and ropes stand in another order: they are valid, and have the same pulls. -/
import Derived.Test.YtgamhdbcejkllaaDoorReevePull
namespace Go.Proofs.YtgamhdbcejkllaaDoor
open Go.RowKit

/-- the rope the other way, if it is not hauled -/
def turnRope (r r' : RopeD) : Prop := r'.name = r.name ∧ r'.hauled = r.hauled ∧ r'.holds.l = if r.hauled then r.holds.l else r.holds.l.reverse
theorem isEnd_rev {n i : Nat} (h : i < n) : isEnd n (n - 1 - i) = isEnd n i := by
  unfold isEnd
  by_cases h0 : i = 0
  · subst h0
    simp; omega
  · by_cases h1 : i + 1 = n
    · have : n - 1 - i = 0 := by omega
      simp [h1, this]
    · simp only [h0, h1, decide_false, Bool.or_false]
      have a : n - 1 - i ≠ 0 := by omega
      have b : n - 1 - i + 1 ≠ n := by omega
      simp [a, b]
theorem holdsOk_rev {bl : List BlockD} {l : List HoldD} (h : holdsOk bl l = true) : holdsOk bl l.reverse = true := by
  rw [holdsOk] at h ⊢
  have h1 := allIdx_iff.1 h
  refine allIdx_iff.2 fun j y hy => ?_
  have hj : j < l.length := by have := (List.getElem?_eq_some_iff.1 hy).1; simpa using this
  rw [List.length_reverse]
  rw [List.getElem?_reverse hj] at hy
  have := h1 _ y hy
  rwa [isEnd_rev hj] at this
theorem ropeOk_turn {bl : List BlockD} {r r' : RopeD} (h : ropeOk bl r = true) (ht : turnRope r r') : ropeOk bl r' = true := by
  obtain ⟨_, h2, h3⟩ := ht
  unfold ropeOk at h ⊢
  rw [h2, h3]
  cases hu : r.hauled
  · rw [hu] at h
    simp only [Bool.false_eq_true, if_false, List.length_reverse, Bool.not_false, Bool.true_or, Bool.and_true, Bool.and_eq_true] at h ⊢
    exact ⟨h.1, holdsOk_rev h.2⟩
  · rw [hu] at h
    simpa using h
theorem pullIdx_rev (bl : List BlockD) (q : Nat) (l : List HoldD) : pullIdx bl q l.reverse = pullIdx bl q l := by
  unfold pullIdx
  rw [List.map_reverse, List.sum_reverse]
/-- ropes by ropes turned -/
def Turned (rl rl' : List RopeD) : Prop := rl'.length = rl.length ∧ ∀ (k : Nat) (r r' : RopeD), rl[k]? = some r → rl'[k]? = some r' → turnRope r r'
theorem findR_turn {rl rl' : List RopeD} (h : Turned rl rl') (nm : ByteArray) : findR rl' nm = findR rl nm := by
  have key : ∀ (rl rl' : List RopeD) (i : Nat), rl'.length = rl.length → (∀ (k : Nat) (r r' : RopeD), rl[k]? = some r → rl'[k]? = some r' → turnRope r r') → idxFrom (fun b : RopeD => sameName b.name nm) i rl' = idxFrom (fun b : RopeD => sameName b.name nm) i rl := by
    intro rl
    induction rl with
    | nil => intro rl' i hl _; have : rl' = [] := List.eq_nil_of_length_eq_zero hl; rw [this]
    | cons r rl ih =>
      intro rl' i hl ht
      cases rl' with
      | nil => simp at hl
      | cons r' rl' =>
        have h0 := (ht 0 r r' rfl rfl).1
        rw [idxFrom, idxFrom, h0, ih rl' (i + 1) (by simpa using hl) (fun k a b ha hb => ht (k + 1) a b (by simpa using ha) (by simpa using hb))]
  exact key rl rl' 0 h.1 h.2
theorem hauls_turn {rl rl' : List RopeD} (h : Turned rl rl') : hauls rl' = hauls rl := by
  have key : ∀ (rl rl' : List RopeD), rl'.length = rl.length → (∀ (k : Nat) (r r' : RopeD), rl[k]? = some r → rl'[k]? = some r' → turnRope r r') → (rl'.filter (·.hauled)).length = (rl.filter (·.hauled)).length := by
    intro rl
    induction rl with
    | nil => intro rl' hl _; have : rl' = [] := List.eq_nil_of_length_eq_zero hl; rw [this]
    | cons r rl ih =>
      intro rl' hl ht
      cases rl' with
      | nil => simp at hl
      | cons r' rl' =>
        have h0 := (ht 0 r r' rfl rfl).2.1
        have h1 := ih rl' (by simpa using hl) (fun k a b ha hb => ht (k + 1) a b (by simpa using ha) (by simpa using hb))
        cases hu : r.hauled
        · rw [hu] at h0
          simp [hu, h0, h1]
        · rw [hu] at h0
          simp [hu, h0, h1]
  exact key rl rl' h.1 h.2
theorem get_turn {rl rl' : List RopeD} (h : Turned rl rl') {k : Nat} {r' : RopeD} (hk : rl'[k]? = some r') : ∃ r, rl[k]? = some r ∧ turnRope r r' := by
  have hlt : k < rl.length := by rw [← h.1]; exact (List.getElem?_eq_some_iff.1 hk).1
  exact ⟨rl[k], List.getElem?_eq_getElem hlt, h.2 k _ _ (List.getElem?_eq_getElem hlt) hk⟩
theorem sysOk_turn {s t : SysD} (h : sysOk s = true) (hb : t.blocks.l = s.blocks.l) (ht : Turned s.ropes.l t.ropes.l) : sysOk t = true := by
  obtain ⟨⟨a1, a2, a3, a4⟩, h2, h3⟩ := sysOk_parts h
  have hh : decide (hauls s.ropes.l ≤ 1) = true := by rw [sysOk, Bool.and_eq_true] at h; exact h.2
  rw [sysOk, Bool.and_eq_true, Bool.and_eq_true, Bool.and_eq_true, sysHead_iff, betweenB_iff, betweenB_iff, hb, hauls_turn ht, ht.1]
  refine ⟨⟨⟨by omega, allIdx_iff.2 h2⟩, allIdx_iff.2 fun k r' hr' => ?_⟩, hh⟩
  obtain ⟨r, hr, htr⟩ := get_turn ht hr'
  have h4 := h3 k r hr
  simp only [ropeAt, Bool.and_eq_true] at h4 ⊢
  rw [htr.1, findR_turn ht]
  exact ⟨h4.1, ropeOk_turn h4.2 htr⟩
theorem matF_turn {s t : SysD} (hb : t.blocks.l = s.blocks.l) (ht : Turned s.ropes.l t.ropes.l) (i k : Nat) : matF t.blocks.l t.ropes.l i k = matF s.blocks.l s.ropes.l i k := by
  unfold matF
  rw [hb]
  cases hr : t.ropes.l[k]? with
  | none =>
    have : s.ropes.l[k]? = none := by rw [List.getElem?_eq_none_iff] at hr ⊢; rw [← ht.1]; exact hr
    rw [this]
  | some r' =>
    obtain ⟨r, h1, h2⟩ := get_turn ht hr
    rw [h1]
    simp only
    rw [h2.2.2]
    cases r.hauled
    · simp only [Bool.false_eq_true, if_false]; rw [pullIdx_rev]
    · rfl
end Go.Proofs.YtgamhdbcejkllaaDoor
