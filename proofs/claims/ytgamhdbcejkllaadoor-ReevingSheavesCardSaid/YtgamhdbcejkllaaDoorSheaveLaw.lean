/- A system one of whose ropes runs over one more sheave: it is valid, and its pulls are the same but for the sheave's own. -/
import Derived.Test.YtgamhdbcejkllaaDoorReevePull
namespace Go.Proofs.YtgamhdbcejkllaaDoor
open Go.RowKit

def insL (l : List HoldD) (p : Nat) (h : HoldD) : List HoldD := l.take p ++ h :: l.drop p
theorem insL_length {l : List HoldD} {p : Nat} (h : HoldD) (hp : p ≤ l.length) : (insL l p h).length = l.length + 1 := by simp [insL]; omega
theorem insL_lt {l : List HoldD} {p j : Nat} (h : HoldD) (hp : p ≤ l.length) (hj : j < p) : (insL l p h)[j]? = l[j]? := by
  rw [insL, List.getElem?_append_left (by simp; omega), List.getElem?_take_of_lt hj]
theorem insL_eq {l : List HoldD} {p : Nat} (h : HoldD) (hp : p ≤ l.length) : (insL l p h)[p]? = some h := by
  rw [insL, List.getElem?_append_right (by simp; omega), List.length_take, show p - min p l.length = 0 by omega]; rfl
theorem insL_gt {l : List HoldD} {p j : Nat} (h : HoldD) (hp : p ≤ l.length) (hj : p ≤ j) : (insL l p h)[j + 1]? = l[j]? := by
  rw [insL, List.getElem?_append_right (by simp; omega), List.length_take, show j + 1 - min p l.length = (j - p) + 1 by omega, List.getElem?_cons_succ, List.getElem?_drop, show p + (j - p) = j by omega]
theorem holdsOk_ins {bl : List BlockD} {l : List HoldD} {p : Nat} {h : HoldD} (hp1 : 1 ≤ p) (hp2 : p < l.length) (hl : holdsOk bl l = true) (hh : holdOk bl h false = true) : holdsOk bl (insL l p h) = true := by
  rw [holdsOk] at hl ⊢
  have h1 := allIdx_iff.1 hl
  refine allIdx_iff.2 fun j y hy => ?_
  rw [insL_length h (by omega)]
  rcases Nat.lt_trichotomy j p with e | e | e
  · rw [insL_lt h (by omega) e] at hy
    have := h1 j y hy
    rwa [show isEnd (l.length + 1) j = isEnd l.length j by unfold isEnd; rw [decide_eq_false (show ¬ j + 1 = l.length + 1 by omega), decide_eq_false (show ¬ j + 1 = l.length by omega)]]
  · subst e
    rw [insL_eq h (by omega)] at hy
    injection hy with hy
    subst hy
    rwa [show isEnd (l.length + 1) j = false by unfold isEnd; rw [decide_eq_false (show ¬ j = 0 by omega), decide_eq_false (show ¬ j + 1 = l.length + 1 by omega)]; rfl]
  · obtain ⟨q, rfl⟩ : ∃ q, j = q + 1 := ⟨j - 1, by omega⟩
    rw [insL_gt h (by omega) (by omega)] at hy
    have := h1 q y hy
    rwa [show isEnd (l.length + 1) (q + 1) = isEnd l.length q by
      unfold isEnd
      rw [decide_eq_false (show ¬ q + 1 = 0 by omega), decide_eq_false (show ¬ q = 0 by omega)]
      congr 1
      exact decide_eq_decide.2 (by omega)]
theorem lastFree_ins {l : List HoldD} {p : Nat} (h : HoldD) (hp : p < l.length) : lastFree (insL l p h) = lastFree l := by
  unfold lastFree
  rw [List.getLast?_eq_getElem?, List.getLast?_eq_getElem?, insL_length h (by omega), show l.length + 1 - 1 = (l.length - 1) + 1 by omega, insL_gt h (by omega) (by omega)]
theorem pullIdx_ins (bl : List BlockD) (q : Nat) (l : List HoldD) (p : Nat) (h : HoldD) : pullIdx bl q (insL l p h) = pullIdx bl q l + (if findB bl h.block = (q : Int) then h.pulls else 0) := by
  have key : ∀ f : HoldD → Int, ((insL l p h).map f).sum = (l.map f).sum + f h := fun f => by
    have e : (l.map f).sum = ((l.take p).map f).sum + ((l.drop p).map f).sum := by rw [← List.sum_append, ← List.map_append, List.take_append_drop]
    rw [insL, List.map_append, List.map_cons, List.sum_append, List.sum_cons, e]
    omega
  exact key _
/-- ropes by ropes: the same but for one hold more -/
def Ins (i p : Nat) (h : HoldD) (rl rl' : List RopeD) : Prop := rl'.length = rl.length ∧ ∀ (k : Nat) (r r' : RopeD), rl[k]? = some r → rl'[k]? = some r' → r'.name = r.name ∧ r'.hauled = r.hauled ∧ r'.holds.l = if k = i then insL r.holds.l p h else r.holds.l
section
variable {i p : Nat} {h : HoldD} {rl rl' : List RopeD}
theorem findR_ins (H : Ins i p h rl rl') (nm : ByteArray) : findR rl' nm = findR rl nm := by
  have key : ∀ (rl rl' : List RopeD) (i : Nat), rl'.length = rl.length → (∀ (k : Nat) (r r' : RopeD), rl[k]? = some r → rl'[k]? = some r' → r'.name = r.name) → idxFrom (fun b : RopeD => sameName b.name nm) i rl' = idxFrom (fun b : RopeD => sameName b.name nm) i rl := by
    intro rl
    induction rl with
    | nil => intro rl' i hl _; have : rl' = [] := List.eq_nil_of_length_eq_zero hl; rw [this]
    | cons r rl ih =>
      intro rl' i hl ht
      cases rl' with
      | nil => simp at hl
      | cons r' rl' =>
        have h0 := ht 0 r r' rfl rfl
        rw [idxFrom, idxFrom, h0, ih rl' (i + 1) (by simpa using hl) (fun k a b ha hb => ht (k + 1) a b (by simpa using ha) (by simpa using hb))]
  exact key rl rl' 0 H.1 fun k r r' a b => (H.2 k r r' a b).1
theorem hauls_ins (H : Ins i p h rl rl') : hauls rl' = hauls rl := by
  have key : ∀ (rl rl' : List RopeD), rl'.length = rl.length → (∀ (k : Nat) (r r' : RopeD), rl[k]? = some r → rl'[k]? = some r' → r'.hauled = r.hauled) → (rl'.filter (·.hauled)).length = (rl.filter (·.hauled)).length := by
    intro rl
    induction rl with
    | nil => intro rl' hl _; have : rl' = [] := List.eq_nil_of_length_eq_zero hl; rw [this]
    | cons r rl ih =>
      intro rl' hl ht
      cases rl' with
      | nil => simp at hl
      | cons r' rl' =>
        have h0 := ht 0 r r' rfl rfl
        have h1 := ih rl' (by simpa using hl) (fun k a b ha hb => ht (k + 1) a b (by simpa using ha) (by simpa using hb))
        cases hu : r.hauled
        · rw [hu] at h0
          simp [hu, h0, h1]
        · rw [hu] at h0
          simp [hu, h0, h1]
  exact key rl rl' H.1 fun k r r' a b => (H.2 k r r' a b).2.1
theorem get_ins (H : Ins i p h rl rl') {k : Nat} {r' : RopeD} (hk : rl'[k]? = some r') : ∃ r, rl[k]? = some r ∧ r'.name = r.name ∧ r'.hauled = r.hauled ∧ r'.holds.l = if k = i then insL r.holds.l p h else r.holds.l := by
  have hlt : k < rl.length := by rw [← H.1]; exact (List.getElem?_eq_some_iff.1 hk).1
  exact ⟨rl[k], List.getElem?_eq_getElem hlt, H.2 k _ _ (List.getElem?_eq_getElem hlt) hk⟩
end
theorem sysOk_ins {s t : SysD} {i p : Nat} {h : HoldD} (hs : sysOk s = true) (hb : t.blocks.l = s.blocks.l) (H : Ins i p h s.ropes.l t.ropes.l) (hp1 : 1 ≤ p) (hlen : ∀ r, s.ropes.l[i]? = some r → p < r.holds.l.length ∧ r.holds.l.length < 10) (hh : holdOk s.blocks.l h false = true) : sysOk t = true := by
  obtain ⟨⟨a1, a2, a3, a4⟩, h2, h3⟩ := sysOk_parts hs
  have hh1 : decide (hauls s.ropes.l ≤ 1) = true := by rw [sysOk, Bool.and_eq_true] at hs; exact hs.2
  rw [sysOk, Bool.and_eq_true, Bool.and_eq_true, Bool.and_eq_true, sysHead_iff, betweenB_iff, betweenB_iff, hb, hauls_ins H, H.1]
  refine ⟨⟨⟨by omega, allIdx_iff.2 h2⟩, allIdx_iff.2 fun k r' hr' => ?_⟩, hh1⟩
  obtain ⟨r, hr, e1, e2, e3⟩ := get_ins H hr'
  have h4 := h3 k r hr
  simp only [ropeAt, Bool.and_eq_true] at h4 ⊢
  rw [e1, findR_ins H]
  refine ⟨h4.1, ?_⟩
  have h5 := h4.2
  unfold ropeOk at h5 ⊢
  rw [e2, e3]
  by_cases hk : k = i
  · subst hk
    obtain ⟨l1, l2⟩ := hlen r hr
    simp only [if_true, Bool.and_eq_true, betweenB_iff] at h5 ⊢
    rw [insL_length h (by omega), lastFree_ins h l1]
    exact ⟨⟨by omega, holdsOk_ins hp1 l1 h5.1.2 hh⟩, h5.2⟩
  · simp only [hk, if_false]
    exact h5
theorem matF_ins {s t : SysD} {i p : Nat} {h : HoldD} (hb : t.blocks.l = s.blocks.l) (H : Ins i p h s.ropes.l t.ropes.l) {q : Nat} (hq : q < s.ropes.l.length) (j : Nat) :
    matF t.blocks.l t.ropes.l j q = matF s.blocks.l s.ropes.l j q + (if q = i then (if findB s.blocks.l h.block = (j : Int) then h.pulls else 0) else 0) := by
  unfold matF
  rw [hb]
  have hq2 : q < t.ropes.l.length := by rw [H.1]; exact hq
  have h1 : t.ropes.l[q]? = some t.ropes.l[q] := List.getElem?_eq_getElem hq2
  obtain ⟨r, hr, e1, e2, e3⟩ := get_ins H h1
  rw [h1, hr]
  simp only
  rw [e3]
  by_cases hk : q = i
  · simp only [hk, if_true]; exact pullIdx_ins _ _ _ _ _
  · simp [hk]
/-- the sheave: at a block of the system, or at the building -/
theorem holdOk_new {s : SysD} (hs : sysOk s = true) {k : Nat} {h : HoldD} (hn : h.num = 1) (hd : h.den = 1)
    (hb : (∃ x, s.blocks.l[k]? = some x ∧ h.block = x.name) ∧ (h.pulls = 2 ∨ h.pulls = 0 ∨ h.pulls = -2) ∨ k = s.blocks.l.length ∧ h.block = ⟨#[]⟩ ∧ h.pulls = 0) : holdOk s.blocks.l h false = true := by
  obtain ⟨_, h2, _⟩ := sysOk_parts hs
  rw [holdOk, hn, hd]
  have e1 : lossOk 1 1 = true := by kernel_rfl
  simp only [Bool.false_eq_true, if_false, e1, Bool.true_and]
  unfold pullOk
  rcases hb with ⟨⟨x, hx, hbx⟩, hp⟩ | ⟨_, hbx, hp⟩
  · have h3 := h2 k x hx
    simp only [blockAt, Bool.and_eq_true, decide_eq_true_eq] at h3
    rw [hbx, if_neg (by
      intro he
      have : x.name = ⟨#[]⟩ := by
        apply bs_inj
        rw [show bs x.name = x.name.toList from rfl, List.isEmpty_iff.1 he, bs_data]
      rw [this, isName_empty _ rfl] at h3
      exact absurd h3.1.1 (by decide)), if_neg (by rw [h3.1.2]; omega)]
    rcases hp with hp | hp | hp <;> simp [hp]
  · rw [hbx, hp, if_pos (by show (bs ⟨#[]⟩).isEmpty = true; rw [bs_data]; rfl)]; rfl
theorem find_new {s : SysD} (hs : sysOk s = true) {k : Nat} {h : HoldD} (j : Nat)
    (hb : (∃ x, s.blocks.l[k]? = some x ∧ h.block = x.name) ∧ (h.pulls = 2 ∨ h.pulls = 0 ∨ h.pulls = -2) ∨ k = s.blocks.l.length ∧ h.block = ⟨#[]⟩ ∧ h.pulls = 0) :
    (if findB s.blocks.l h.block = (j : Int) then h.pulls else 0) = if j = k then h.pulls else 0 := by
  obtain ⟨_, h2, _⟩ := sysOk_parts hs
  rcases hb with ⟨⟨x, hx, hbx⟩, _⟩ | ⟨hk, _, hp⟩
  · have h3 := h2 k x hx
    simp only [blockAt, Bool.and_eq_true, decide_eq_true_eq] at h3
    rw [hbx, h3.1.2]
    by_cases e : j = k
    · subst e; simp
    · rw [if_neg (by omega), if_neg e]
  · rw [hp]; simp
end Go.Proofs.YtgamhdbcejkllaaDoor
