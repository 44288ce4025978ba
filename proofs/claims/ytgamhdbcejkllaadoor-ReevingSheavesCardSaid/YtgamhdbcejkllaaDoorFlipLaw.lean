/- A system whose blocks and ropes stand the other way round. -/
import Derived.Test.YtgamhdbcejkllaaDoorTurnLaw
namespace Go.Proofs.YtgamhdbcejkllaaDoor
open Go.RowKit

theorem rev_get {α : Type} {l : List α} {k : Nat} {x : α} (h : l.reverse[k]? = some x) : k < l.length ∧ l[l.length - 1 - k]? = some x := by
  have hk : k < l.length := by have := (List.getElem?_eq_some_iff.1 h).1; simpa using this
  rw [List.getElem?_reverse hk] at h
  exact ⟨hk, h⟩
/-- the place of a name in the list the other way round, if every name is found at its own place -/
theorem idx_rev {α : Type} (nameOf : α → ByteArray) {l : List α} (hu : ∀ (i : Nat) (b : α), l[i]? = some b → idx (fun x => sameName (nameOf x) (nameOf b)) l = (i : Int)) {i : Nat} {b : α} (hb : l.reverse[i]? = some b) : idx (fun x => sameName (nameOf x) (nameOf b)) l.reverse = (i : Int) := by
  obtain ⟨hi, hb'⟩ := rev_get hb
  refine idx_some hb (sameName_refl _) fun j y hj hy => ?_
  obtain ⟨hj', hy'⟩ := rev_get hy
  rw [sameName_false]
  intro e
  have h1 := hu _ _ hb'
  have h2 := hu _ _ hy'
  rw [e, h1] at h2
  omega
theorem any_rev_idx {α : Type} (p : α → Bool) (l : List α) : decide (idx p l.reverse < 0) = decide (idx p l < 0) := by
  rw [idx_neg, idx_neg, List.any_reverse]
theorem uniqB {s : SysD} (h : sysOk s = true) : ∀ (i : Nat) (b : BlockD), s.blocks.l[i]? = some b → idx (fun x : BlockD => sameName x.name b.name) s.blocks.l = (i : Int) := fun i b hb => by
  have := (sysOk_parts h).2.1 i b hb
  rw [blockAt, Bool.and_eq_true, Bool.and_eq_true] at this
  exact of_decide_eq_true this.1.2
theorem uniqR {s : SysD} (h : sysOk s = true) : ∀ (i : Nat) (b : RopeD), s.ropes.l[i]? = some b → idx (fun x : RopeD => sameName x.name b.name) s.ropes.l = (i : Int) := fun i b hb => by
  have := (sysOk_parts h).2.2 i b hb
  simp only [ropeAt, Bool.and_eq_true] at this
  exact of_decide_eq_true this.1.1.2
theorem pullOk_flip {bl : List BlockD} {h : HoldD} {e : Bool} : pullOk bl.reverse h e = pullOk bl h e := by
  unfold pullOk
  have := any_rev_idx (fun b : BlockD => sameName b.name h.block) bl
  have e1 : (findB bl.reverse h.block < 0) ↔ (findB bl h.block < 0) := by
    constructor <;> (intro hh; have h2 := decide_eq_true hh; first | exact of_decide_eq_true (this ▸ h2) | exact of_decide_eq_true (this.symm ▸ h2))
  split
  · rfl
  · by_cases hf : findB bl h.block < 0
    · rw [if_pos hf, if_pos (e1.2 hf)]
    · rw [if_neg hf, if_neg (fun h2 => hf (e1.1 h2))]
theorem ropeOk_flip {bl : List BlockD} {r : RopeD} : ropeOk bl.reverse r = ropeOk bl r := by
  unfold ropeOk holdsOk
  have : (fun (i : Nat) (h : HoldD) => holdOk bl.reverse h (isEnd r.holds.l.length i)) = (fun i h => holdOk bl h (isEnd r.holds.l.length i)) := by
    funext i h
    rw [holdOk, holdOk, pullOk_flip]
  rw [this]
theorem sysOk_flip {s t : SysD} (h : sysOk s = true) (hb : t.blocks.l = s.blocks.l.reverse) (hr : t.ropes.l = s.ropes.l.reverse) : sysOk t = true := by
  obtain ⟨⟨a1, a2, a3, a4⟩, h2, h3⟩ := sysOk_parts h
  have hh : hauls s.ropes.l ≤ 1 := by rw [sysOk, Bool.and_eq_true] at h; exact of_decide_eq_true h.2
  rw [sysOk, Bool.and_eq_true, Bool.and_eq_true, Bool.and_eq_true, sysHead_iff, betweenB_iff, betweenB_iff, hb, hr, List.length_reverse, List.length_reverse]
  refine ⟨⟨⟨by omega, allIdx_iff.2 fun k b hk => ?_⟩, allIdx_iff.2 fun k r hk => ?_⟩, decide_eq_true (by
    have : hauls s.ropes.l.reverse = hauls s.ropes.l := by rw [hauls, hauls, List.filter_reverse, List.length_reverse]
    omega)⟩
  · obtain ⟨_, hk'⟩ := rev_get hk
    have h4 := h2 _ b hk'
    have h5 := idx_rev (fun x : BlockD => x.name) (uniqB h) hk
    simp only [blockAt, Bool.and_eq_true] at h4 ⊢
    exact ⟨⟨h4.1.1, decide_eq_true h5⟩, h4.2⟩
  · obtain ⟨_, hk'⟩ := rev_get hk
    have h4 := h3 _ r hk'
    have h5 := idx_rev (fun x : RopeD => x.name) (uniqR h) hk
    simp only [ropeAt, Bool.and_eq_true] at h4 ⊢
    refine ⟨⟨⟨h4.1.1.1, decide_eq_true h5⟩, ?_⟩, by rw [ropeOk_flip]; exact h4.2⟩
    have := any_rev_idx (fun b : BlockD => sameName b.name r.name) s.blocks.l
    unfold findB
    rw [this]
    exact h4.1.2
theorem findB_flip {s t : SysD} (h : sysOk s = true) (hb : t.blocks.l = s.blocks.l.reverse) (hr : t.ropes.l = s.ropes.l.reverse) {i : Nat} (hi : i < s.blocks.l.length) (nm : ByteArray) : (findB t.blocks.l nm = (i : Int)) ↔ (findB s.blocks.l nm = ((s.blocks.l.length - 1 - i : Nat) : Int)) := by
  have ht := sysOk_flip h hb hr
  have hx : s.blocks.l[s.blocks.l.length - 1 - i]? = some s.blocks.l[s.blocks.l.length - 1 - i] := List.getElem?_eq_getElem (by omega)
  have hy : t.blocks.l[i]? = some s.blocks.l[s.blocks.l.length - 1 - i] := by rw [hb, List.getElem?_reverse hi]; exact hx
  rw [findB_iff ht hy, findB_iff h hx]
theorem matF_flip {s t : SysD} (h : sysOk s = true) (hb : t.blocks.l = s.blocks.l.reverse) (hr : t.ropes.l = s.ropes.l.reverse) {i k : Nat} (hi : i < s.blocks.l.length) (hk : k < s.ropes.l.length) : matF t.blocks.l t.ropes.l i k = matF s.blocks.l s.ropes.l (s.blocks.l.length - 1 - i) (s.ropes.l.length - 1 - k) := by
  have e1 : t.ropes.l[k]? = s.ropes.l[s.ropes.l.length - 1 - k]? := by rw [hr, List.getElem?_reverse hk]
  unfold matF
  rw [e1]
  cases s.ropes.l[s.ropes.l.length - 1 - k]? with
  | none => rfl
  | some r =>
    simp only
    unfold pullIdx
    congr 1
    apply List.map_congr_left
    intro x _
    by_cases e : findB s.blocks.l x.block = ((s.blocks.l.length - 1 - i : Nat) : Int)
    · rw [if_pos e, if_pos ((findB_flip h hb hr hi x.block).2 e)]
    · rw [if_neg e, if_neg (fun h2 => e ((findB_flip h hb hr hi x.block).1 h2))]
end Go.Proofs.YtgamhdbcejkllaaDoor
