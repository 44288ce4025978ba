/- A system in memory and the plain system that it is: validity and text depend on the plain one alone. -/
import Derived.Test.YtgamhdbcejkllaaGreatDoorReeveSpec
import Derived.Test.YtgamhdbcejkllaaGreatDoorReeveAtoi
namespace Go.Proofs.YtgamhdbcejkllaaGreatDoor
open Go.RowKit

def HoldD.plain (h : HoldD) : HoldP := ⟨bs h.block, h.pulls, h.num, h.den⟩
def BlockD.plain (b : BlockD) : List UInt8 × Int := (bs b.name, b.weight)
def RopeD.plain (r : RopeD) : RopeP := ⟨bs r.name, r.hauled, r.holds.l.map HoldD.plain⟩
def SysD.plain (s : SysD) : SysP := ⟨s.blocks.l.map BlockD.plain, s.ropes.l.map RopeD.plain⟩
theorem HoldD.plain_inj {a b : HoldD} (h : a.plain = b.plain) : a = b := by
  obtain ⟨a1, a2, a3, a4⟩ := a
  obtain ⟨b1, b2, b3, b4⟩ := b
  simp only [HoldD.plain, HoldP.mk.injEq] at h
  obtain ⟨h1, rfl, rfl, rfl⟩ := h
  rw [bs_inj h1]
theorem BlockD.plain_inj {a b : BlockD} (h : a.plain = b.plain) : a = b := by
  obtain ⟨a1, a2⟩ := a
  obtain ⟨b1, b2⟩ := b
  simp only [BlockD.plain, Prod.mk.injEq] at h
  obtain ⟨h1, rfl⟩ := h
  rw [bs_inj h1]
theorem map_inj_of {α β : Type} {f : α → β} (hf : ∀ a b, f a = f b → a = b) : ∀ {l l' : List α}, l.map f = l'.map f → l = l'
  | [], [], _ => rfl
  | [], _ :: _, h => by simp at h
  | _ :: _, [], h => by simp at h
  | a :: l, b :: l', h => by
    simp only [List.map_cons, List.cons.injEq] at h
    rw [hf _ _ h.1, map_inj_of hf h.2]
/-- ropes that are alike: the same but for where their holds lie -/
structure RopeLike (r r' : RopeD) : Prop where
  name : r'.name = r.name
  hauled : r'.hauled = r.hauled
  holds : r'.holds.l = r.holds.l
theorem RopeD.plain_like {r r' : RopeD} (h : r.plain = r'.plain) : RopeLike r r' := by
  simp only [RopeD.plain, RopeP.mk.injEq] at h
  exact ⟨(bs_inj h.1).symm, h.2.1.symm, (map_inj_of (fun _ _ => HoldD.plain_inj) h.2.2).symm⟩
structure SysLike (s s' : SysD) : Prop where
  blocks : s'.blocks.l = s.blocks.l
  len : s'.ropes.l.length = s.ropes.l.length
  ropes : ∀ (k : Nat) (r r' : RopeD), s.ropes.l[k]? = some r → s'.ropes.l[k]? = some r' → RopeLike r r'
theorem SysD.plain_like {s s' : SysD} (h : s.plain = s'.plain) : SysLike s s' := by
  simp only [SysD.plain, SysP.mk.injEq] at h
  refine ⟨(map_inj_of (fun _ _ => BlockD.plain_inj) h.1).symm, by have := congrArg List.length h.2; simpa using this.symm, fun k r r' hr hr' => ?_⟩
  have h2 := congrArg (fun l => l[k]?) h.2
  simp only [List.getElem?_map, hr, hr', Option.map_some, Option.some.injEq] at h2
  exact RopeD.plain_like h2
theorem findR_like {l l' : List RopeD} (hl : l'.length = l.length) (h : ∀ (k : Nat) (r r' : RopeD), l[k]? = some r → l'[k]? = some r' → RopeLike r r') (nm : ByteArray) : findR l' nm = findR l nm := by
  have key : ∀ (l l' : List RopeD) (i : Nat), l'.length = l.length → (∀ (k : Nat) (r r' : RopeD), l[k]? = some r → l'[k]? = some r' → RopeLike r r') → idxFrom (fun b : RopeD => sameName b.name nm) i l' = idxFrom (fun b : RopeD => sameName b.name nm) i l := by
    intro l
    induction l with
    | nil => intro l' i hl _; have : l' = [] := List.eq_nil_of_length_eq_zero hl; rw [this]
    | cons r l ih =>
      intro l' i hl ht
      cases l' with
      | nil => simp at hl
      | cons r' l' =>
        have h0 := (ht 0 r r' rfl rfl).name
        rw [idxFrom, idxFrom, h0, ih l' (i + 1) (by simpa using hl) (fun k a b ha hb => ht (k + 1) a b (by simpa using ha) (by simpa using hb))]
  exact key l l' 0 hl h
theorem hauls_like {l l' : List RopeD} (hl : l'.length = l.length) (h : ∀ (k : Nat) (r r' : RopeD), l[k]? = some r → l'[k]? = some r' → RopeLike r r') : hauls l' = hauls l := by
  have key : ∀ (l l' : List RopeD), l'.length = l.length → (∀ (k : Nat) (r r' : RopeD), l[k]? = some r → l'[k]? = some r' → RopeLike r r') → (l'.filter (·.hauled)).length = (l.filter (·.hauled)).length := by
    intro l
    induction l with
    | nil => intro l' hl _; have : l' = [] := List.eq_nil_of_length_eq_zero hl; rw [this]
    | cons r l ih =>
      intro l' hl ht
      cases l' with
      | nil => simp at hl
      | cons r' l' =>
        have h0 := (ht 0 r r' rfl rfl).hauled
        have h1 := ih l' (by simpa using hl) (fun k a b ha hb => ht (k + 1) a b (by simpa using ha) (by simpa using hb))
        cases hu : r.hauled
        · rw [hu] at h0
          simp [hu, h0, h1]
        · rw [hu] at h0
          simp [hu, h0, h1]
  exact key l l' hl h
theorem sysOk_like1 {s s' : SysD} (h : SysLike s s') (hs : sysOk s = true) : sysOk s' = true := by
  obtain ⟨hb, hl, hr⟩ := h
  simp only [sysOk, Bool.and_eq_true, decide_eq_true_eq, sysHead] at hs ⊢
  obtain ⟨⟨⟨⟨h1, h2⟩, h3⟩, h4⟩, h5⟩ := hs
  rw [hb, hl, hauls_like hl hr]
  refine ⟨⟨⟨⟨h1, h2⟩, h3⟩, ?_⟩, h5⟩
  rw [allIdx_iff] at h4 ⊢
  intro j y hy
  have hj : j < s.ropes.l.length := by rw [← hl]; exact (List.getElem?_eq_some_iff.1 hy).1
  have hx : s.ropes.l[j]? = some s.ropes.l[j] := List.getElem?_eq_getElem hj
  have hk := hr j _ y hx hy
  have h6 := h4 j _ hx
  rw [ropeAt, ropeOk] at h6 ⊢
  rw [hk.name, hk.hauled, hk.holds, findR_like hl hr]
  exact h6
theorem SysLike.symm {s s' : SysD} (h : SysLike s s') : SysLike s' s := ⟨h.blocks.symm, h.len.symm, fun k r r' hr hr' => ⟨(h.ropes k r' r hr' hr).name.symm, (h.ropes k r' r hr' hr).hauled.symm, (h.ropes k r' r hr' hr).holds.symm⟩⟩
/-- validity depends on the plain system alone -/
theorem sysOk_plain {s s' : SysD} (h : s.plain = s'.plain) : sysOk s' = sysOk s := by
  rw [Bool.eq_iff_iff]
  exact ⟨sysOk_like1 (SysD.plain_like h).symm, sysOk_like1 (SysD.plain_like h)⟩
/-! ### a valid system's text can be read -/
theorem bs_empty {s : ByteArray} (h : s.toList.isEmpty = true) : bs s = [] := List.isEmpty_iff.1 h
theorem find_name {bl : List BlockD} {nm : ByteArray} (hb : ∀ b ∈ bl, isName b.name = true) (h : ¬ findB bl nm < 0) : isName nm = true := by
  have h1 : decide (0 ≤ idx (fun b : BlockD => sameName b.name nm) bl) = true := decide_eq_true (by have : findB bl nm = idx (fun b => sameName b.name nm) bl := rfl; omega)
  rw [idx_nonneg, List.any_eq_true] at h1
  obtain ⟨b, hm, hs⟩ := h1
  rw [← sameName_iff.1 hs]
  exact hb b hm
theorem holdFit {bl : List BlockD} {h : HoldD} {e : Bool} (hb : ∀ b ∈ bl, isName b.name = true) (ho : holdOk bl h e = true) : h.plain.fit fracOk := by
  rw [holdOk, Bool.and_eq_true] at ho
  obtain ⟨h1, h2⟩ := ho
  have hf : fracOk h.num h.den = true := by
    cases e
    · simp only [Bool.false_eq_true, if_false, lossOk, Bool.and_eq_true] at h1
      exact h1.1.1
    · simp only [if_true, endLoss, Bool.and_eq_true, decide_eq_true_eq] at h1
      rw [h1.1, h1.2]
      decide
  have hp : -100000000 < h.pulls ∧ h.pulls < 1000000000 := by
    unfold pullOk at h2
    split at h2
    · simp at h2; omega
    · split at h2
      · cases h2
      · split at h2 <;> simp only [Bool.or_eq_true, decide_eq_true_eq] at h2 <;> omega
  refine ⟨?_, itoa_short hp.1 hp.2, hf⟩
  unfold pullOk at h2
  split at h2
  · rename_i he
    exact Or.inl (bs_empty he)
  · split at h2
    · cases h2
    · rename_i hn
      exact Or.inr (find_name hb hn)
theorem sysFit {s : SysD} (h : sysOk s = true) : s.plain.fit fracOk := by
  simp only [sysOk, Bool.and_eq_true, decide_eq_true_eq] at h
  obtain ⟨⟨⟨_, h3⟩, h4⟩, _⟩ := h
  have hb : ∀ b ∈ s.blocks.l, isName b.name = true ∧ betweenB b.weight 0 16777216 = true := fun b hm => by
    obtain ⟨j, hj, e⟩ := List.getElem_of_mem hm
    have := allIdx_iff.1 h3 j b (by rw [List.getElem?_eq_getElem hj, e])
    rw [blockAt, Bool.and_eq_true, Bool.and_eq_true] at this
    exact ⟨this.1.1, this.2⟩
  refine ⟨fun b hm => ?_, fun r hm => ?_⟩
  · obtain ⟨x, hx, rfl⟩ := List.mem_map.1 hm
    obtain ⟨h5, h6⟩ := hb x hx
    rw [betweenB_iff] at h6
    exact ⟨h5, itoa_short (by simp only [BlockD.plain]; omega) (by simp only [BlockD.plain]; omega)⟩
  · obtain ⟨x, hx, rfl⟩ := List.mem_map.1 hm
    obtain ⟨j, hj, e⟩ := List.getElem_of_mem hx
    have h5 := allIdx_iff.1 h4 j x (by rw [List.getElem?_eq_getElem hj, e])
    simp only [ropeAt, ropeOk, Bool.and_eq_true] at h5
    obtain ⟨⟨⟨h6, _⟩, _⟩, ⟨h7, h8⟩, _⟩ := h5
    rw [betweenB_iff] at h7
    refine ⟨h6, by simp only [RopeD.plain, List.length_map]; omega, fun y hy => ?_⟩
    obtain ⟨z, hz, rfl⟩ := List.mem_map.1 hy
    obtain ⟨i, hi, e2⟩ := List.getElem_of_mem hz
    rw [holdsOk] at h8
    exact holdFit (fun b hm => (hb b hm).1) (allIdx_iff.1 h8 i z (by rw [List.getElem?_eq_getElem hi, e2]))
end Go.Proofs.YtgamhdbcejkllaaGreatDoor
