/- A copied system, one of whose ropes got one hold more: what lies in memory is a system. -/
import Derived.Test.YtgamhdbcejkllaaDoorReeveIns
import Derived.Test.YtgamhdbcejkllaaDoorSheaveLaw
namespace Go.Proofs.YtgamhdbcejkllaaDoor
open Go.RowKit

theorem insFn_insL (l : List HoldD) (p : Nat) (h : HoldD) (hp : p ≤ l.length) (q : Nat) : insFn (fnOf l) p h q = fnOf (insL l p h) q := by
  rcases Nat.lt_trichotomy q p with e | e | e
  · rw [insFn, if_pos e, fnOf, fnOf, List.getD, List.getD, insL_lt h hp e]
  · subst e
    rw [insFn, if_neg (by omega), if_pos rfl, fnOf_get (insL_eq h hp)]
  · obtain ⟨j, rfl⟩ : ∃ j, q = j + 1 := ⟨q - 1, by omega⟩
    rw [insFn, if_neg (by omega), if_neg (by omega), fnOf, fnOf, List.getD, List.getD, insL_gt h hp (by omega), Nat.add_sub_cancel]
theorem RowFn.setHolds {w : World} {g n p : Nat} {X : Nat → RopeD} (h : RowFn w g 40 3 n RopeD.cells X) (hp : p < n) {x : RopeD} (hx0 : x.name = (X p).name) (hx2 : x.hauled = (X p).hauled) :
    RowFn (w.setCell ⟨g, p * 3 + 1, none⟩ (.slice x.holds.A x.holds.l.length x.holds.cap)) g 40 3 n RopeD.cells (fun q => if q = p then x else X q) := by
  obtain ⟨cur, h1, h2, h3⟩ := h
  refine ⟨cur.setIfInBounds (p * 3 + 1) _, block_set h1 _, by simpa using h2, fun q hq c u hu => ?_⟩
  rw [Array.getElem?_setIfInBounds]
  by_cases e : q = p
  · subst e
    simp only [if_true] at hu
    match c, hu with
    | 0, hu =>
      rw [if_neg (by omega)]
      exact h3 q hq 0 u (by rw [← hu]; simp [RopeD.cells, hx0])
    | 1, hu =>
      rw [if_pos rfl, if_pos (by omega)]
      exact hu
    | 2, hu =>
      rw [if_neg (by omega)]
      exact h3 q hq 2 u (by rw [← hu]; simp [RopeD.cells, hx2])
    | n + 3, hu => simp [RopeD.cells] at hu
  · simp only [e, if_false] at hu
    have hc : c < 3 := (List.getElem?_eq_some_iff.1 hu).1
    rw [if_neg (by omega)]
    exact h3 q hq c u hu
def insR (G H : Nat → Nat) (rl : List RopeD) (i : Nat) (x : RopeD) : List RopeD := (List.range rl.length).map fun q => if q = i then x else ropeC G H rl q
theorem insR_length (G H : Nat → Nat) (rl : List RopeD) (i : Nat) (x : RopeD) : (insR G H rl i x).length = rl.length := by simp [insR]
theorem insR_get (G H : Nat → Nat) (rl : List RopeD) (i : Nat) (x : RopeD) {q : Nat} (hq : q < rl.length) : (insR G H rl i x)[q]? = some (if q = i then x else ropeC G H rl q) := by
  simp [insR, hq]
theorem sheave_sys {s : SysD} (hok : s.ok) {G H : Nat → Nat} {gb gr capb capr i p g' cap' : Nat} {r : RopeD} {hd : HoldD} {u : World} (hix : s.ropes.l[i]? = some r) (hp : p ≤ r.holds.l.length) (hhd : hd.ok)
    (hb : RowFn u gb 37 2 s.blocks.l.length BlockD.cells (fnOf s.blocks.l)) (hbc : s.blocks.l.length ≤ capb ∧ capb ≤ maxLen)
    (hr : RowFn u gr 40 3 s.ropes.l.length RopeD.cells (fun q => if q = i then (⟨r.name, ⟨some ⟨g', 0, none⟩, cap', insL r.holds.l p hd⟩, r.hauled⟩ : RopeD) else fnOf (ropesC G H s.ropes.l s.ropes.l.length) q)) (hrc : s.ropes.l.length ≤ capr ∧ capr ≤ maxLen)
    (hh : ∀ q, q < s.ropes.l.length → q ≠ i → RowFn u (G q) 47 4 (fnOf s.ropes.l q).holds.l.length HoldD.cells (fnOf (fnOf s.ropes.l q).holds.l)) (hhc : ∀ q, q < s.ropes.l.length → (fnOf s.ropes.l q).holds.l.length ≤ H q ∧ H q ≤ maxLen)
    (hi : RowFn u g' 47 4 (r.holds.l.length + 1) HoldD.cells (insFn (fnOf r.holds.l) p hd)) (hc1 : r.holds.l.length + 1 ≤ cap') (hc2 : cap' ≤ maxLen) :
    ∃ rl : List RopeD, rl.length = s.ropes.l.length ∧ Ins i p hd s.ropes.l rl ∧ SysD.at_ u u.heap.size ⟨⟨some ⟨gb, 0, none⟩, capb, s.blocks.l⟩, ⟨some ⟨gr, 0, none⟩, capr, rl⟩⟩ ∧ SysD.ok ⟨⟨some ⟨gb, 0, none⟩, capb, s.blocks.l⟩, ⟨some ⟨gr, 0, none⟩, capr, rl⟩⟩ := by
  have hl := insR_length G H s.ropes.l i ⟨r.name, ⟨some ⟨g', 0, none⟩, cap', insL r.holds.l p hd⟩, r.hauled⟩
  have hg := fun {q : Nat} (hq : q < s.ropes.l.length) => insR_get G H s.ropes.l i ⟨r.name, ⟨some ⟨g', 0, none⟩, cap', insL r.holds.l p hd⟩, r.hauled⟩ hq
  have hfi : fnOf s.ropes.l i = r := fnOf_get hix
  refine ⟨_, hl, ⟨hl, fun k a b ha hb' => ?_⟩, ⟨hb.slAt hbc.1 hbc.2 hb.lt, ?_, fun x hx => ?_⟩, ⟨hok.blocks, fun x hx => ?_⟩⟩
  · have hk : k < s.ropes.l.length := (List.getElem?_eq_some_iff.1 ha).1
    rw [hg hk] at hb'
    injection hb' with hb'
    subst hb'
    have hfk : fnOf s.ropes.l k = a := fnOf_get ha
    by_cases e : k = i
    · subst e
      rw [hix] at ha
      injection ha with ha
      subst ha
      simp
    · simp [e, ropeC, hfk]
  · refine RowFn.slAt (t := 40) ?_ (by rw [hl]; exact hrc.1) hrc.2 hr.lt
    rw [hl]
    refine hr.congr fun q hq => ?_
    rw [fnOf_get (hg hq)]
    by_cases e : q = i
    · simp [e]
    · simp only [e, if_false]
      rw [fnOf_get (ropesC_get _ _ _ hq)]
  · obtain ⟨q, hq, e⟩ := List.getElem_of_mem hx
    have hq2 := hq
    rw [hl] at hq2
    have e2 := hg hq2
    rw [List.getElem?_eq_getElem hq, e] at e2
    injection e2 with e2
    subst e2
    by_cases e : q = i
    · simp only [e, if_true]
      have hlen := insL_length hd hp
      exact RowFn.slAt (t := 47) (l := insL r.holds.l p hd) (by rw [hlen]; exact hi.congr fun j _ => insFn_insL _ _ _ hp j) (by rw [hlen]; exact hc1) hc2 hi.lt
    · simp only [e, if_false]
      exact RowFn.slAt (t := 47) (l := (fnOf s.ropes.l q).holds.l) (hh q hq2 e) (hhc q hq2).1 (hhc q hq2).2 (hh q hq2 e).lt
  · obtain ⟨q, hq, e⟩ := List.getElem_of_mem hx
    have hq2 := hq
    rw [hl] at hq2
    have e2 := hg hq2
    rw [List.getElem?_eq_getElem hq, e] at e2
    injection e2 with e2
    subst e2
    by_cases e : q = i
    · simp only [e, if_true]
      have h1 := hok.ropes r (List.mem_of_getElem? hix)
      refine ⟨h1.name, fun y hy => ?_⟩
      rcases List.mem_append.1 hy with hy | hy
      · exact h1.holds y (List.mem_of_mem_take hy)
      · rcases List.mem_cons.1 hy with rfl | hy
        · exact hhd
        · exact h1.holds y (List.mem_of_mem_drop hy)
    · simp only [e, if_false]
      have hx2 : s.ropes.l[q]? = some s.ropes.l[q] := List.getElem?_eq_getElem hq2
      have h1 := hok.ropes _ (List.getElem_mem hq2)
      have hf := fnOf_get hx2
      refine ⟨by simp only [ropeC]; rw [hf]; exact h1.name, fun y hy => h1.holds y ?_⟩
      simp only [ropeC] at hy
      rw [hf] at hy; exact hy
end Go.Proofs.YtgamhdbcejkllaaDoor
