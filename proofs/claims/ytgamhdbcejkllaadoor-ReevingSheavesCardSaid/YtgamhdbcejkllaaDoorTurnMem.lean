/- The copy in memory while its ropes are turned. -/
import Derived.Test.YtgamhdbcejkllaaDoorFlipLaw
import Derived.Test.YtgamhdbcejkllaaDoorReeveCopyW
namespace Go.Proofs.YtgamhdbcejkllaaDoor
open Go.RowKit

theorem RowFn.slAt {α : Type} [Inhabited α] {w : World} {g : Nat} {t : TypeId} {size cap B : Nat} {cells : α → List Value} {l : List α} (h : RowFn w g t size l.length cells (fnOf l)) (hcap : l.length ≤ cap) (hc : cap ≤ maxLen) (hB : g < B) : SlAt w B size cells ⟨some ⟨g, 0, none⟩, cap, l⟩ :=
  ⟨hcap, hc, fun _ => ⟨g, 0, rfl, hB, fun i x hx j u hu => by
    rw [Nat.zero_add]
    exact h.cell (List.getElem?_eq_some_iff.1 hx).1 (by rw [fnOf_get hx]; exact hu)⟩⟩
theorem fnOf_rev {α : Type} [Inhabited α] (l : List α) {p : Nat} (hp : p < l.length) : fnOf l.reverse p = fnOf l (l.length - 1 - p) := by
  have h1 : l[l.length - 1 - p]? = some l[l.length - 1 - p] := List.getElem?_eq_getElem (by omega)
  rw [fnOf_get h1, fnOf_get (by rw [List.getElem?_reverse hp]; exact h1)]
def turnL (rl : List RopeD) (k p : Nat) : List HoldD := if p < k ∧ (fnOf rl p).hauled = false then (fnOf rl p).holds.l.reverse else (fnOf rl p).holds.l
theorem turnL_length (rl : List RopeD) (k p : Nat) : (turnL rl k p).length = (fnOf rl p).holds.l.length := by unfold turnL; split <;> simp
def turnC (G H : Nat → Nat) (rl : List RopeD) (k p : Nat) : RopeD := ⟨(fnOf rl p).name, ⟨some ⟨G p, 0, none⟩, H p, turnL rl k p⟩, (fnOf rl p).hauled⟩
def turnsC (G H : Nat → Nat) (rl : List RopeD) (k : Nat) : List RopeD := (List.range rl.length).map (turnC G H rl k)
theorem turnsC_length (G H : Nat → Nat) (rl : List RopeD) (k : Nat) : (turnsC G H rl k).length = rl.length := by simp [turnsC]
theorem turnsC_get (G H : Nat → Nat) (rl : List RopeD) (k : Nat) {p : Nat} (hp : p < rl.length) : (turnsC G H rl k)[p]? = some (turnC G H rl k p) := by simp [turnsC, hp]
theorem ropesC_get (G H : Nat → Nat) (rl : List RopeD) {n p : Nat} (hp : p < n) : (ropesC G H rl n)[p]? = some (ropeC G H rl p) := by simp [ropesC, hp]
theorem turn_cells (G H : Nat → Nat) (rl : List RopeD) (k p : Nat) : RopeD.cells (turnC G H rl k p) = RopeD.cells (ropeC G H rl p) := by
  simp [RopeD.cells, turnC, ropeC, turnL_length]
theorem turnsC_turned (G H : Nat → Nat) (rl : List RopeD) : Turned rl (turnsC G H rl rl.length) := by
  refine ⟨turnsC_length _ _ _ _, fun k r r' hr hr' => ?_⟩
  have hk := (List.getElem?_eq_some_iff.1 hr).1
  rw [turnsC_get _ _ _ _ hk] at hr'
  injection hr' with hr'
  subst hr'
  have e := fnOf_get hr
  refine ⟨by simp only [turnC]; rw [e], by simp only [turnC]; rw [e], ?_⟩
  simp only [turnC, turnL, e, hk, true_and]
  cases r.hauled <;> simp

/-- k ropes are turned; nothing but the holds' blocks has changed since X -/
structure LSt (X : World) (G : Nat → Nat) (rl : List RopeD) (k : Nat) (x : World) : Prop where
  frame : ∀ j, j < X.heap.size → (∀ p, p < rl.length → j ≠ G p) → x.heap[j]? = X.heap[j]?
  os : x.os = X.os
  tape : x.tape = X.tape
  output : x.output = X.output
  size : X.heap.size ≤ x.heap.size
  rows : ∀ p, p < rl.length → RowFn x (G p) 47 4 (turnL rl k p).length HoldD.cells (fnOf (turnL rl k p))
theorem LSt.more {X x y : World} {G : Nat → Nat} {rl : List RopeD} {k : Nat} (h : LSt X G rl k x) (hb : Below x.heap.size x y) : LSt X G rl k y :=
  ⟨fun j hj hne => (hb.block j (by have := h.size; omega)).trans (h.frame j hj hne), hb.os.trans h.os, hb.tape.trans h.tape, hb.output.trans h.output, Nat.le_trans h.size hb.size, fun p hp => (h.rows p hp).of_block (hb.block _ (h.rows p hp).lt)⟩
theorem LSt.below {X x : World} {G : Nat → Nat} {rl : List RopeD} {k B : Nat} (h : LSt X G rl k x) (hB : B ≤ X.heap.size) (hG : ∀ p, p < rl.length → B ≤ G p) : Below B X x :=
  ⟨h.os, h.tape, h.output, h.size, fun j hj => h.frame j (by omega) fun p hp => by have := hG p hp; omega⟩
theorem LSt.keep {X x : World} {G : Nat → Nat} {rl : List RopeD} {k : Nat} (h : LSt X G rl k x) {r : RopeD} (hk : rl[k]? = some r) (hu : r.hauled = true) : LSt X G rl (k + 1) x := by
  refine ⟨h.frame, h.os, h.tape, h.output, h.size, fun p hp => ?_⟩
  have e : turnL rl (k + 1) p = turnL rl k p := by
    unfold turnL
    by_cases e : p = k
    · subst e; rw [fnOf_get hk]; simp [hu]
    · by_cases e2 : p < k
      · simp [e2, Nat.lt_succ_of_lt e2]
      · simp [e2, show ¬ p < k + 1 by omega]
  rw [e]; exact h.rows p hp
theorem LSt.turn {X x z : World} {G : Nat → Nat} {rl : List RopeD} {k : Nat} (h : LSt X G rl k x) {r : RopeD} (hk : rl[k]? = some r) (hu : r.hauled = false) (inc : ∀ p q, p < q → q < rl.length → G p < G q) (hgr : x.grownBy z (some (G k)))
    (hrow : RowFn z (G k) 47 4 r.holds.l.length HoldD.cells (fun p => fnOf r.holds.l (r.holds.l.length - 1 - p))) : LSt X G rl (k + 1) z := by
  have hkl := (List.getElem?_eq_some_iff.1 hk).1
  refine ⟨fun j hj hne => (hgr.block j (by have := h.size; omega) (fun e => hne k hkl (by injection e))).trans (h.frame j hj hne), hgr.os.trans h.os, hgr.tape.trans h.tape, hgr.output.trans h.output, Nat.le_trans h.size hgr.size, fun p hp => ?_⟩
  by_cases e : p = k
  · subst e
    have e1 : turnL rl (p + 1) p = r.holds.l.reverse := by unfold turnL; rw [fnOf_get hk]; simp [hu]
    rw [e1, List.length_reverse]
    exact hrow.congr fun q hq => (fnOf_rev _ hq).symm
  · have e1 : turnL rl (k + 1) p = turnL rl k p := by
      unfold turnL
      by_cases e2 : p < k
      · simp [e2, Nat.lt_succ_of_lt e2]
      · simp [e2, show ¬ p < k + 1 by omega]
    rw [e1]
    have hne : G p ≠ G k := by
      rcases Nat.lt_or_gt_of_ne e with h1 | h1
      · have := inc p k h1 hkl; omega
      · have := inc k p h1 hp; omega
    exact (h.rows p hp).of_block (hgr.block _ (h.rows p hp).lt (fun e => hne (by injection e)))
end Go.Proofs.YtgamhdbcejkllaaDoor
