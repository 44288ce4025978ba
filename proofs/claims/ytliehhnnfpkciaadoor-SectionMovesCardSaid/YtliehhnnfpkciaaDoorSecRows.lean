/- The rows of the section's picture, made one by one: what a round of that loop leaves. -/
import Derived.Test.YtliehhnnfpkciaaDoorSecFill
import Derived.Test.YtliehhnnfpkciaaDoorRepeat
import Derived.Deep.AppendLies
namespace Go.Proofs.YtliehhnnfpkciaaDoor
open Go.RowKit

theorem ownsRow_below {w w' : World} {base : Nat} {e : TypeId} {size : Nat} {v : Value} {n : Nat} {xs : List Value} (h : w.ownsRow base e size v n xs) (hb : Below w.heap.size w w') : w'.ownsRow base e size v n xs := by
  refine ⟨h.1, ?_⟩
  rcases h.2 with h2 | ⟨g, cap, cur, hv, hg, hh, r⟩
  · exact Or.inl h2
  · have hlt : g < w.heap.size := (Array.getElem?_eq_some_iff.1 hh).1
    exact Or.inr ⟨g, cap, cur, hv, hg, (hb.block g hlt).trans hh, r⟩
theorem ownsRow_block {w w' : World} {base : Nat} {e : TypeId} {size : Nat} {v : Value} {n : Nat} {xs : List Value} (h : w.ownsRow base e size v n xs) (hb : ∀ g, v.ownBlock = some g → w'.heap[g]? = w.heap[g]?) : w'.ownsRow base e size v n xs := by
  refine ⟨h.1, ?_⟩
  rcases h.2 with h2 | ⟨g, cap, cur, hv, hg, hh, r⟩
  · exact Or.inl h2
  · exact Or.inr ⟨g, cap, cur, hv, hg, (hb g (by rw [hv]; rfl)).trans hh, r⟩
def rowVals (rb : Nat → Nat) (C k : Nat) : List Value := (List.range k).map fun r => .slice (some ⟨rb r, 0, none⟩) C C
/-- k rows are made -/
structure SRows (pb base : Nat) (scale : Int) (R C k : Nat) (rb : Nat → Nat) (v : Value) (w : World) : Prop where
  box : PicBox pb scale (R : Int) (C : Int) v w
  own : w.ownsRow base 56 1 v k (rowVals rb C k)
  far : v.ownBlock ≠ some pb ∧ ∀ r, r < k → v.ownBlock ≠ some (rb r)
  row : ∀ r, r < k → ∀ c, c < C → w.cell? ⟨rb r, c, none⟩ = some (.int .u8 46) ∧ w.frozen? ⟨rb r, c, none⟩ = false
  apart : ∀ r, r < k → rb r ≠ pb ∧ base ≤ rb r ∧ rb r < w.heap.size
  one : ∀ r r', r < k → r' < k → rb r = rb r' → r = r'
  low : base ≤ pb
section
variable {pb base : Nat} {scale : Int} {R C k : Nat} {rb : Nat → Nat} {v : Value} {w : World}
theorem SRows.start (hb : PicBox pb scale (R : Int) (C : Int) (.slice none 0 0) w) (hl : base ≤ pb) : SRows pb base scale R C 0 rb (.slice none 0 0) w :=
  ⟨hb, ⟨rfl, Or.inl ⟨rfl, rfl⟩⟩, ⟨by simp [Value.ownBlock], fun r hr => absurd hr (by omega)⟩, fun r hr => absurd hr (by omega), fun r hr => absurd hr (by omega), fun r r' hr => absurd hr (by omega), hl⟩
/-- one row more: made behind the block of its one byte, laid into a block of its own, appended, stored -/
theorem SRows.next (h : SRows pb base scale R C k rb v w) {u w2 w4 : World} (hC : 1 ≤ C) (hu : Below w.heap.size w u) (hus : u.heap.size = w.heap.size + 1)
    (hbuf : Lib.Buf u w2 (w.heap.size + 1) C (List.replicate C 46))
    {g cap : Nat} (hown : w4.ownsRow base 56 1 (.slice (some ⟨g, 0, none⟩) (k + 1) cap) (k + 1) (rowVals rb C k ++ [.slice (some ⟨w.heap.size + 1, 0, none⟩) C C])) (hgr : (w2.alloc (.cells #[.slice (some ⟨w.heap.size + 1, 0, none⟩) C C] 56)).grownBy w4 v.ownBlock) (hg : v.ownBlock = some g ∨ g = w2.heap.size + 1) :
    SRows pb base scale R C (k + 1) (fun r => if r = k then w.heap.size + 1 else rb r) (.slice (some ⟨g, 0, none⟩) (k + 1) cap) (w4.setCell ⟨pb, 3, none⟩ (.slice (some ⟨g, 0, none⟩) (k + 1) cap)) ∧ Below base w (w4.setCell ⟨pb, 3, none⟩ (.slice (some ⟨g, 0, none⟩) (k + 1) cap)) := by
  have hlt := h.box.lt
  have hlow := h.low
  have hb2 := hbuf.below
  have hs2 : w.heap.size + 1 ≤ w2.heap.size := by have := hb2.size; omega
  -- the new row's block exists
  have hrow : w.heap.size + 1 < w2.heap.size := by
    have hc := hbuf.there 0 (by omega)
    obtain ⟨x, hx⟩ := Option.isSome_iff_exists.1 hc
    exact World.block_lt_of_cell? w2 _ hx
  have hs3 : (w2.alloc (.cells #[.slice (some ⟨w.heap.size + 1, 0, none⟩) C C] 56)).heap.size = w2.heap.size + 1 := by simp
  -- an old block, not the row appended to
  have old : ∀ b, b < w.heap.size → v.ownBlock ≠ some b → w4.heap[b]? = w.heap[b]? := fun b hb hne => by
    rw [hgr.block b (by rw [hs3]; omega) (fun e => hne e.symm), Lib.alloc_old _ _ _ (by omega), hb2.block b (by omega)]
    exact hu.block b hb
  have newrow : ∀ c, c < C → w4.cell? ⟨w.heap.size + 1, c, none⟩ = some (.int .u8 46) ∧ w4.frozen? ⟨w.heap.size + 1, c, none⟩ = false := fun c hc => by
    have hne : some (w.heap.size + 1) ≠ v.ownBlock := by
      rcases h.own.2 with ⟨rfl, _⟩ | ⟨g', cap', cur, rfl, _, hh, _⟩
      · simp [Value.ownBlock]
      · have hl : g' < w.heap.size := (Array.getElem?_eq_some_iff.1 hh).1
        intro e
        simp only [Value.ownBlock, Option.some.injEq] at e
        omega
    have hblk : w4.heap[w.heap.size + 1]? = w2.heap[w.heap.size + 1]? := by
      rw [hgr.block _ (by rw [hs3]; omega) hne, Lib.alloc_old _ _ _ hrow]
    exact ⟨(World.cell?_of_block (a := ⟨w.heap.size + 1, c, none⟩) hblk).trans (by have := hbuf.holds c 46 (by rw [List.getElem?_replicate, if_pos hc]); simpa using this), (World.frozen?_of_block (a := ⟨w.heap.size + 1, c, none⟩) hblk).trans (hbuf.free c hc)⟩
  have hgne : g ≠ pb ∧ (∀ r, r < k → g ≠ rb r) ∧ g ≠ w.heap.size + 1 := by
    rcases hg with hg | hg
    · refine ⟨fun e => h.far.1 (by rw [hg, e]), fun r hr e => h.far.2 r hr (by rw [hg, e]), fun e => ?_⟩
      rcases h.own.2 with ⟨rfl, _⟩ | ⟨g', cap', cur, rfl, _, hh, _⟩
      · simp [Value.ownBlock] at hg
      · have hl : g' < w.heap.size := (Array.getElem?_eq_some_iff.1 hh).1
        simp only [Value.ownBlock, Option.some.injEq] at hg
        omega
    · refine ⟨by omega, fun r hr e => ?_, by omega⟩
      have := (h.apart r hr).2.2
      omega
  have hsz4 : w2.heap.size + 1 ≤ w4.heap.size := by have := hgr.size; rw [hs3] at this; exact this
  have hbox4 : PicBox pb scale (R : Int) (C : Int) v w4 := h.box.of_block (old pb hlt h.far.1)
  refine ⟨⟨hbox4.setCells _, ?_, ⟨?_, fun r hr => ?_⟩, fun r hr c hc => ?_, fun r hr => ?_, fun r r' hr hr' e => ?_, hlow⟩, ?_⟩
  · have e : rowVals (fun r => if r = k then w.heap.size + 1 else rb r) C (k + 1) = rowVals rb C k ++ [.slice (some ⟨w.heap.size + 1, 0, none⟩) C C] := by
      unfold rowVals
      rw [List.range_succ, List.map_append]
      congr 1
      · apply List.map_congr_left
        intro r hr
        have := List.mem_range.1 hr
        simp [show r ≠ k by omega]
      · simp
    rw [e]
    exact ownsRow_block hown fun b hb => by
      simp only [Value.ownBlock, Option.some.injEq] at hb
      subst hb
      exact Below.heap_setCell _ _ _ _ hgne.1
  · simp only [Value.ownBlock, ne_eq, Option.some.injEq]; exact hgne.1
  · simp only [Value.ownBlock, ne_eq, Option.some.injEq]
    by_cases e : r = k
    · rw [if_pos e]; exact hgne.2.2
    · rw [if_neg e]; exact hgne.2.1 r (by omega)
  · by_cases e : r = k
    · simp only [e, if_true]
      obtain ⟨a, b⟩ := newrow c hc
      exact ⟨(World.cell?_setCell_other w4 _ _ _ (by intro e2; injection e2 with e2; omega)).trans a, (World.frozen?_setCell ..).trans b⟩
    · simp only [e, if_false]
      obtain ⟨a, b⟩ := h.row r (by omega) c hc
      obtain ⟨p1, p2, p3⟩ := h.apart r (by omega)
      have hblk := old (rb r) p3 (h.far.2 r (by omega))
      exact ⟨(World.cell?_setCell_other w4 _ _ _ (by intro e2; injection e2 with e2; exact p1 e2.symm)).trans ((World.cell?_of_block (a := ⟨rb r, c, none⟩) hblk).trans a), (World.frozen?_setCell ..).trans ((World.frozen?_of_block (a := ⟨rb r, c, none⟩) hblk).trans b)⟩
  · rw [World.size_setCell]
    by_cases e : r = k
    · simp only [e, if_true]; exact ⟨by omega, by omega, by omega⟩
    · simp only [e, if_false]
      obtain ⟨p1, p2, p3⟩ := h.apart r (by omega)
      exact ⟨p1, p2, by omega⟩
  · by_cases e1 : r = k <;> by_cases e2 : r' = k <;> simp only [e1, e2, if_true, if_false] at e
    · omega
    · have := (h.apart r' (by omega)).2.2; omega
    · have := (h.apart r (by omega)).2.2; omega
    · exact h.one r r' (by omega) (by omega) e
  · have hbb : Below base w w4 := ⟨hgr.os.trans (hb2.os.trans hu.os), hgr.tape.trans (hb2.tape.trans hu.tape), hgr.output.trans (hb2.output.trans hu.output), by omega, fun b hb => by
      refine old b (by omega) fun e => ?_
      rcases h.own.2 with ⟨rfl, _⟩ | ⟨g', cap', cur, rfl, hbg, hh, _⟩
      · simp [Value.ownBlock] at e
      · simp only [Value.ownBlock, Option.some.injEq] at e
        omega⟩
    exact hbb.setCell (p := ⟨pb, 3, none⟩) hlow _
theorem SRows.done (h : SRows pb base scale R C R rb v w) (hR : 1 ≤ R) : ∃ g cap, v = .slice (some ⟨g, 0, none⟩) R cap ∧ cap ≤ maxLen ∧ SPic pb g cap w.heap.size base scale R C rb (fun _ _ => 46) w := by
  obtain ⟨g, cap, cur, rfl, hg, hh, hlc, hm, hsz, htk⟩ : ∃ g cap cur, v = .slice (some ⟨g, 0, none⟩) R cap ∧ base ≤ g ∧ w.heap[g]? = some (.cells cur 56 (0, 0)) ∧ R ≤ cap ∧ cap ≤ maxLen ∧ cur.size = cap * 1 ∧ cur.toList.take (R * 1) = rowVals rb C R := by
    rcases h.own.2 with ⟨_, h0⟩ | h2
    · omega
    · exact h2
  have hlt : g < w.heap.size := (Array.getElem?_eq_some_iff.1 hh).1
  refine ⟨g, cap, rfl, hm, ⟨h.box, fun r hr => ?_, h.row, fun r hr => ?_, h.one, hlc, ⟨h.box.lt, hlt⟩, Nat.le_refl _⟩⟩
  · rw [Lib.cell_of_heap hh]
    have e : (cur.toList.take (R * 1))[r]? = (rowVals rb C R)[r]? := by rw [htk]
    rw [List.getElem?_take_of_lt (by omega), Array.getElem?_toList] at e
    rw [e]
    simp [rowVals, hr]
  · obtain ⟨a, b, c⟩ := h.apart r hr
    have := h.far.2 r hr
    simp only [Value.ownBlock, ne_eq, Option.some.injEq] at this
    exact ⟨a, fun e => this e.symm, b, c⟩
end
end Go.Proofs.YtliehhnnfpkciaaDoor
