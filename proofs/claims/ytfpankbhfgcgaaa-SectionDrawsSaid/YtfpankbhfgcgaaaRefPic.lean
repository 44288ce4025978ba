/- loftblockref33.line, item, pipe: what a cell of the reference's plan shows of one set. -/
import Derived.Test.YtfpankbhfgcgaaaRank
namespace Go.Proofs.Ytfpankbhfgcgaaa
open Go.RowKit

theorem any_some {α : Type} {p : α → Bool} {l : List α} {k : Nat} {x : α} (h : l[k]? = some x) (hp : p x = true) : l.any p = true := List.any_eq_true.2 ⟨x, List.mem_of_getElem? h, hp⟩
theorem any_none {α : Type} {p : α → Bool} {l : List α} (hn : ∀ j y, j < l.length → l[j]? = some y → p y = false) : l.any p = false := by
  rw [List.any_eq_false]
  intro x hx
  obtain ⟨j, hj, e⟩ := List.getElem_of_mem hx
  rw [hn j x hj (by rw [List.getElem?_eq_getElem hj, e])]
  simp
def seenLine (d scale r c : Int) (p : Int) : Bool := decide (d / scale = r) && decide (p / scale = c)
set_option maxHeartbeats 1000000 in
theorem refLine_any (s : SetD) (hl : ∀ p ∈ s.lines.l, 0 ≤ p ∧ p ≤ 1048576) (hd0 : 0 ≤ s.depth) (hd1 : s.depth ≤ 1048576) (scale r c : Int) (hs1 : 1 ≤ scale) (hs2 : scale ≤ 1048576) (w : World) (B : Nat) (hB : B ≤ w.heap.size) (hat : SetD.at_ w B s) :
    Calls Try.prog 58 #[.agg #[.string s.name, .int .i64 s.depth, .int .i64 s.low, .int .i64 s.high, .int .i64 s.length, .slice s.lines.A s.lines.l.length s.lines.cap, .int .i64 s.pipe, .int .i64 s.arbor, .int .i64 s.purchase, .int .i64 s.most, .int .i64 s.brake, .slice s.items.A s.items.l.length s.items.cap, .slice s.bricks.A s.bricks.l.length s.bricks.cap], .int .i64 scale, .int .i64 r, .int .i64 c] w (Gives w (.bool (s.lines.l.any (seenLine s.depth scale r c)))) := by
  obtain ⟨W, hW, hWs, hWb, hWh⟩ := boxed w (.cells #[.string s.name, .int .i64 s.depth, .int .i64 s.low, .int .i64 s.high, .int .i64 s.length, .slice s.lines.A s.lines.l.length s.lines.cap, .int .i64 s.pipe, .int .i64 s.arbor, .int .i64 s.purchase, .int .i64 s.most, .int .i64 s.brake, .slice s.items.A s.items.l.length s.items.cap, .slice s.bricks.A s.bricks.l.length s.bricks.cap] 51)
  have hc := fun y : After W.heap.size W => SetD.boxed hWh (by omega) y
  have hbd : ∀ y : After W.heap.size W, Below w.heap.size w y.val := fun y => hWb.trans (y.below.mono (by omega))
  have hsl : SlAt W W.heap.size 1 intCells s.lines := hat.lines.to (hWb.mono hB) (by omega)
  have hlc : s.lines.l.length ≤ s.lines.cap := hat.lines.1
  have hm : s.lines.cap ≤ 9223372036854775807 := hat.lines.2.1
  have HSL := hide hsl
  have HW := hide hW
  have HBD := hide hbd
  have HL := hide hl
  obtain ⟨q0, q1⟩ := quo_bound hd0 hd1 hs1
  clear hW hWs hWh hWb hbd hat hsl hl
  obtain ⟨name, depth, low, high, length, ⟨A, cap, l⟩, pipe, arbor, purchase, most, brake, items, bricks⟩ := s
  simp only at *
  go_enter Try.func58, Try.ntmps58
  go_wp2
  rw [← HW.out]
  go_loopw [9] (fun v wr => ∃ k : Nat, v = .int .i64 k ∧ k ≤ l.length ∧ Hid (∀ j y, j < k → l[j]? = some y → seenLine depth scale r c y = false) ∧ ∃ x : After W.heap.size W, wr = x.val) (fun v _ => l.length - (intOf v).toNat)
  case atStart => exact ⟨0, rfl, Nat.zero_le _, fun j y hj => absurd hj (by omega), After.refl _ _, rfl⟩
  case round =>
    obtain ⟨k, rfl, hk, hall, x, rfl⟩ := hrel
    by_cases hlt : k < l.length
    · obtain ⟨b, off, hA, hb, hcell⟩ := HSL.out.2.2 (show 0 < l.length by omega)
      simp only at hA
      subst hA
      have hx : l[k]? = some l[k] := List.getElem?_eq_getElem hlt
      have he := fun x : After W.heap.size W => intElem hx hb hcell x
      obtain ⟨d0, d1⟩ := HL.out l[k] (List.getElem_mem hlt)
      obtain ⟨p0, p1⟩ := quo_bound d0 d1 hs1
      have HX := hide hx
      clear hcell hx
      by_cases g1 : depth / scale = r
      · by_cases g2 : l[k] / scale = c
        · have hp := hide (show seenLine depth scale r c l[k] = true by simp [seenLine, g1, g2])
          go_wp2
          go_ret
          exact Gives.mk (congrArg Value.bool (any_some HX.out hp.out).symm) (HBD.out _)
        · have hp := hide (show seenLine depth scale r c l[k] = false by simp [seenLine, g2])
          go_wp2
          exact ⟨⟨k + 1, by go_num, by omega, none_next hall.out HX.out hp.out, _, rfl⟩, by simp [intOf]; omega⟩
      · have hp := hide (show seenLine depth scale r c l[k] = false by simp [seenLine, g1])
        go_wp2
        exact ⟨⟨k + 1, by go_num, by omega, none_next hall.out HX.out hp.out, _, rfl⟩, by simp [intOf]; omega⟩
    · go_wp2
      go_ret
      exact Gives.mk (congrArg Value.bool (any_none fun j y hj hy => hall.out j y (by omega) hy).symm) (HBD.out _)
def seenItem (d scale r c : Int) (i : ItemD) : Bool := decide (d / scale = r) && itemIn (c * scale) ((c + 1) * scale) i
set_option maxHeartbeats 1000000 in
theorem refItem_any (s : SetD) (hl : Placed s) (hd0 : 0 ≤ s.depth) (hd1 : s.depth ≤ 1048576) (scale r c : Int) (hs1 : 1 ≤ scale) (hs2 : scale ≤ 1048576) (hc1 : 0 ≤ c) (hc2 : c ≤ 1048576) (w : World) (B : Nat) (hB : B ≤ w.heap.size) (hat : SetD.at_ w B s) :
    Calls Try.prog 59 #[.agg #[.string s.name, .int .i64 s.depth, .int .i64 s.low, .int .i64 s.high, .int .i64 s.length, .slice s.lines.A s.lines.l.length s.lines.cap, .int .i64 s.pipe, .int .i64 s.arbor, .int .i64 s.purchase, .int .i64 s.most, .int .i64 s.brake, .slice s.items.A s.items.l.length s.items.cap, .slice s.bricks.A s.bricks.l.length s.bricks.cap], .int .i64 scale, .int .i64 r, .int .i64 c] w (Gives w (.bool (s.items.l.any (seenItem s.depth scale r c)))) := by
  obtain ⟨W, hW, hWs, hWb, hWh⟩ := boxed w (.cells #[.string s.name, .int .i64 s.depth, .int .i64 s.low, .int .i64 s.high, .int .i64 s.length, .slice s.lines.A s.lines.l.length s.lines.cap, .int .i64 s.pipe, .int .i64 s.arbor, .int .i64 s.purchase, .int .i64 s.most, .int .i64 s.brake, .slice s.items.A s.items.l.length s.items.cap, .slice s.bricks.A s.bricks.l.length s.bricks.cap] 51)
  have hc := fun y : After W.heap.size W => SetD.boxed hWh (by omega) y
  have hbd : ∀ y : After W.heap.size W, Below w.heap.size w y.val := fun y => hWb.trans (y.below.mono (by omega))
  have hsl : SlAt W W.heap.size 7 ItemD.cells s.items := hat.items.to (hWb.mono hB) (by omega)
  have hlc : s.items.l.length ≤ s.items.cap := hat.items.1
  have hm : s.items.cap ≤ 9223372036854775807 := hat.items.2.1
  have m1 : 0 ≤ c * scale := Int.mul_nonneg hc1 (by omega)
  have m2 : c * scale ≤ 1048576 * 1048576 := Int.mul_le_mul hc2 hs2 (by omega) (by omega)
  have m3 : 0 ≤ (c + 1) * scale := Int.mul_nonneg (by omega) (by omega)
  have m4 : (c + 1) * scale ≤ 1048577 * 1048576 := Int.mul_le_mul (by omega) hs2 (by omega) (by omega)
  have HSL := hide hsl
  have HW := hide hW
  have HBD := hide hbd
  have HL := hide hl
  obtain ⟨q0, q1⟩ := quo_bound hd0 hd1 hs1
  clear hW hWs hWh hWb hbd hat hsl hl
  obtain ⟨name, depth, low, high, length, lines, pipe, arbor, purchase, most, brake, ⟨A, cap, l⟩, bricks⟩ := s
  simp only at *
  go_enter Try.func59, Try.ntmps59
  go_wp2
  rw [← HW.out]
  go_loopw [9, 10] (fun v u wr => ∃ k : Nat, v = .int .i64 k ∧ k ≤ l.length ∧ Hid (∀ j y, j < k → l[j]? = some y → seenItem depth scale r c y = false) ∧ ∃ x : After W.heap.size W, wr = x.val) (fun v _ _ => l.length - (intOf v).toNat)
  case atStart => exact ⟨0, rfl, Nat.zero_le _, fun j y hj => absurd hj (by omega), After.refl _ _, rfl⟩
  case round =>
    obtain ⟨k, rfl, hk, hall, x, rfl⟩ := hrel
    by_cases hlt : k < l.length
    · obtain ⟨b, off, hA, hb, hcell⟩ := HSL.out.2.2 (show 0 < l.length by omega)
      simp only at hA
      subst hA
      have hx : l[k]? = some l[k] := List.getElem?_eq_getElem hlt
      have he := fun x : After W.heap.size W => ItemD.elem hx hb hcell x
      obtain ⟨p0, p1, w0, w1⟩ := HL.out l[k] (List.getElem_mem hlt)
      have HX := hide hx
      clear hcell hx
      have hcO : ∀ o : Obj, (x.val.alloc o).cell? ⟨w.heap.size, 1, none⟩ = some (.int .i64 depth) := fun o => (hc ⟨x.val.alloc o, x.below.alloc x.size o⟩).2.1
      by_cases g1 : depth / scale = r
      · by_cases g2 : l[k].place < (c + 1) * scale
        · by_cases g3 : c * scale < l[k].place + l[k].width
          · have hp := hide (show seenItem depth scale r c l[k] = true by simp [seenItem, itemIn, g1, g2, g3])
            go_wp2
            go_ret
            exact Gives.mk (congrArg Value.bool (any_some HX.out hp.out).symm) (HBD.out ⟨_, x.below.alloc x.size _⟩)
          · have hp := hide (show seenItem depth scale r c l[k] = false by simp [seenItem, itemIn, g3])
            go_wp2
            exact ⟨⟨k + 1, by go_num, by omega, none_next hall.out HX.out hp.out, After.exists_iff (x.below.alloc x.size _)⟩, by simp [intOf]; omega⟩
        · have hp := hide (show seenItem depth scale r c l[k] = false by simp [seenItem, itemIn, g2])
          go_wp2
          exact ⟨⟨k + 1, by go_num, by omega, none_next hall.out HX.out hp.out, After.exists_iff (x.below.alloc x.size _)⟩, by simp [intOf]; omega⟩
      · have hp := hide (show seenItem depth scale r c l[k] = false by simp [seenItem, g1])
        go_wp2
        exact ⟨⟨k + 1, by go_num, by omega, none_next hall.out HX.out hp.out, After.exists_iff (x.below.alloc x.size _)⟩, by simp [intOf]; omega⟩
    · go_wp2
      go_ret
      exact Gives.mk (congrArg Value.bool (any_none fun j y hj hy => hall.out j y (by omega) hy).symm) (HBD.out _)
def seenPipe (s : SetD) (scale r c : Int) : Bool := decide (s.depth / scale = r) && decide (c * scale ≤ s.length)
set_option maxHeartbeats 1000000 in
theorem refPipe_any (s : SetD) (hd0 : 0 ≤ s.depth) (hd1 : s.depth ≤ 1048576) (scale r c : Int) (hs1 : 1 ≤ scale) (hs2 : scale ≤ 1048576) (hc1 : 0 ≤ c) (hc2 : c ≤ 1048576) (w : World) :
    Calls Try.prog 60 #[.agg #[.string s.name, .int .i64 s.depth, .int .i64 s.low, .int .i64 s.high, .int .i64 s.length, .slice s.lines.A s.lines.l.length s.lines.cap, .int .i64 s.pipe, .int .i64 s.arbor, .int .i64 s.purchase, .int .i64 s.most, .int .i64 s.brake, .slice s.items.A s.items.l.length s.items.cap, .slice s.bricks.A s.bricks.l.length s.bricks.cap], .int .i64 scale, .int .i64 r, .int .i64 c] w (Gives w (.bool (seenPipe s scale r c))) := by
  have m1 : 0 ≤ c * scale := Int.mul_nonneg hc1 (by omega)
  have m2 : c * scale ≤ 1048576 * 1048576 := Int.mul_le_mul hc2 hs2 (by omega) (by omega)
  obtain ⟨q0, q1⟩ := quo_bound hd0 hd1 hs1
  by_cases g1 : s.depth / scale = r
  all_goals by_cases g2 : c * scale ≤ s.length
  all_goals
    have HE := hide (show seenPipe s scale r c = _ from rfl)
    go_enter Try.func60, Try.ntmps60
    go_wp2
    go_ret
    exact Gives.mk (by simp [seenPipe, g1, g2]) ((Below.refl _ _).alloc (Nat.le_refl _) _)
end Go.Proofs.Ytfpankbhfgcgaaa
