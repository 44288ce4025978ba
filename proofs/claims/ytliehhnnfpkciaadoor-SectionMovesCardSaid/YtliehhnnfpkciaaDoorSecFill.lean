/- picture.fill: a character drawn in some rows and columns of the picture. -/
import Derived.Test.YtliehhnnfpkciaaDoorSecBegun
namespace Go.Proofs.YtliehhnnfpkciaaDoor
open Go.RowKit

/-- the picture with all its rows: its struct in block pb, the outer slice in block g, row r in block rb r, holding f r c at c; all below T, the rows not below B -/
structure SPic (pb g cap T B : Nat) (scale : Int) (R C : Nat) (rb : Nat → Nat) (f : Nat → Nat → Int) (w : World) : Prop where
  box : PicBox pb scale (R : Int) (C : Int) (.slice (some ⟨g, 0, none⟩) R cap) w
  outer : ∀ r, r < R → w.cell? ⟨g, r, none⟩ = some (.slice (some ⟨rb r, 0, none⟩) C C)
  row : ∀ r, r < R → ∀ c, c < C → w.cell? ⟨rb r, c, none⟩ = some (.int .u8 (f r c)) ∧ w.frozen? ⟨rb r, c, none⟩ = false
  apart : ∀ r, r < R → rb r ≠ pb ∧ rb r ≠ g ∧ B ≤ rb r ∧ rb r < T
  one : ∀ r r', r < R → r' < R → rb r = rb r' → r = r'
  room : R ≤ cap
  low : pb < T ∧ g < T
  size : T ≤ w.heap.size
section
variable {pb g cap T B : Nat} {scale : Int} {R C : Nat} {rb : Nat → Nat} {f f' : Nat → Nat → Int} {w w' : World}
theorem SPic.below (h : SPic pb g cap T B scale R C rb f w) (hb : Below T w w') : SPic pb g cap T B scale R C rb f w' :=
  ⟨h.box.below hb h.low.1, fun r hr => (hb.cell h.low.2).trans (h.outer r hr), fun r hr c hc => ⟨(hb.cell (h.apart r hr).2.2.2).trans (h.row r hr c hc).1, (hb.frozen (h.apart r hr).2.2.2).trans (h.row r hr c hc).2⟩, h.apart, h.one, h.room, h.low, Nat.le_trans h.size hb.size⟩
theorem SPic.congr (h : SPic pb g cap T B scale R C rb f w) (e : ∀ r c, r < R → c < C → f r c = f' r c) : SPic pb g cap T B scale R C rb f' w :=
  ⟨h.box, h.outer, fun r hr c hc => by rw [← e r c hr hc]; exact h.row r hr c hc, h.apart, h.one, h.room, h.low, h.size⟩
theorem SPic.set (h : SPic pb g cap T B scale R C rb f w) {r : Nat} (hr : r < R) {c : Nat} (hc : c < C) (v : Int) : SPic pb g cap T B scale R C rb (fun i j => if i = r ∧ j = c then v else f i j) (w.setCell ⟨rb r, c, none⟩ (.int .u8 v)) := by
  obtain ⟨a1, a2, a3, a4⟩ := h.apart r hr
  refine ⟨h.box.other (by simp only; omega) _, fun i hi => ?_, fun i hi j hj => ⟨?_, ?_⟩, h.apart, h.one, h.room, h.low, by simpa [World.setCell] using h.size⟩
  · rw [World.cell?_setCell_other w _ _ _ (by intro e; injection e with e; exact a2 e)]
    exact h.outer i hi
  · by_cases e : i = r ∧ j = c
    · obtain ⟨rfl, rfl⟩ := e
      rw [World.cell?_setCell_same w _ _ (h.row i hi j hj).1]
      simp
    · rw [World.cell?_setCell_other w _ _ _ (by
        intro e2
        injection e2 with e3 e4
        exact e ⟨(h.one r i hr hi e3).symm, e4.symm⟩), if_neg e]
      exact (h.row i hi j hj).1
  · rw [World.frozen?_setCell]; exact (h.row i hi j hj).2
end
/-- from block T on nothing has turned -/
structure Above (T : Nat) (w w' : World) : Prop where
  size : w'.heap.size = w.heap.size
  block : ∀ b, T ≤ b → w'.heap[b]? = w.heap[b]?
theorem Above.refl (T : Nat) (w : World) : Above T w w := ⟨rfl, fun _ _ => rfl⟩
theorem Above.setCell {T : Nat} {w w' : World} (h : Above T w w') {p : Addr} (hp : p.block < T) (v : Value) : Above T w (w'.setCell p v) :=
  ⟨(World.size_setCell ..).trans h.size, fun b hb => (Below.heap_setCell w' p v b (by omega)).trans (h.block b hb)⟩
/-- what a fill leaves of the cell at r, c -/
def filled (x : Int) (top bottom left right : Int) (r c : Nat) (v : Int) : Int := if (top ≤ (r : Int) ∧ (r : Int) ≤ bottom) ∧ (left ≤ (c : Int) ∧ (c : Int) ≤ right) then x else v
theorem fill_measure (a : Int) (h : a ≤ 3000001) : (3000002 - (a + 1)).toNat < (3000002 - a).toNat := by omega
/-- the picture while a fill goes on: the rows above i are done, of row i the columns before j -/
def partly (x top bottom left right : Int) (i j : Int) (r c : Nat) (v : Int) : Int := if (r : Int) < i ∨ ((r : Int) = i ∧ (c : Int) < j) then filled x top bottom left right r c v else v
section
variable {pb g cap T B : Nat} {scale : Int} {R C : Nat} {rb : Nat → Nat} {f : Nat → Nat → Int} {w : World} {x top bottom left right : Int}
theorem fill_start (h : SPic pb g cap T B scale R C rb f w) : SPic pb g cap T B scale R C rb (fun r c => partly x top bottom left right (max 0 top) (max 0 left) r c (f r c)) w :=
  h.congr fun r c _ _ => by
    unfold partly filled
    split
    · split
      · omega
      · rfl
    · rfl
theorem fill_step {i j : Nat} (hi : i < R) (hj : j < C) (ht : max 0 top ≤ (i : Int)) (hb : (i : Int) ≤ bottom) (hl : max 0 left ≤ (j : Int)) (hr : (j : Int) ≤ right) (h : SPic pb g cap T B scale R C rb (fun r c => partly x top bottom left right i j r c (f r c)) w) :
    SPic pb g cap T B scale R C rb (fun r c => partly x top bottom left right i ((j : Int) + 1) r c (f r c)) (w.setCell ⟨rb i, j, none⟩ (.int .u8 x)) :=
  (h.set hi hj x).congr fun r c _ _ => by
    by_cases e : r = i ∧ c = j
    · obtain ⟨rfl, rfl⟩ := e
      rw [if_pos ⟨rfl, rfl⟩, partly, if_pos (Or.inr ⟨rfl, by omega⟩), filled, if_pos ⟨⟨by omega, hb⟩, by omega, hr⟩]
    · rw [if_neg e]
      unfold partly
      by_cases h : (r : Int) < (i : Int) ∨ ((r : Int) = (i : Int) ∧ (c : Int) < (j : Int))
      · rw [if_pos h, if_pos (by omega)]
      · rw [if_neg h, if_neg (by omega)]
theorem fill_row {i : Nat} {j : Int} (hj : ¬ j ≤ min right ((C : Int) - 1)) (h : SPic pb g cap T B scale R C rb (fun r c => partly x top bottom left right i j r c (f r c)) w) :
    SPic pb g cap T B scale R C rb (fun r c => partly x top bottom left right ((i : Int) + 1) (max 0 left) r c (f r c)) w :=
  h.congr fun r c hr hc => by
    unfold partly filled
    by_cases h1 : (r : Int) < (i : Int)
    · rw [if_pos (Or.inl h1), if_pos (Or.inl (by omega))]
    · by_cases h2 : (r : Int) = (i : Int)
      · rw [if_pos (show (r : Int) < (i : Int) + 1 ∨ ((r : Int) = (i : Int) + 1 ∧ (c : Int) < max 0 left) from Or.inl (by omega))]
        by_cases h3 : (c : Int) < j
        · rw [if_pos (Or.inr ⟨h2, h3⟩)]
        · rw [if_neg (by omega), if_neg (by omega)]
      · rw [if_neg (by omega)]
        by_cases h4 : (r : Int) = (i : Int) + 1 ∧ (c : Int) < max 0 left
        · rw [if_pos (Or.inr h4), if_neg (by omega)]
        · rw [if_neg (by omega)]
theorem fill_done {i : Int} (hi : ¬ i ≤ min bottom ((R : Int) - 1)) (h : SPic pb g cap T B scale R C rb (fun r c => partly x top bottom left right i (max 0 left) r c (f r c)) w) :
    SPic pb g cap T B scale R C rb (fun r c => filled x top bottom left right r c (f r c)) w :=
  h.congr fun r c hr hc => by
    unfold partly
    by_cases h1 : (r : Int) < i ∨ ((r : Int) = i ∧ (c : Int) < max 0 left)
    · rw [if_pos h1]
    · rw [if_neg h1, filled, if_neg (by omega)]
end
set_option maxHeartbeats 4000000 in
set_option maxRecDepth 100000 in
theorem fill_any (pb g cap T B : Nat) (scale : Int) (R C : Nat) (rb : Nat → Nat) (f : Nat → Nat → Int) (x top bottom left right : Int) (hR : R ≤ 400) (hC : C ≤ 400) (_hcap : cap ≤ 9223372036854775807)
    (ht0 : -3000000 ≤ top) (ht1 : top ≤ 3000000) (hb0 : -3000000 ≤ bottom) (hb1 : bottom ≤ 3000000) (hl0 : -3000000 ≤ left) (hl1 : left ≤ 3000000) (_hr0 : -3000000 ≤ right) (_hr1 : right ≤ 3000000) (w : World) (hP : SPic pb g cap T B scale R C rb f w) :
    Calls Tryd.prog 52 #[.pointer (some ⟨pb, 0, none⟩), .int .u8 x, .int .i64 top, .int .i64 bottom, .int .i64 left, .int .i64 right] w fun e w' => e = .returned (.tuple #[]) ∧ (SPic pb g cap T B scale R C rb (fun r c => filled x top bottom left right r c (f r c)) w' ∧ Below B w w' ∧ Above T w w') := by
  have HS := hide (fill_start (x := x) (top := top) (bottom := bottom) (left := left) (right := right) hP)
  clear hP
  go_enter Tryd.func52, Tryd.ntmps52
  go_wp2
  go_loopw [12, 13] (fun v _ wr => ∃ i : Int, v = .int .i64 i ∧ max 0 top ≤ i ∧ i ≤ 3000001 ∧ SPic pb g cap T B scale R C rb (fun r c => partly x top bottom left right i (max 0 left) r c (f r c)) wr ∧ Below B w wr ∧ Above T w wr) (fun v _ _ => (3000002 - intOf v).toNat)
  case atStart => exact ⟨max 0 top, rfl, by omega, by omega, HS.out, Below.refl _ _, Above.refl T w⟩
  case round =>
    obtain ⟨i, rfl, hi0, hi1, hP1, hB1, hZ1⟩ := hrel
    have c1 := hP1.box.cell1
    have c2 := hP1.box.cell2
    have HP1 := hide hP1
    have HB1 := hide hB1
    have HZ1 := hide hZ1
    clear hP1 hB1 hZ1 HS
    by_cases hin : i ≤ min bottom ((R : Int) - 1)
    · obtain ⟨ir, rfl⟩ : ∃ ir : Nat, i = (ir : Int) := ⟨i.toNat, by omega⟩
      have hiR : ir < R := by omega
      have hib : (ir : Int) ≤ bottom := by omega
      go_wp2
      clear c1 c2
      go_loopw [13] (fun v wr => ∃ j : Int, v = .int .i64 j ∧ max 0 left ≤ j ∧ j ≤ 3000001 ∧ SPic pb g cap T B scale R C rb (fun r c => partly x top bottom left right ir j r c (f r c)) wr ∧ Below B w wr ∧ Above T w wr) (fun v _ => (3000002 - intOf v).toNat)
      case atStart => exact ⟨max 0 left, rfl, by omega, by omega, HP1.out, HB1.out, HZ1.out⟩
      case round =>
        clear HP1 HB1 HZ1
        obtain ⟨j, rfl, hj0, hj1, hP2, hB2, hZ2⟩ := hrel
        have c2 := hP2.box.cell2
        have c3 := hP2.box.cell3
        have hroom := hP2.room
        have HP2 := hide hP2
        have HB2 := hide hB2
        have HZ2 := hide hZ2
        by_cases hjn : j ≤ min right ((C : Int) - 1)
        · obtain ⟨jc, rfl⟩ : ∃ jc : Nat, j = (jc : Int) := ⟨j.toNat, by omega⟩
          have hjC : jc < C := by omega
          have hjr : (jc : Int) ≤ right := by omega
          have co := hP2.outer ir hiR
          obtain ⟨old, hcell⟩ : ∃ v, wr.cell? ⟨rb ir, jc, none⟩ = some v := ⟨_, (hP2.row ir hiR jc hjC).1⟩
          have hfz := (hP2.row ir hiR jc hjC).2
          have HA := hide (hP2.apart ir hiR).2.2.1
          have HA2 := hide (hP2.apart ir hiR).2.2.2
          have HN := hide (fill_step hiR hjC hi0 hib hj0 hjr hP2)
          clear hP2 hB2 hZ2
          go_wp2
          exact ⟨⟨(jc : Int) + 1, rfl, by omega, by omega, HN.out, HB2.out.setCell (p := ⟨rb ir, jc, none⟩) HA.out _, HZ2.out.setCell (p := ⟨rb ir, jc, none⟩) HA2.out _⟩, fill_measure _ (by omega)⟩
        · have HN := hide (fill_row hjn hP2)
          clear hP2 hB2 hZ2
          go_wp2
          exact ⟨⟨(ir : Int) + 1, rfl, by omega, by omega, HN.out, HB2.out, HZ2.out⟩, fill_measure _ (by omega)⟩
    · have HN := hide (fill_done hin HP1.out)
      go_wp2
      go_end0
      exact ⟨rfl, HN.out, HB1.out, HZ1.out⟩
end Go.Proofs.YtliehhnnfpkciaaDoor
