/- gridplan.rank: what a cell of the plan shows of one set. -/
import Derived.Test.YtliehhnnfpkciaaGreatDoorPlanSize
import Derived.Lib.Builder
namespace Go.Proofs.YtliehhnnfpkciaaGreatDoor
open Go.RowKit

def inCell (lo hi : Int) (p : Int) : Bool := decide (lo ≤ p) && decide (p < hi)
def itemIn (lo hi : Int) (i : ItemD) : Bool := decide (i.place < hi) && decide (lo < i.place + i.width)
def rankE (s : SetD) (lo hi : Int) : Int := if s.lines.l.any (inCell lo hi) then 3 else if s.items.l.any (itemIn lo hi) then 2 else if lo ≤ s.length then 1 else 0
/-- places and widths are small -/
def Placed (s : SetD) : Prop := ∀ i ∈ s.items.l, 0 ≤ i.place ∧ i.place ≤ 1048576 ∧ 0 ≤ i.width ∧ i.width ≤ 1048576

theorem enters_rank1 : ∀ args w, (callFunc 52 args).run Tryz.prog w = .ok (.enter 52 args) w := entersOf Tryz.func52 (by kernel_rfl) rfl
theorem enters_rank2 : ∀ args w, (callFunc 54 args).run Tryz.prog w = .ok (.enter 54 args) w := entersOf Tryz.func54 (by kernel_rfl) rfl
set_option maxHeartbeats 400000 in
theorem rank1_any (p lo hi : Int) (b1 b2 : Addr) (w : World) (h1 : w.cell? b1 = some (.int .i64 lo)) (h2 : w.cell? b2 = some (.int .i64 hi)) :
    Calls Tryz.prog 52 #[.int .i64 p, .pointer (some b1), .pointer (some b2)] w (Gives w (.bool (inCell lo hi p))) := by
  by_cases g1 : lo ≤ p
  all_goals by_cases g2 : p < hi
  all_goals
    go_enter Tryz.func52, Tryz.ntmps52
    go_wp2
    go_ret
    exact Gives.mk (by simp [inCell, g1, g2]) (Below.refl _ _)
set_option maxHeartbeats 400000 in
theorem rank2_any (i : ItemD) (lo hi : Int) (b1 b2 : Addr) (w : World) (hb1 : b1.block < w.heap.size) (hb2 : b2.block < w.heap.size) (h1 : w.cell? b1 = some (.int .i64 lo)) (h2 : w.cell? b2 = some (.int .i64 hi))
    (p0 : 0 ≤ i.place) (p1 : i.place ≤ 1048576) (q0 : 0 ≤ i.width) (q1 : i.width ≤ 1048576) :
    Calls Tryz.prog 54 #[.agg #[.string i.name, .int .i64 i.place, .int .i64 i.width, .int .i64 i.weight, .int .i64 i.hang, .int .i64 i.front, .int .i64 i.back], .pointer (some b2), .pointer (some b1)] w (Gives w (.bool (itemIn lo hi i))) := by
  have c1 : ∀ o : Obj, (w.alloc o).cell? b1 = some (.int .i64 lo) := fun o => by rw [World.cell?_alloc_lt w o b1 hb1]; exact h1
  have c2 : ∀ o : Obj, (w.alloc o).cell? b2 = some (.int .i64 hi) := fun o => by rw [World.cell?_alloc_lt w o b2 hb2]; exact h2
  by_cases g1 : i.place < hi
  all_goals by_cases g2 : lo < i.place + i.width
  all_goals
    go_enter Tryz.func54, Tryz.ntmps54
    go_wp2
    go_ret
    exact Gives.mk (by simp [itemIn, g1, g2]) ((Below.refl _ _).alloc (Nat.le_refl _) _)
set_option maxHeartbeats 1000000 in
theorem rank_any (s : SetD) (hp : Placed s) (scale c : Int) (hs1 : 1 ≤ scale) (hs2 : scale ≤ 1048576) (hc1 : 0 ≤ c) (hc2 : c ≤ 1048576) (w : World) (B : Nat) (hB : B ≤ w.heap.size) (hat : SetD.at_ w B s) :
    Calls Tryz.prog 24 #[.agg #[.string s.name, .int .i64 s.depth, .int .i64 s.low, .int .i64 s.high, .int .i64 s.length, .slice s.lines.A s.lines.l.length s.lines.cap, .int .i64 s.pipe, .int .i64 s.arbor, .int .i64 s.purchase, .int .i64 s.most, .int .i64 s.brake, .slice s.items.A s.items.l.length s.items.cap, .slice s.bricks.A s.bricks.l.length s.bricks.cap], .int .i64 scale, .int .i64 c] w (Gives w (.int .i64 (rankE s (c * scale) ((c + 1) * scale)))) := by
  have m1 : 0 ≤ c * scale := Int.mul_nonneg hc1 (by omega)
  have m2 : c * scale ≤ 1048576 * 1048576 := Int.mul_le_mul hc2 hs2 (by omega) (by omega)
  have m3 : 0 ≤ (c + 1) * scale := Int.mul_nonneg (by omega) (by omega)
  have m4 : (c + 1) * scale ≤ 1048577 * 1048576 := Int.mul_le_mul (by omega) hs2 (by omega) (by omega)
  generalize hlo : c * scale = lo at *
  generalize hhi : (c + 1) * scale = hi at *
  obtain ⟨W1, hW1, hs1', hb1, hh1⟩ := boxed w (.cells #[.string s.name, .int .i64 s.depth, .int .i64 s.low, .int .i64 s.high, .int .i64 s.length, .slice s.lines.A s.lines.l.length s.lines.cap, .int .i64 s.pipe, .int .i64 s.arbor, .int .i64 s.purchase, .int .i64 s.most, .int .i64 s.brake, .slice s.items.A s.items.l.length s.items.cap, .slice s.bricks.A s.bricks.l.length s.bricks.cap] 49)
  obtain ⟨W2, hW2, hs2', hb2, hh2⟩ := boxed W1 (.cells #[.int .i64 lo] 3)
  obtain ⟨W, hW, hs3', hb3, hh3⟩ := boxed W2 (.cells #[.int .i64 hi] 3)
  have hb : Below w.heap.size w W := hb1.trans ((hb2.trans (hb3.mono (by omega))).mono (by omega))
  have hset : W.heap[w.heap.size]? = some (.cells #[.string s.name, .int .i64 s.depth, .int .i64 s.low, .int .i64 s.high, .int .i64 s.length, .slice s.lines.A s.lines.l.length s.lines.cap, .int .i64 s.pipe, .int .i64 s.arbor, .int .i64 s.purchase, .int .i64 s.most, .int .i64 s.brake, .slice s.items.A s.items.l.length s.items.cap, .slice s.bricks.A s.bricks.l.length s.bricks.cap] 49 (0, 0)) := by rw [hW, Lib.alloc_old _ _ _ (by omega), hW2, Lib.alloc_old _ _ _ (by omega)]; exact hh1
  have hlo2 : W.heap[W1.heap.size]? = some (.cells #[.int .i64 lo] 3 (0, 0)) := by rw [hW, Lib.alloc_old _ _ _ (by omega)]; exact hh2
  have hc := fun x : After W.heap.size W => SetD.boxed hset (by omega) x
  have cl : ∀ x : After W.heap.size W, x.val.cell? ⟨w.heap.size + 1, 0, none⟩ = some (.int .i64 lo) := fun x => by rw [← hs1']; exact x.cells hlo2 (by omega) 0 _ rfl
  have ch : ∀ x : After W.heap.size W, x.val.cell? ⟨w.heap.size + 1 + 1, 0, none⟩ = some (.int .i64 hi) := fun x => by rw [← hs1', ← hs2']; exact x.cells hh3 (by omega) 0 _ rfl
  have hlt : w.heap.size + 1 + 1 < W.heap.size := by omega
  have hatW : SetD.at_ W W.heap.size s := hat.to (hb.mono hB) (by omega)
  have hbd : ∀ y : After W.heap.size W, Below w.heap.size w y.val := fun y => hb.trans (y.below.mono (by omega))
  have k1 : ∀ x : After W.heap.size W, Calls Tryz.prog 51 #[.slice s.lines.A s.lines.l.length s.lines.cap, .func (.func 52) #[] #[.pointer (some ⟨w.heap.size + 1, 0, none⟩), .pointer (some ⟨w.heap.size + 1 + 1, 0, none⟩)]] x.val (Gives x.val (.bool (s.lines.l.any (inCell lo hi)))) := fun x =>
    containsInt_any _ _ _ (inCell lo hi) _ _ enters_rank1 x.val x.val.heap.size (Nat.le_refl _) (hatW.to x.below x.size).lines (fun y e _ => by
      rw [oneTwo]; exact rank1_any e lo hi _ _ y.val ((y.below.cell (Nat.lt_of_lt_of_le (show w.heap.size + 1 < W.heap.size by omega) x.size)).trans (cl x)) ((y.below.cell (Nat.lt_of_lt_of_le hlt x.size)).trans (ch x)))
  have k2 : ∀ x : After W.heap.size W, Calls Tryz.prog 53 #[.slice s.items.A s.items.l.length s.items.cap, .func (.func 54) #[] #[.pointer (some ⟨w.heap.size + 1 + 1, 0, none⟩), .pointer (some ⟨w.heap.size + 1, 0, none⟩)]] x.val (Gives x.val (.bool (s.items.l.any (itemIn lo hi)))) := fun x =>
    containsItem_any _ _ _ (itemIn lo hi) _ _ enters_rank2 x.val x.val.heap.size (Nat.le_refl _) (hatW.to x.below x.size).items (fun y e he => by
      obtain ⟨p0, p1, q0, q1⟩ := hp e he
      have := x.size; have := y.size
      rw [oneTwo]; exact rank2_any e lo hi _ _ y.val (by simp only; omega) (by simp only; omega) ((y.below.cell (Nat.lt_of_lt_of_le (show w.heap.size + 1 < W.heap.size by omega) x.size)).trans (cl x)) ((y.below.cell (Nat.lt_of_lt_of_le hlt x.size)).trans (ch x)) p0 p1 q0 q1)
  have K1 := hide fun x => Gives.after (Nat.le_refl _) (k1 x)
  have K2 := hide fun x => Gives.after (Nat.le_refl _) (k2 x)
  have HW := hide (show W = ((w.alloc (.cells #[.string s.name, .int .i64 s.depth, .int .i64 s.low, .int .i64 s.high, .int .i64 s.length, .slice s.lines.A s.lines.l.length s.lines.cap, .int .i64 s.pipe, .int .i64 s.arbor, .int .i64 s.purchase, .int .i64 s.most, .int .i64 s.brake, .slice s.items.A s.items.l.length s.items.cap, .slice s.bricks.A s.bricks.l.length s.bricks.cap] 49)).alloc (.cells #[.int .i64 lo] 3)).alloc (.cells #[.int .i64 hi] 3) by rw [hW, hW2, hW1])
  have HBD := hide hbd
  have HE := hide (show rankE s lo hi = (if s.lines.l.any (inCell lo hi) then 3 else if s.items.l.any (itemIn lo hi) then 2 else if lo ≤ s.length then 1 else 0) from rfl)
  clear hW1 hW2 hW hs1' hs2' hs3' hb1 hb2 hb3 hh1 hh2 hh3 hb hset hlo2 hatW hbd k1 k2 hlt hat hp
  subst hlo
  subst hhi
  generalize s.lines.l.any (inCell (c * scale) ((c + 1) * scale)) = l1 at *
  generalize s.items.l.any (itemIn (c * scale) ((c + 1) * scale)) = l2 at *
  cases l1
  · cases l2
    · by_cases g : c * scale ≤ s.length
      all_goals
        go_enter Tryz.func24, Tryz.ntmps24
        go_wp2_with fail
        rw [← HW.out]
        refine (K1.out (After.refl _ W)).mono ?_
        rintro e w' ⟨rfl, x, rfl⟩
        go_wp2_with fail
        refine (K2.out x).mono ?_
        rintro e w' ⟨rfl, x, rfl⟩
        go_wp2
        go_ret
        refine Gives.mk ?_ (HBD.out _)
        rw [HE.out]
        simp [g]
    · go_enter Tryz.func24, Tryz.ntmps24
      go_wp2_with fail
      rw [← HW.out]
      refine (K1.out (After.refl _ W)).mono ?_
      rintro e w' ⟨rfl, x, rfl⟩
      go_wp2_with fail
      refine (K2.out x).mono ?_
      rintro e w' ⟨rfl, x, rfl⟩
      go_wp2
      go_ret
      refine Gives.mk ?_ (HBD.out _)
      rw [HE.out]
      rfl
  · go_enter Tryz.func24, Tryz.ntmps24
    go_wp2_with fail
    rw [← HW.out]
    refine (K1.out (After.refl _ W)).mono ?_
    rintro e w' ⟨rfl, x, rfl⟩
    go_wp2
    go_ret
    refine Gives.mk ?_ (HBD.out _)
    rw [HE.out]
    rfl
end Go.Proofs.YtliehhnnfpkciaaGreatDoor
