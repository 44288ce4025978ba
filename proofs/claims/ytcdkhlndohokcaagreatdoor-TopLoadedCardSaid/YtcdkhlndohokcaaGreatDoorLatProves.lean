/- loadin.Order: the first safe order, if there is one. loadin.Check: an order that it calls safe is one. loadin.Closed: the states that are reached, where the whole is none of them. loadin.Proves: the states that are reached prove that there is no safe order. -/
import Derived.Test.YtcdkhlndohokcaaGreatDoorLatOf
namespace Go.Proofs.YtcdkhlndohokcaaGreatDoor
open Go Go.RowKit Go.Maps Go.Deep

set_option maxRecDepth 100000 in
set_option maxHeartbeats 1000000 in
/-- `any` with a condition that is met first at i0 and does something there -/
theorem any_hit (n lb : Nat) (hn : n ≤ 12) (st : Int) (g : Nat) (caps : Array Value) (i0 : Nat) (hi0 : i0 < n) (R : World → Prop) (eg : ∀ args w, (callFunc g args).run Tryz.prog w = .ok (.enter g args) w) (w : World) (hc : w.cell? ⟨lb, 0, none⟩ = some (.int .i64 (n : Int)))
    (hno : ∀ (x : After w.heap.size w) (i : Nat), i < i0 → Calls Tryz.prog g (#[.int .i64 (i : Int)] ++ caps) x.val (Gives x.val (.bool false)))
    (hyes : ∀ (x : After w.heap.size w), Calls Tryz.prog g (#[.int .i64 (i0 : Int)] ++ caps) x.val (fun e w' => e = .returned (.bool true) ∧ R w')) :
    Calls Tryz.prog 29 #[.pointer (some ⟨lb, 0, none⟩), .int .i64 st, .func (.func g) #[] caps] w (fun e w' => e = .returned (.bool true) ∧ R w') := by
  have HNO := hide hno
  have HYES := hide hyes
  clear hno hyes
  go_enter Tryz.func29, Tryz.ntmps29
  go_wp2_with fail
  go_loopw [12] (fun v wr => ∃ k : Nat, v = .int .i64 k ∧ k ≤ i0 ∧ ∃ x : After w.heap.size w, wr = x.val) (fun v _ => n - (intOf v).toNat)
  case atStart => exact ⟨0, rfl, Nat.zero_le _, After.refl _ _, rfl⟩
  case round =>
    obtain ⟨k, rfl, hk, x, rfl⟩ := hrel
    have hlt : k < n := by omega
    by_cases hki : k < i0
    · have KX := hide (Gives.after (x := x) (Nat.le_refl _) (HNO.out x k hki))
      go_wp2_with (refine KX.out.mono ?_; rintro e w' ⟨rfl, y, rfl⟩)
      exact ⟨⟨k + 1, by go_num, by omega, y, rfl⟩, by simp [intOf]; omega⟩
    · obtain rfl : k = i0 := by omega
      have KX := hide (HYES.out x)
      go_wp2_with (refine KX.out.mono ?_; rintro e w' ⟨rfl, hR⟩; have HR := hide hR; clear hR)
      go_ret
      exact ⟨rfl, HR.out⟩
/-- the order that is being made, and the state that it has led to -/
structure OrdSt (W : World) (ob sv st : Nat) (o : List Nat) (v : Value) (x : World) : Prop where
  row : ISt W v (o.map fun i : Nat => (i : Int)) x
  oc : x.cell? ⟨ob, 0, none⟩ = some v
  ofz : x.frozen? ⟨ob, 0, none⟩ = false
  sc : x.cell? ⟨sv, 0, none⟩ = some (.int .i64 (st : Int))
  sfz : x.frozen? ⟨sv, 0, none⟩ = false
  base : W.heap.size ≤ ob ∧ W.heap.size ≤ sv
  lt : ob < x.heap.size ∧ sv < x.heap.size
  apart : ob ≠ sv ∧ v.ownBlock ≠ some ob ∧ v.ownBlock ≠ some sv
theorem frozen_of_block {w w' : World} {b : Nat} (h : w'.heap[b]? = w.heap[b]?) (i : Nat) : w'.frozen? ⟨b, i, none⟩ = w.frozen? ⟨b, i, none⟩ := by
  unfold World.frozen?
  rw [h]
theorem OrdSt.to {W : World} {ob sv st : Nat} {o : List Nat} {v : Value} {x y : World} (h : OrdSt W ob sv st o v x) (b : Below x.heap.size x y) : OrdSt W ob sv st o v y :=
  ⟨h.row.to b, (b.cell h.lt.1).trans h.oc, (frozen_of_block (b.block _ h.lt.1) 0).trans h.ofz, (b.cell h.lt.2).trans h.sc, (frozen_of_block (b.block _ h.lt.2) 0).trans h.sfz, h.base, by have := b.size; have := h.lt; omega, h.apart⟩
set_option maxRecDepth 100000 in
set_option maxHeartbeats 2000000 in
theorem order1_no (lb gb ob sv pv N st i : Nat) (f : Nat → Bool) (hst : st < N) (hN : N ≤ 4096) (hi : i < 12) (hin : st.testBit i = false → st + 2 ^ i < N) (hno : (!st.testBit i && f (st + 2 ^ i)) = false) (w : World) (hsv : w.cell? ⟨sv, 0, none⟩ = some (.int .i64 (st : Int))) (hpv : w.cell? ⟨pv, 0, none⟩ = some (.pointer (some ⟨lb, 0, none⟩)))
    (hl : w.cell? ⟨lb, 3, none⟩ = some (.slice (some ⟨gb, 0, none⟩) N N)) (hr : ∀ j, j < N → w.cell? ⟨gb, j, none⟩ = some (.bool (f j))) (hlt : sv < w.heap.size ∧ pv < w.heap.size ∧ lb < w.heap.size ∧ gb < w.heap.size) :
    Calls Tryz.prog 30 #[.int .i64 (i : Int), .pointer (some ⟨sv, 0, none⟩), .pointer (some ⟨pv, 0, none⟩), .pointer (some ⟨ob, 0, none⟩)] w (Gives w (.bool false)) := by
  have f1 := fun y : After w.heap.size w => And.intro (y.cell hsv hlt.1) (And.intro (y.cell hpv hlt.2.1) (y.cell hl hlt.2.2.1))
  have f0 := f1 (After.refl _ _)
  simp only [After.refl] at f0
  have hask := bit_ask st i (by omega)
  have hi0 : (0 : Int) ≤ (i : Int) := by omega
  have hi1 : (i : Int) ≤ 64 := by omega
  cases hb : st.testBit i
  · rw [hb] at hask hno
    simp only [Bool.false_eq_true, if_false] at hask
    rw [Bool.not_false, Bool.true_and] at hno
    have hp2 : 2 ^ i ≤ 2 ^ 12 := Nat.pow_le_pow_right (by decide) (by omega)
    have hshl := shl_one (n := i) (by omega)
    have hand := or_i64 st (2 ^ i) (by omega) (Nat.lt_of_le_of_lt hp2 (by decide))
    rw [or_bit hb] at hand
    obtain ⟨j, hj⟩ : ∃ j, j = st + 2 ^ i := ⟨_, rfl⟩
    have hjN : j < N := by rw [hj]; exact hin hb
    obtain ⟨q, hq⟩ : ∃ q, q = 2 ^ i := ⟨_, rfl⟩
    rw [← hj] at hand hno
    rw [← hq] at hand hshl
    have hj0 : (0 : Int) ≤ (j : Int) := by omega
    have hj1 : (j : Int) < (N : Int) := by omega
    have hN0 : (N : Int) ≤ 4096 := by omega
    have hrj := fun y : After w.heap.size w => y.cell (hr j hjN) hlt.2.2.2
    rw [hno] at hrj
    have hrj0 := hrj (After.refl _ _)
    simp only [After.refl] at hrj0
    clear hb hin hr hsv hpv hl hp2 hj hq hno
    go_enter Tryz.func30, Tryz.ntmps30
    go_upto_region 1 with fail
    refine wp_region_after (After.refl w.heap.size w) (by kernel_rfl) (by kernel_rfl) ?_
    repeat (go_big_quiet_step (fail))
    refine wpQuiet_nil ?_
    intro z
    go_wp2_with fail
    go_ret
    exact Gives.mk rfl z.below
  · rw [hb] at hask
    simp only [if_true] at hask
    clear hb hin hr hsv hpv hl hno
    go_enter Tryz.func30, Tryz.ntmps30
    go_upto_region 1 with fail
    refine wp_region_after (After.refl w.heap.size w) (by kernel_rfl) (by kernel_rfl) ?_
    repeat (go_big_quiet_step (fail))
    refine wpQuiet_nil ?_
    intro z
    go_wp2_with fail
    go_ret
    exact Gives.mk rfl z.below
/-- a number more in the order, and the state that goes with it -/
theorem OrdSt.push {W z w4 : World} {ob sv st i g cap : Nat} {o : List Nat} {v : Value} (h : OrdSt W ob sv st o v z) (hown : w4.ownsRow W.heap.size 3 1 (.slice (some ⟨g, 0, none⟩) (o.length + 1) cap) (o.length + 1) ((o.map fun i : Nat => (i : Int)).map (Value.int .i64) ++ [.int .i64 (i : Int)]))
    (hgr : (z.alloc (.cells #[.int .i64 (i : Int)] 3)).grownBy w4 v.ownBlock) (hg : v.ownBlock = some g ∨ g = z.heap.size + 1) :
    (w4.cell? ⟨ob, 0, none⟩ = some v ∧ w4.frozen? ⟨ob, 0, none⟩ = false) ∧
    OrdSt W ob sv st (o ++ [i]) (.slice (some ⟨g, 0, none⟩) (o.length + 1) cap) (w4.setCell ⟨ob, 0, none⟩ (.slice (some ⟨g, 0, none⟩) (o.length + 1) cap)) := by
  have hb : ∀ k, k < z.heap.size → some k ≠ v.ownBlock → w4.heap[k]? = z.heap[k]? := fun k hk hne => (hgr.block k (by simp; omega) hne).trans (heap_alloc_old _ _ hk)
  obtain ⟨a1, a2, a3⟩ := h.apart
  have hob := hb ob h.lt.1 (Ne.symm a2)
  have hsv := hb sv h.lt.2 (Ne.symm a3)
  have hsz : z.heap.size < w4.heap.size := by have := hgr.size; simp at this; omega
  have hgo : g ≠ ob := by
    rcases hg with e | e
    · rw [e] at a2; simpa using a2
    · have := h.lt; omega
  have hgs : g ≠ sv := by
    rcases hg with e | e
    · rw [e] at a3; simpa using a3
    · have := h.lt; omega
  have hI := h.row.to ((Below.refl _ _).alloc (Nat.le_refl _) (.cells #[.int .i64 (i : Int)] 3))
  have hI4 : ISt W (.slice (some ⟨g, 0, none⟩) (o.length + 1) cap) ((o ++ [i]).map fun i : Nat => (i : Int)) w4 := by
    have := hI.grow (g := g) (cap := cap) (n := (i : Int)) (by simpa using hown) hgr
    simpa using this
  refine ⟨⟨(cell_of_block hob 0).trans h.oc, (frozen_of_block hob 0).trans h.ofz⟩, ⟨⟨ownsRow_setCell_other hI4.1 (by simpa [Value.ownBlock] using hgo) _, hI4.2.setCell h.base.1 _⟩, ?_, ?_, ?_, ?_, h.base, ?_, a1, ?_, ?_⟩⟩
  · exact World.cell?_setCell_same _ _ _ ((cell_of_block hob 0).trans h.oc)
  · rw [World.frozen?_setCell]; exact (frozen_of_block hob 0).trans h.ofz
  · exact (cell_of_block (blk_setCell_other _ ⟨ob, 0, none⟩ _ _ (Ne.symm a1)) 0).trans ((cell_of_block hsv 0).trans h.sc)
  · exact (frozen_of_block (blk_setCell_other _ ⟨ob, 0, none⟩ _ _ (Ne.symm a1)) 0).trans ((frozen_of_block hsv 0).trans h.sfz)
  · have := h.lt; simp [World.setCell]; omega
  · simpa [Value.ownBlock] using hgo
  · simpa [Value.ownBlock] using hgs
theorem OrdSt.state {W x : World} {ob sv st : Nat} {o : List Nat} {v : Value} (h : OrdSt W ob sv st o v x) (j : Nat) : OrdSt W ob sv j o v (x.setCell ⟨sv, 0, none⟩ (.int .i64 (j : Int))) := by
  obtain ⟨a1, a2, a3⟩ := h.apart
  refine ⟨⟨ownsRow_setCell_other h.row.1 a3 _, h.row.2.setCell h.base.2 _⟩, (cell_of_block (blk_setCell_other _ ⟨sv, 0, none⟩ _ _ a1) 0).trans h.oc, (frozen_of_block (blk_setCell_other _ ⟨sv, 0, none⟩ _ _ a1) 0).trans h.ofz, World.cell?_setCell_same _ _ _ h.sc, (by rw [World.frozen?_setCell]; exact h.sfz), h.base, ?_, h.apart⟩
  have := h.lt; simp [World.setCell]; omega
set_option maxRecDepth 100000 in
set_option maxHeartbeats 4000000 in
theorem order1_yes (W : World) (lb gb ob sv pv N st i : Nat) (o : List Nat) (v : Value) (f : Nat → Bool) (hst : st < N) (hN : N ≤ 4096) (hi : i < 12) (hlen : o.length ≤ 5000) (hb : st.testBit i = false) (hin : st + 2 ^ i < N) (hf : f (st + 2 ^ i) = true) (w : World) (hord : OrdSt W ob sv st o v w) (hpv : w.cell? ⟨pv, 0, none⟩ = some (.pointer (some ⟨lb, 0, none⟩)))
    (hl : w.cell? ⟨lb, 3, none⟩ = some (.slice (some ⟨gb, 0, none⟩) N N)) (hr : ∀ j, j < N → w.cell? ⟨gb, j, none⟩ = some (.bool (f j))) (hlt : pv < w.heap.size ∧ lb < w.heap.size ∧ gb < w.heap.size) :
    Calls Tryz.prog 30 #[.int .i64 (i : Int), .pointer (some ⟨sv, 0, none⟩), .pointer (some ⟨pv, 0, none⟩), .pointer (some ⟨ob, 0, none⟩)] w (fun e w' => e = .returned (.bool true) ∧ ∃ v', OrdSt W ob sv (st + 2 ^ i) (o ++ [i]) v' w') := by
  have f1 := fun y : After w.heap.size w => And.intro (And.intro (hord.to y.below).sc (hord.to y.below).oc) (And.intro (y.cell hpv hlt.1) (y.cell hl hlt.2.1))
  have f0 := f1 (After.refl _ _)
  simp only [After.refl] at f0
  have hask := bit_ask st i (by omega)
  have hi0 : (0 : Int) ≤ (i : Int) := by omega
  have hi1 : (i : Int) ≤ 64 := by omega
  rw [hb] at hask
  simp only [Bool.false_eq_true, if_false] at hask
  have hp2 : 2 ^ i ≤ 2 ^ 12 := Nat.pow_le_pow_right (by decide) (by omega)
  have hshl := shl_one (n := i) (by omega)
  have hand := or_i64 st (2 ^ i) (by omega) (Nat.lt_of_le_of_lt hp2 (by decide))
  rw [or_bit hb] at hand
  obtain ⟨j, hj⟩ : ∃ j, j = st + 2 ^ i := ⟨_, rfl⟩
  rw [← hj] at hin hf ⊢
  obtain ⟨q, hq⟩ : ∃ q, q = 2 ^ i := ⟨_, rfl⟩
  rw [← hj] at hand
  rw [← hq] at hand hshl
  have hj0 : (0 : Int) ≤ (j : Int) := by omega
  have hj1 : (j : Int) < (N : Int) := by omega
  have hN0 : (N : Int) ≤ 4096 := by omega
  have hrj := fun y : After w.heap.size w => y.cell (hr j hin) hlt.2.2
  rw [hf] at hrj
  have hrj0 := hrj (After.refl _ _)
  simp only [After.refl] at hrj0
  have HORD := hide (fun y : After w.heap.size w => hord.to y.below)
  obtain ⟨ii, hi1', hz, hs0, hbb0⟩ := infoI_parts
  have HI0 := hide (And.intro hi1' (And.intro hz (And.intro hs0 hbb0)))
  clear hb hin hr hord hpv hl hp2 hj hq hf hi1' hz hs0 hbb0
  go_enter Tryz.func30, Tryz.ntmps30
  go_upto_region 1 with fail
  refine wp_region_after (After.refl w.heap.size w) (by kernel_rfl) (by kernel_rfl) ?_
  repeat (go_big_quiet_step (fail))
  refine wpQuiet_nil ?_
  intro z
  have hoz := HORD.out z
  have hown := (hoz.row.to ((Below.refl _ _).alloc (Nat.le_refl _) (.cells #[.int .i64 (i : Int)] 3 (0, 0)))).1
  simp only [List.length_map] at hown
  have HOWN := hide hown
  have HOZ := hide hoz
  have f1z := f1 z
  clear hoz hown f1 hrj f0 hrj0
  go_wp2_with (at_builtin; refine Hid.out ?_)
  refine Lib.hid ?_
  have hWz := HOZ.out.row.2.size
  refine wpList_append_lies _ rfl _ _ 22 rfl W.heap.size 3 ii (.int .i64 0) 1 8 Tryz.underlying22 HI0.out.1 HI0.out.2.1 HI0.out.2.2.1 HI0.out.2.2.2 rfl (by decide) _ o.length _ rfl HOWN.out ⟨z.val.heap.size, 0, none⟩ 1 1 [.int .i64 (i : Int)] rfl rfl (World.news_of_block (heap_alloc_new z.val _)) (fun u hu => by simp at hu; subst hu; rfl) (by omega) (by unfold maxLen; omega) (by omega) (by simp; omega) (z.val.heap.size + 1) (by simp) ?_
  intro g4 cap4 w4 hown4 hgr4 hg4 hlt4
  obtain ⟨⟨h4a, h4b⟩, h4c⟩ := HOZ.out.push hown4 hgr4 hg4
  obtain ⟨U, hU⟩ : ∃ U, U = w4.setCell ⟨ob, 0, none⟩ (.slice (some ⟨g4, 0, none⟩) (o.length + 1) cap4) := ⟨_, rfl⟩
  rw [← hU] at h4c
  have HU := hide hU
  have H4C := hide (fun y : After U.heap.size U => h4c.to y.below)
  have h5 := fun y : After U.heap.size U => And.intro (h4c.to y.below).sc (h4c.to y.below).sfz
  have h50 := h5 (After.refl _ _)
  simp only [After.refl] at h50
  clear hown4 hgr4 hg4 hlt4 h4c hU
  go_upto_region 4 with fail
  rw [← HU.out]
  refine wp_tail_first U.heap.size 4 (by kernel_rfl) (by kernel_rfl) ?_
  simp only [List.take_succ_cons, List.take_zero, List.drop_succ_cons, List.drop_zero]
  repeat (go_big_quiet_step (fail))
  refine wpQuiet_nil ?_
  intro y
  go_wp2_with fail
  go_ret
  exact ⟨rfl, _, (H4C.out y).state j⟩
theorem own_lt {w : World} {base : Nat} {e : TypeId} {size : Nat} {v : Value} {n : Nat} {xs : List Value} (h : w.ownsRow base e size v n xs) : ∀ k, v.ownBlock = some k → k < w.heap.size := by
  intro k hk
  rcases h.2 with ⟨rfl, _⟩ | ⟨g, cap, cur, rfl, hg, hh, _⟩
  · simp [Value.ownBlock] at hk
  · have : g = k := by simpa [Value.ownBlock] using hk
    subst this
    exact (Array.getElem?_eq_some_iff.1 hh).1
theorem OrdSt.start (V : World) : OrdSt V V.heap.size (V.heap.size + 1) 0 [] (.slice none 0 0) ((V.alloc (.cells #[.slice none 0 0] 22)).alloc (.cells #[.int .i64 0] 3)) := by
  have h1 : Below V.heap.size V (V.alloc (.cells #[.slice none 0 0] 22)) := (Below.refl _ _).alloc (Nat.le_refl _) _
  have hz : (V.alloc (.cells #[.slice none 0 0] 22)).heap.size = V.heap.size + 1 := by simp
  have hn1 := heap_alloc_new V (.cells #[.slice none 0 0] 22)
  have hn2 := heap_alloc_new (V.alloc (.cells #[.slice none 0 0] 22)) (.cells #[.int .i64 0] 3)
  have hn3 := (heap_alloc_old (V.alloc (.cells #[.slice none 0 0] 22)) (.cells #[.int .i64 0] 3) (show V.heap.size < (V.alloc (.cells #[.slice none 0 0] 22)).heap.size by omega)).trans hn1
  rw [hz] at hn2
  exact ⟨⟨own_nil _ _ _ _, h1.alloc (by omega) _⟩, Joins.cell_of_block hn3 0, block_unfrozen hn3 0, Joins.cell_of_block hn2 0, block_unfrozen hn2 0, by omega, ⟨by simp; omega, by simp⟩, by omega, by simp [Value.ownBlock], by simp [Value.ownBlock]⟩
theorem OrdSt.turn {W x : World} {ob sv st : Nat} {o : List Nat} {v : Value} (h : OrdSt W ob sv st o v x) : OrdSt W ob x.heap.size st o v (x.alloc (.cells #[.int .i64 (st : Int)] 3)) := by
  have hn := heap_alloc_new x (.cells #[.int .i64 (st : Int)] 3)
  have h2 := h.to ((Below.refl _ _).alloc (Nat.le_refl _) (.cells #[.int .i64 (st : Int)] 3))
  refine ⟨h2.row, h2.oc, h2.ofz, Joins.cell_of_block hn 0, block_unfrozen hn 0, ⟨h.base.1, h.row.2.size⟩, ⟨h2.lt.1, by simp⟩, by have := h.lt; omega, h.apart.2.1, fun e => ?_⟩
  have := own_lt h.row.1 _ e
  omega
theorem next_first {H : Nat → Bool} {n st : Nat} (hst : st < 2 ^ n) (hl : Lds H n st) (hw : st ≠ 2 ^ n - 1) : ∃ i, i < n ∧ st.testBit i = false ∧ Lds H n (st + 2 ^ i) ∧ ∀ j, j < i → (!st.testBit j && ldsB H n (st + 2 ^ j)) = false := by
  obtain ⟨i, h1, h2, h3, h4⟩ := nextJob_some (good := ldsB H n) (fun _ _ => ldsB_iff) hst hl hw
  refine ⟨i, h2, h3, h4, fun j hj => ?_⟩
  unfold nextJob at h1
  rw [List.find?_range_eq_some] at h1
  have := h1.2.2 j hj
  rwa [Bool.not_eq_true'] at this
/-- what Order gives -/
def OrdPost (w : World) (s : SetD) (l : List JobD) (e : Ending) (w' : World) : Prop :=
  Below w.heap.size w w' ∧ ∃ (S : Sl Int) (k : Int), e = .returned (.tuple #[.slice S.A S.l.length S.cap, .int .i64 k]) ∧ SlAt w' w'.heap.size 1 intCells S ∧
    ((k = 0 ∧ setOk s = true ∧ jobsOk l = true ∧ ∃ o : List Nat, S.l = o.map (fun i : Nat => (i : Int)) ∧ Safe (heldSt s l) l.length 0 o ∧ heldSt s l 0 = true) ∨ (k = 22 ∧ setOk s = true ∧ jobsOk l = true ∧ S.l = [] ∧ ¬ Lds (heldSt s l) l.length 0) ∨ (k = 1 ∧ (setOk s && jobsOk l) = false ∧ S.l = []))
theorem OrdPost.nil {w w' : World} {s : SetD} {l : List JobD} {k : Int} (h : Below w.heap.size w w') (hk : (k = 22 ∧ setOk s = true ∧ jobsOk l = true ∧ ¬ Lds (heldSt s l) l.length 0) ∨ (k = 1 ∧ (setOk s && jobsOk l) = false)) :
    OrdPost w s l (.returned (.tuple #[.slice none 0 0, .int .i64 k])) w' :=
  ⟨h, ⟨none, 0, []⟩, k, rfl, ⟨Nat.le_refl _, Nat.zero_le _, fun h => absurd h (by simp)⟩, Or.inr (by
    rcases hk with ⟨a, b, c, d⟩ | ⟨a, b⟩
    · exact Or.inl ⟨a, b, c, rfl, d⟩
    · exact Or.inr ⟨a, b, rfl⟩)⟩
set_option maxRecDepth 100000 in
set_option maxHeartbeats 4000000 in
theorem order_any (s : SetD) (sok : s.ok) (A : Option Addr) (cap : Nat) (l : List JobD) (hok : ∀ x ∈ l, x.ok) (w : World) (B : Nat) (hB : B ≤ w.heap.size) (sat : SetD.at_ w B s) (hat : SlAt w B 3 JobD.cells ⟨A, cap, l⟩) (hlen : l.length ≤ 12) :
    Calls Tryz.prog 7 #[.agg #[.string s.name, .int .i64 s.depth, .int .i64 s.low, .int .i64 s.high, .int .i64 s.length, .slice s.lines.A s.lines.l.length s.lines.cap, .int .i64 s.pipe, .int .i64 s.arbor, .int .i64 s.purchase, .int .i64 s.most, .int .i64 s.brake, .slice s.items.A s.items.l.length s.items.cap, .slice s.bricks.A s.bricks.l.length s.bricks.cap], .slice A l.length cap] w (OrdPost w s l) := by
  obtain ⟨W, hW, hWs, hWb, hWh⟩ := boxed w (.cells #[.string s.name, .int .i64 s.depth, .int .i64 s.low, .int .i64 s.high, .int .i64 s.length, .slice s.lines.A s.lines.l.length s.lines.cap, .int .i64 s.pipe, .int .i64 s.arbor, .int .i64 s.purchase, .int .i64 s.most, .int .i64 s.brake, .slice s.items.A s.items.l.length s.items.cap, .slice s.bricks.A s.bricks.l.length s.bricks.cap] 26)
  have hc := fun y : After W.heap.size W => SetD.boxed hWh (by omega) y
  have hc0 := hc (After.refl _ _)
  simp only [After.refl] at hc0
  have hbd : ∀ y : After W.heap.size W, Below w.heap.size w y.val := fun y => hWb.trans (y.below.mono (by omega))
  have sat2 := sat.to (hWb.mono hB) (show B ≤ W.heap.size by omega)
  have hat2 := hat.to (hWb.mono hB) (show B ≤ W.heap.size by omega)
  have HBD := hide hbd
  have HW := hide hW
  cases hvj : setOk s && jobsOk l
  · have KO := hide (Gives.first (of_bad s sok A cap l hok W W.heap.size (Nat.le_refl _) sat2 hat2 hvj))
    have HP := hide (fun (w' : World) (h : Below w.heap.size w w') => OrdPost.nil (s := s) (l := l) (k := 1) h (Or.inr ⟨rfl, hvj⟩))
    clear hW hWh hWb hbd sat sat2 hat hat2 hok sok hWs hvj hc
    go_enter Tryz.func7, Tryz.ntmps7
    go_upto_region 1 with fail
    rw [← HW.out]
    go_wp2_with (go_at_call 27; refine KO.out.mono ?_; rintro e w' ⟨rfl, y, rfl⟩)
    go_ret2
    exact HP.out _ (HBD.out ⟨_, y.below.alloc y.size _⟩)
  · rw [Bool.and_eq_true] at hvj
    obtain ⟨hv, hj⟩ := hvj
    have KO := hide (of_good s sok A cap l hok W W.heap.size (Nat.le_refl _) sat2 hat2 hv hj hlen)
    have HVJ := hide (And.intro hv hj)
    obtain ⟨n, hn⟩ : ∃ n, n = l.length := ⟨_, rfl⟩
    obtain ⟨N, hN⟩ : ∃ N, N = 2 ^ n := ⟨_, rfl⟩
    obtain ⟨H, hH⟩ : ∃ H, H = heldSt s l := ⟨_, rfl⟩
    have hN1 : 1 ≤ N := by rw [hN]; exact Nat.two_pow_pos n
    have hN2 : N ≤ 4096 := by rw [hN]; exact Nat.pow_le_pow_right (show 0 < 2 by decide) (show n ≤ 12 by omega)
    have HN := hide hN
    have HNL := hide hn
    have HH := hide hH
    unfold OfPost at KO
    rw [← hH, ← hn, ← hN] at KO
    rw [← hn] at hlen ⊢
    clear hW hWh hWb hbd sat sat2 hat hat2 hok sok hWs hv hj hn hN hH hc
    go_enter Tryz.func7, Tryz.ntmps7
    go_upto_region 1 with fail
    rw [← HW.out]
    go_upto_region 2 with (go_at_call 27; refine KO.out.mono ?_; rintro e w1 ⟨hb1, lb, hb, rb, gb, rfl, hlat⟩)
    obtain ⟨V, hV, hVs, hVb, hVh⟩ := boxed w1 (.cells #[.pointer (some ⟨lb, 0, none⟩)] 66)
    have hWV : Below W.heap.size W V := hb1.trans (hVb.mono hb1.size)
    have hLV : ∀ y : After V.heap.size V, Lat W.heap.size lb hb rb gb n N H (rchB H n) (ldsB H n) y.val := fun y => (hlat.to hVb).to y.below
    have hpc : ∀ y : After V.heap.size V, y.val.cell? ⟨w1.heap.size, 0, none⟩ = some (.pointer (some ⟨lb, 0, none⟩)) := fun y => y.cell (Joins.cell_of_block hVh 0) (show w1.heap.size < V.heap.size by omega)
    obtain ⟨pv, hpv⟩ : ∃ pv, pv = w1.heap.size := ⟨_, rfl⟩
    have hpvV : pv < V.heap.size := by omega
    rw [← hpv] at hpc
    have hf0 := And.intro (hpc (After.refl _ _)) (And.intro (hLV (After.refl _ _)).gs ((hLV (After.refl _ _)).g.cell (show 0 < N by omega)))
    simp only [After.refl] at hf0
    have HLV := hide hLV
    have HPC := hide hpc
    have HWV := hide (fun y : After V.heap.size V => hWV.trans (y.below.mono hWV.size))
    have HV := hide hV
    have HPV := hide hpv
    clear hLV hpc hWV hV hVs hVb hVh hlat hb1 hpv
    rw [← HV.out, ← HPV.out]
    cases hg : ldsB H n 0
    · rw [hg] at hf0
      have HNO := hide (show ¬ Lds (heldSt s l) l.length 0 by
        rw [← HH.out, ← HNL.out, ← ldsB_iff, hg]; simp)
      have HP := hide (fun (w' : World) (h : Below w.heap.size w w') => OrdPost.nil (s := s) (l := l) (k := 22) h (Or.inl ⟨rfl, HVJ.out.1, HVJ.out.2, HNO.out⟩))
      clear hg
      go_wp2_with fail
      go_ret2
      exact HP.out _ (HBD.out ⟨_, HWV.out (After.refl _ _)⟩)
    · rw [hg] at hf0
      have HL0 := hide (ldsB_iff.1 hg)
      clear hg
      go_wp2_with fail
      clear hf0
      go_loopw [9] (fun v9 wr => ∃ (sv st : Nat) (o : List Nat) (v : Value), v9 = .pointer (some ⟨sv, 0, none⟩) ∧ st < N ∧ o.length ≤ st ∧ Hid (OrdSt V V.heap.size sv st o v wr) ∧ Hid (Lds H n st) ∧ Hid (∀ l', Safe H n st l' → Safe H n 0 (o ++ l'))) (fun v wr => N + 1 - cntAt v wr)
      case atStart => exact ⟨_, 0, [], _, rfl, by omega, Nat.le_refl _, hide (OrdSt.start V), HL0, hide (fun l' h => h)⟩
      case round =>
        obtain ⟨sv, st, o, v, rfl, hst, hol, hord, hlds, hsafe⟩ := hrel
        have hx := hord.out
        have hVx : Below V.heap.size V wr := hx.row.2
        have hxv := hVx.size
        have hly := fun y : After wr.heap.size wr => HLV.out ⟨y.val, hVx.trans (y.below.mono hxv)⟩
        have hpy := fun y : After wr.heap.size wr => HPC.out ⟨y.val, hVx.trans (y.below.mono hxv)⟩
        simp only at hly hpy
        have KW := hide (fun y : After wr.heap.size wr => Gives.after (x := y) (Nat.le_refl _) (whole_any n lb hlen y.val (hly y).n))
        rw [← HN.out] at KW
        obtain ⟨m, hm⟩ : ∃ m, m = N - 1 := ⟨_, rfl⟩
        rw [← hm] at KW
        have hfa := fun y : After wr.heap.size wr => And.intro (hx.to y.below).sc (hpy y)
        have hfa0 := hfa (After.refl _ _)
        simp only [After.refl] at hfa0
        have HX := hide (fun y : After wr.heap.size wr => hx.to y.below)
        have HLY := hide hly
        have HPY := hide hpy
        have HVX := hide hVx
        clear hx hVx hxv hly hpy hord
        by_cases hsm : st = m
        · have hkd : ((st : Int) == (m : Int)) = true := by rw [beq_iff_eq]; omega
          have HS := hide (show Safe H n 0 o by
            have h := hsafe.out [] (by rw [show st = 2 ^ n - 1 by rw [← HN.out]; omega]; exact Safe.nil)
            rwa [List.append_nil] at h)
          clear hm hsm hsafe hlds
          go_upto_region 8 with fail
          refine wp_region_first wr.heap.size (by kernel_rfl) (by kernel_rfl) ?_
          repeat (go_big_quiet_step ((go_at_call 28; exact KW.out _)))
          refine wpQuiet_nil ?_
          intro z
          obtain ⟨S, rfl, hS1, hS2⟩ := (HX.out z).row.sl
          have hoc := (HX.out z).oc
          have HZZ := hide (And.intro hS1 hS2)
          clear hfa hfa0 hS1 hS2
          go_wp2_with fail
          go_ret2
          exact ⟨HBD.out ⟨z.val, HWV.out ⟨z.val, HVX.out.trans (z.below.mono HVX.out.size)⟩⟩, S, 0, rfl, HZZ.out.2, Or.inl ⟨rfl, HVJ.out.1, HVJ.out.2, o, HZZ.out.1, by rw [← HH.out, ← HNL.out]; exact HS.out, by rw [← HH.out]; exact HL0.out.ok⟩⟩
        · have hkd : ((st : Int) == (m : Int)) = false := by rw [beq_eq_false_iff_ne]; omega
          obtain ⟨i, hi, hib, hil, hino⟩ := next_first (by rw [← HN.out]; exact hst) hlds.out (by rw [← HN.out]; omega)
          have hiN : st + 2 ^ i < N := by rw [HN.out]; exact add_lt (by rw [← HN.out]; exact hst) hi hib
          have hip := Nat.two_pow_pos i
          have HSF := hide (show ∀ l', Safe H n (st + 2 ^ i) l' → Safe H n 0 ((o ++ [i]) ++ l') from fun l' h => by
            rw [List.append_assoc]
            exact hsafe.out (i :: l') (Safe.cons hi hib hil.ok h))
          have HIL := hide hil
          have KA := hide (fun z : After wr.heap.size wr => any_hit n lb hlen (st : Int) 30 #[.pointer (some ⟨sv, 0, none⟩), .pointer (some ⟨pv, 0, none⟩), .pointer (some ⟨V.heap.size, 0, none⟩)] i hi (fun w' => ∃ v', OrdSt V V.heap.size sv (st + 2 ^ i) (o ++ [i]) v' w') (entersOf Tryz.func30 (by kernel_rfl) rfl) z.val (HLY.out z).n
            (fun x j hj => order1_no lb gb V.heap.size sv pv N st j (ldsB H n) hst hN2 (by omega) (fun hb => by rw [HN.out]; exact add_lt (by rw [← HN.out]; exact hst) (show j < n by omega) hb) (hino j hj) x.val ((HX.out z).to x.below).sc ((x.below.cell (show pv < z.val.heap.size by have := z.size; have := HVX.out.size; omega)).trans (HPY.out z)) ((HLY.out z).to x.below).gs (fun j hj => ((HLY.out z).to x.below).g.cell hj)
              ⟨((HX.out z).to x.below).lt.2, by have := z.size; have := x.size; have := HVX.out.size; omega, ((HLY.out z).to x.below).lt, ((HLY.out z).to x.below).g.lt⟩)
            (fun x => order1_yes V lb gb V.heap.size sv pv N st i o v (ldsB H n) hst hN2 (by omega) (by omega) hib hiN (ldsB_iff.2 hil) x.val ((HX.out z).to x.below) ((x.below.cell (show pv < z.val.heap.size by have := z.size; have := HVX.out.size; omega)).trans (HPY.out z)) ((HLY.out z).to x.below).gs (fun j hj => ((HLY.out z).to x.below).g.cell hj)
              ⟨by have := z.size; have := x.size; have := HVX.out.size; omega, ((HLY.out z).to x.below).lt, ((HLY.out z).to x.below).g.lt⟩))
          have hmf : ∀ (fn : Fn) (first cap : Array Value) (w : World), (Instr.makeFunc fn first cap).run Tryz.prog w = .ok (.func fn first cap) w := fun _ _ _ _ => rfl
          have HST := hide (show wr.cell? ⟨sv, 0, none⟩ = some (.int .i64 (st : Int)) from (HX.out (After.refl _ _)).sc)
          obtain ⟨j, hj⟩ : ∃ j, j = st + 2 ^ i := ⟨_, rfl⟩
          rw [← hj] at KA HSF HIL hiN
          have hjs : st < j := by omega
          have hol2 : (o ++ [i]).length ≤ j := by rw [List.length_append, List.length_singleton]; omega
          clear hm hsm hsafe hlds hib hil hino hip hj hi
          go_upto_region 8 with fail
          refine wp_region_first wr.heap.size (by kernel_rfl) (by kernel_rfl) ?_
          repeat (go_big_quiet_step ((go_at_call 28; exact KW.out _)))
          refine wpQuiet_nil ?_
          intro z
          have hfz := hfa z
          clear hfa hfa0
          go_upto_region 10 with (go_at_call 29; refine (KA.out z).mono ?_; rintro e w2 ⟨rfl, v2, ho2⟩)
          have hsc2 := ho2.sc
          have HO2 := hide ho2
          clear ho2 hfz
          go_wp2_with fail
          exact ⟨⟨_, j, o ++ [i], v2, rfl, hiN, hol2, hide HO2.out.turn, HIL, HSF⟩, by rw [cntAt_eq HO2.out.turn.sc, cntAt_eq HST.out]; omega⟩
end Go.Proofs.YtcdkhlndohokcaaGreatDoor
namespace Go.Proofs.YtcdkhlndohokcaaGreatDoor
open Go Go.RowKit Go.Maps Go.Deep

/-- the jobs of an order that are done, and the state that they lead to -/
structure ChkUp (n : Nat) (os : List Nat) (st : Nat) : Prop where
  nodup : os.Nodup
  lt : ∀ i ∈ os, i < n
  state : after 0 os = st
  top : st < 2 ^ n
def HUp (H : Nat → Bool) (os : List Nat) : Prop := ∀ k, k ≤ os.length → H (after 0 (os.take k)) = true
theorem after_snoc (os : List Nat) (i : Nat) : after 0 (os ++ [i]) = after 0 os + 2 ^ i := by unfold after; rw [List.foldl_append]; rfl
theorem ChkUp.next {n : Nat} {os : List Nat} {st i : Nat} (h : ChkUp n os st) (hi : i < n) (hb : st.testBit i = false) : ChkUp n (os ++ [i]) (st + 2 ^ i) := by
  have h1 := after_bits os 0 h.nodup (fun i _ => by simp) i
  rw [h.state, hb] at h1
  have hm : i ∉ os := by simpa using h1.symm
  refine ⟨List.nodup_append.2 ⟨h.nodup, by simp, fun a ha b hb e => ?_⟩, fun j hj => ?_, by rw [after_snoc, h.state], add_lt h.top hi hb⟩
  · rw [List.mem_singleton] at hb
    exact hm (hb ▸ e ▸ ha)
  · rcases List.mem_append.1 hj with hj | hj
    · exact h.lt j hj
    · rw [List.mem_singleton] at hj; exact hj ▸ hi
theorem HUp.next {H : Nat → Bool} {os : List Nat} {i : Nat} (h : HUp H os) (hh : H (after 0 (os ++ [i])) = true) : HUp H (os ++ [i]) := fun k hk => by
  by_cases e : k ≤ os.length
  · rw [List.take_append_of_le_length e]; exact h k e
  · rw [List.take_of_length_le (by rw [List.length_append, List.length_singleton] at hk ⊢; omega)]; exact hh
set_option maxHeartbeats 1000000 in
theorem check1_any (lb pv n : Nat) (x : Int) (w : World) (hpv : w.cell? ⟨pv, 0, none⟩ = some (.pointer (some ⟨lb, 0, none⟩))) (hl : w.cell? ⟨lb, 0, none⟩ = some (.int .i64 (n : Int))) :
    Calls Tryz.prog 31 #[.int .i64 x, .pointer (some ⟨pv, 0, none⟩)] w (Gives w (.bool (!(decide (0 ≤ x) && decide (x < (n : Int)))))) := by
  obtain ⟨r, hr⟩ : ∃ r, r = !(decide (0 ≤ x) && decide (x < (n : Int))) := ⟨_, rfl⟩
  rw [← hr]
  by_cases h1 : x < 0
  · have HE := hide (show true = r by
      rw [hr]
      have : ¬ 0 ≤ x := by omega
      simp [this])
    clear hr
    go_enter Tryz.func31, Tryz.ntmps31
    go_wp2_with fail
    go_ret
    exact Gives.mk (congrArg Value.bool HE.out) (Below.refl _ _)
  · have h1d : decide (x < 0) = false := decide_eq_false h1
    by_cases h2 : (n : Int) ≤ x
    · have HE := hide (show true = r by
        rw [hr]
        have : ¬ x < (n : Int) := by omega
        simp [this])
      clear hr
      go_enter Tryz.func31, Tryz.ntmps31
      go_wp2_with fail
      go_ret
      exact Gives.mk (congrArg Value.bool HE.out) (Below.refl _ _)
    · have HE := hide (show false = r by
        rw [hr]
        have h3 : x < (n : Int) := by omega
        have h4 : 0 ≤ x := by omega
        simp [h3, h4])
      clear hr
      go_enter Tryz.func31, Tryz.ntmps31
      go_wp2_with fail
      go_ret
      exact Gives.mk (congrArg Value.bool HE.out) (Below.refl _ _)
/-- what Check gives: an order that is called safe leads to the whole -/
def CheckPost (w : World) (s : SetD) (l : List JobD) (e : Ending) (w' : World) : Prop :=
  Below w.heap.size w w' ∧ ∃ (b : Bool) (k : Int), e = .returned (.tuple #[.bool b, .int .i64 k]) ∧ (k = 0 → b = true → Lds (heldSt s l) l.length 0)
theorem CheckPost.no {w w' : World} {s : SetD} {l : List JobD} {k : Int} (h : Below w.heap.size w w') (hk : k ≠ 0) : CheckPost w s l (.returned (.tuple #[.bool false, .int .i64 k])) w' := ⟨h, false, k, rfl, fun e => absurd e hk⟩
set_option maxRecDepth 100000 in
set_option maxHeartbeats 4000000 in
theorem check_any (s : SetD) (sok : s.ok) (A : Option Addr) (cap : Nat) (l : List JobD) (hok : ∀ x ∈ l, x.ok) (oA : Option Addr) (oc : Nat) (ol : List Int) (w : World) (B : Nat) (hB : B ≤ w.heap.size) (sat : SetD.at_ w B s) (hat : SlAt w B 3 JobD.cells ⟨A, cap, l⟩) (oat : SlAt w B 1 intCells ⟨oA, oc, ol⟩) (hlen : l.length ≤ 12) :
    Calls Tryz.prog 8 #[.agg #[.string s.name, .int .i64 s.depth, .int .i64 s.low, .int .i64 s.high, .int .i64 s.length, .slice s.lines.A s.lines.l.length s.lines.cap, .int .i64 s.pipe, .int .i64 s.arbor, .int .i64 s.purchase, .int .i64 s.most, .int .i64 s.brake, .slice s.items.A s.items.l.length s.items.cap, .slice s.bricks.A s.bricks.l.length s.bricks.cap], .slice A l.length cap, .slice oA ol.length oc] w (CheckPost w s l) := by
  obtain ⟨W, hW, hWs, hWb, hWh⟩ := boxed w (.cells #[.string s.name, .int .i64 s.depth, .int .i64 s.low, .int .i64 s.high, .int .i64 s.length, .slice s.lines.A s.lines.l.length s.lines.cap, .int .i64 s.pipe, .int .i64 s.arbor, .int .i64 s.purchase, .int .i64 s.most, .int .i64 s.brake, .slice s.items.A s.items.l.length s.items.cap, .slice s.bricks.A s.bricks.l.length s.bricks.cap] 26)
  have hc := fun y : After W.heap.size W => SetD.boxed hWh (by omega) y
  have hc0 := hc (After.refl _ _)
  simp only [After.refl] at hc0
  have hbd : ∀ y : After W.heap.size W, Below w.heap.size w y.val := fun y => hWb.trans (y.below.mono (by omega))
  have sat2 := sat.to (hWb.mono hB) (show B ≤ W.heap.size by omega)
  have hat2 := hat.to (hWb.mono hB) (show B ≤ W.heap.size by omega)
  have oat2 := oat.to (hWb.mono hB) (show B ≤ W.heap.size by omega)
  have hm1 : ol.length ≤ oc := oat.1
  have hm2 : oc ≤ 9223372036854775807 := oat.2.1
  have HBD := hide hbd
  have HW := hide hW
  have HP := hide (fun (w' : World) (k : Int) (h : Below w.heap.size w w') (hk : k ≠ 0) => CheckPost.no (s := s) (l := l) h hk)
  cases hvj : setOk s && jobsOk l
  · have KO := hide (Gives.first (of_bad s sok A cap l hok W W.heap.size (Nat.le_refl _) sat2 hat2 hvj))
    clear hW hWh hWb hbd sat sat2 hat hat2 oat oat2 hok sok hWs hvj hc
    go_enter Tryz.func8, Tryz.ntmps8
    go_upto_region 1 with fail
    rw [← HW.out]
    go_wp2_with (go_at_call 27; refine KO.out.mono ?_; rintro e w' ⟨rfl, y, rfl⟩)
    go_ret2
    exact HP.out _ 1 (HBD.out ⟨_, y.below.alloc y.size _⟩) (by decide)
  · rw [Bool.and_eq_true] at hvj
    obtain ⟨hv, hj⟩ := hvj
    have KO := hide (of_good s sok A cap l hok W W.heap.size (Nat.le_refl _) sat2 hat2 hv hj hlen)
    obtain ⟨n, hn⟩ : ∃ n, n = l.length := ⟨_, rfl⟩
    obtain ⟨N, hN⟩ : ∃ N, N = 2 ^ n := ⟨_, rfl⟩
    obtain ⟨H, hH⟩ : ∃ H, H = heldSt s l := ⟨_, rfl⟩
    have hN1 : 1 ≤ N := by rw [hN]; exact Nat.two_pow_pos n
    have hN2 : N ≤ 4096 := by rw [hN]; exact Nat.pow_le_pow_right (show 0 < 2 by decide) (show n ≤ 12 by omega)
    have HREACH := hide (fun (o : List Nat) (h1 : o.Nodup) (h2 : o.length = n) (h3 : ∀ i ∈ o, i < n) (h4 : HUp H o) => (show Lds (heldSt s l) l.length 0 from checked_reach h1 (h2.trans hn) (fun i hi => hn ▸ h3 i hi) (hH ▸ h4)))
    have HN := hide hN
    unfold OfPost at KO
    rw [← hH, ← hn, ← hN] at KO
    rw [← hn] at hlen ⊢
    have OAT := hide oat2
    clear hW hWh hWb hbd sat sat2 hat hat2 oat oat2 hok sok hWs hv hj hn hN hH hc
    go_enter Tryz.func8, Tryz.ntmps8
    go_upto_region 1 with fail
    rw [← HW.out]
    go_upto_region 2 with (go_at_call 27; refine KO.out.mono ?_; rintro e w1 ⟨hb1, lb, hb, rb, gb, rfl, hlat⟩)
    obtain ⟨V, hV, hVs, hVb, hVh⟩ := boxed w1 (.cells #[.pointer (some ⟨lb, 0, none⟩)] 66)
    have hWV : Below W.heap.size W V := hb1.trans (hVb.mono hb1.size)
    have hLV : ∀ y : After V.heap.size V, Lat W.heap.size lb hb rb gb n N H (rchB H n) (ldsB H n) y.val := fun y => (hlat.to hVb).to y.below
    have hpc : ∀ y : After V.heap.size V, y.val.cell? ⟨w1.heap.size, 0, none⟩ = some (.pointer (some ⟨lb, 0, none⟩)) := fun y => y.cell (Joins.cell_of_block hVh 0) (show w1.heap.size < V.heap.size by omega)
    obtain ⟨pv, hpv⟩ : ∃ pv, pv = w1.heap.size := ⟨_, rfl⟩
    have hpvV : pv < V.heap.size := by omega
    rw [← hpv] at hpc
    have hfa := fun y : After V.heap.size V => And.intro (And.intro (hpc y) (hLV y).n) (And.intro (hLV y).hs ((hLV y).h.cell (show 0 < N by omega)))
    have hf0 := hfa (After.refl _ _)
    simp only [After.refl] at hf0
    have OATV := hide (OAT.out.to hWV (show W.heap.size ≤ V.heap.size by exact hWV.size))
    have KC := hide (Gives.first (containsInt_any oA oc ol (fun x => !(decide (0 ≤ x) && decide (x < (n : Int)))) 31 #[.pointer (some ⟨pv, 0, none⟩)] (entersOf Tryz.func31 (by kernel_rfl) rfl) V V.heap.size (Nat.le_refl _) OATV.out
      (fun x e _ => check1_any lb pv n e x.val (hpc x) (hLV x).n)))
    have hmf : ∀ (fn : Fn) (first cap : Array Value) (w : World), (Instr.makeFunc fn first cap).run Tryz.prog w = .ok (.func fn first cap) w := fun _ _ _ _ => rfl
    have HFA := hide hfa
    have HLV := hide hLV
    have HPC := hide hpc
    have HWV := hide (fun y : After V.heap.size V => hWV.trans (y.below.mono hWV.size))
    have HV := hide hV
    have HPV := hide hpv
    clear hLV hpc hWV hV hVs hVb hVh hlat hb1 hpv hfa
    rw [← HV.out, ← HPV.out]
    by_cases hsz : ol.length = n
    rotate_left
    · have hszd : (ol.length == n) = false := by rw [beq_eq_false_iff_ne]; exact hsz
      have hszd2 : ((ol.length : Int) == (n : Int)) = false := by rw [beq_eq_false_iff_ne]; omega
      clear hsz
      go_wp2_with fail
      go_ret2
      exact HP.out _ 3 (HBD.out ⟨_, HWV.out (After.refl _ _)⟩) (by decide)
    have hszd : (ol.length == n) = true := by rw [beq_iff_eq]; exact hsz
    have hszd2 : ((ol.length : Int) == (n : Int)) = true := by rw [beq_iff_eq]; omega
    have HSZ := hide hsz
    clear hsz
    cases hr : ol.any (fun x => !(decide (0 ≤ x) && decide (x < (n : Int))))
    rotate_left
    · rw [hr] at KC
      clear hr
      go_wp2_with (go_at_call 22; refine KC.out.mono ?_; rintro e w' ⟨rfl, y, rfl⟩)
      go_ret2
      exact HP.out _ 2 (HBD.out ⟨_, HWV.out y⟩) (by decide)
    rw [hr] at KC
    have HR := hide (show ∀ x ∈ ol, 0 ≤ x ∧ x < (n : Int) from fun x hx => by
      have h := List.any_eq_false.1 hr x hx
      simp only [Bool.not_eq_true', Bool.not_eq_false, Bool.and_eq_true, decide_eq_true_eq] at h
      exact h)
    clear hr
    go_upto_region 8 with (go_at_call 22; refine KC.out.mono ?_; rintro e w' ⟨rfl, y, rfl⟩)
    have hf1 := fun z : After V.heap.size V => HFA.out z
    clear hf0
    refine wp_region_after y (by kernel_rfl) (by kernel_rfl) ?_
    repeat (go_big_quiet_step (fail))
    refine wpQuiet_nil ?_
    intro z
    clear hf1
    go_wp2_with fail
    go_loopw [10, 11, 44] (fun v10 v11 v wr => ∃ (k st : Nat) (sf : Bool), v = .int .i64 k ∧ v10 = .int .i64 st ∧ v11 = .bool sf ∧ k ≤ ol.length ∧ st < N ∧ Hid (ChkUp n ((ol.take k).map Int.toNat) st) ∧ Hid (sf = true → HUp H ((ol.take k).map Int.toNat)) ∧ ∃ x : After V.heap.size V, wr = x.val) (fun _ _ v _ => ol.length - (intOf v).toNat)
    case atStart => exact ⟨0, 0, H 0, rfl, rfl, rfl, Nat.zero_le _, by omega, hide ⟨by simp, by simp, rfl, Nat.two_pow_pos n⟩, hide (fun h k hk => by
      have : k = 0 := by simpa using hk
      subst this
      exact h), z, rfl⟩
    case round =>
      obtain ⟨k, st, sf, rfl, rfl, rfl, hk, hst, hup, hsafe, x1, rfl⟩ := hrel
      by_cases hlt : k < ol.length
      · obtain ⟨b, off, hA, hb', hcell⟩ := OATV.out.2.2 (show 0 < ol.length by omega)
        simp only at hA
        subst hA
        obtain ⟨x, hx⟩ : ∃ x, ol[k]? = some x := ⟨ol[k], List.getElem?_eq_getElem hlt⟩
        have hel : ∀ y : After V.heap.size V, y.val.cell? ⟨b, off + k, none⟩ = some (.int .i64 x) := fun y => by
          have h := hcell k x hx 0 _ rfl
          rw [Nat.mul_one, Nat.add_zero] at h
          exact y.cell h hb'
        obtain ⟨hx0, hx1⟩ := HR.out x (List.mem_of_getElem? hx)
        obtain ⟨i, rfl⟩ : ∃ i : Nat, x = (i : Int) := ⟨x.toNat, by omega⟩
        have hin : i < n := by omega
        have htk : (ol.take (k + 1)).map Int.toNat = (ol.take k).map Int.toNat ++ [i] := by rw [List.take_add_one, hx]; simp
        have hf1 := HFA.out x1
        have hel1 := hel x1
        have hask := bit_ask st i (by omega)
        have hi0 : (0 : Int) ≤ (i : Int) := by omega
        have hi1 : (i : Int) ≤ 64 := by omega
        have HTK := hide htk
        clear hcell hx htk hel
        cases hb : st.testBit i
        rotate_left
        · rw [hb] at hask
          simp only [if_true] at hask
          clear hb hf1
          go_wp2_with fail
          go_ret2
          exact HP.out _ 10 (HBD.out ⟨_, HWV.out x1⟩) (by decide)
        · rw [hb] at hask
          simp only [Bool.false_eq_true, if_false] at hask
          have hp2 : 2 ^ i ≤ 2 ^ 12 := Nat.pow_le_pow_right (by decide) (by omega)
          have hshl := shl_one (n := i) (by omega)
          have hand := or_i64 st (2 ^ i) (by omega) (Nat.lt_of_le_of_lt hp2 (by decide))
          rw [or_bit hb] at hand
          have hnx := hup.out.next hin hb
          have hjN : st + 2 ^ i < N := by rw [HN.out]; exact hnx.top
          obtain ⟨j, hj⟩ : ∃ j, j = st + 2 ^ i := ⟨_, rfl⟩
          obtain ⟨q, hq⟩ : ∃ q, q = 2 ^ i := ⟨_, rfl⟩
          rw [← hj] at hand hnx hjN
          rw [← hq] at hand hshl
          rw [← HTK.out] at hnx
          have hj0 : (0 : Int) ≤ (j : Int) := by omega
          have hj1 : (j : Int) < (N : Int) := by omega
          have hhj := (HLV.out x1).h.cell hjN
          have HNX := hide hnx
          have hsf2 : sf = true → H j = true → HUp H ((ol.take (k + 1)).map Int.toNat) := fun h1 h2 => by
            rw [HTK.out]
            exact (hsafe.out h1).next (by rw [← HTK.out, HNX.out.state]; exact h2)
          have HSF2 := hide hsf2
          clear hb hp2 hnx hj hq hup hsafe hsf2
          cases sf
          · go_wp2_with fail
            exact ⟨⟨k + 1, j, false, by go_num, rfl, rfl, by omega, hjN, HNX, hide (fun h => by cases h), x1, rfl⟩, by simp [intOf]; omega⟩
          · go_wp2_with fail
            exact ⟨⟨k + 1, j, H j, by go_num, rfl, rfl, by omega, hjN, HNX, hide (fun h => HSF2.out rfl h), x1, rfl⟩, by simp [intOf]; omega⟩
      · have hfin : sf = true → Lds (heldSt s l) l.length 0 := fun h => by
          have h1 := hup.out
          have h2 := hsafe.out h
          rw [List.take_of_length_le (by omega)] at h1 h2
          exact HREACH.out _ h1.nodup (by rw [List.length_map]; exact HSZ.out) h1.lt h2
        have HFIN := hide hfin
        clear hfin hup hsafe
        go_wp2_with fail
        go_ret2
        exact ⟨HBD.out ⟨_, HWV.out x1⟩, sf, 0, rfl, fun _ h => HFIN.out h⟩
end Go.Proofs.YtcdkhlndohokcaaGreatDoor
namespace Go.Proofs.YtcdkhlndohokcaaGreatDoor
open Go Go.RowKit Go.Maps Go.Deep

/-- the reached states among the first k -/
noncomputable def rchTo (H : Nat → Bool) (n k : Nat) : List Int := ((List.range k).filter (rchB H n)).map fun i : Nat => (i : Int)
theorem rchTo_yes {H : Nat → Bool} {n k : Nat} (h : rchB H n k = true) : rchTo H n (k + 1) = rchTo H n k ++ [(k : Int)] := by
  unfold rchTo
  rw [List.range_succ, List.filter_append, List.map_append]
  simp [h]
theorem rchTo_no {H : Nat → Bool} {n k : Nat} (h : rchB H n k = false) : rchTo H n (k + 1) = rchTo H n k := by
  unfold rchTo
  rw [List.range_succ, List.filter_append, List.map_append]
  simp [h]
theorem rchTo_len (H : Nat → Bool) (n : Nat) : ∀ k, (rchTo H n k).length ≤ k
  | 0 => Nat.le_refl _
  | k + 1 => by
    have := rchTo_len H n k
    cases h : rchB H n k
    · rw [rchTo_no h]; omega
    · rw [rchTo_yes h, List.length_append, List.length_singleton]; omega
/-- what Closed gives -/
def ClosedPost (w : World) (L : List Int) (e : Ending) (w' : World) : Prop :=
  Below w.heap.size w w' ∧ ∃ (S : Sl Int), e = .returned (.tuple #[.slice S.A S.l.length S.cap, .int .i64 0]) ∧ SlAt w' w'.heap.size 1 intCells S ∧ S.l = L
set_option maxRecDepth 100000 in
set_option maxHeartbeats 4000000 in
theorem closed_any (s : SetD) (sok : s.ok) (A : Option Addr) (cap : Nat) (l : List JobD) (hok : ∀ x ∈ l, x.ok) (w : World) (B : Nat) (hB : B ≤ w.heap.size) (sat : SetD.at_ w B s) (hat : SlAt w B 3 JobD.cells ⟨A, cap, l⟩) (hlen : l.length ≤ 12)
    (hv : setOk s = true) (hj : jobsOk l = true) (hno : ¬ Lds (heldSt s l) l.length 0) :
    Calls Tryz.prog 9 #[.agg #[.string s.name, .int .i64 s.depth, .int .i64 s.low, .int .i64 s.high, .int .i64 s.length, .slice s.lines.A s.lines.l.length s.lines.cap, .int .i64 s.pipe, .int .i64 s.arbor, .int .i64 s.purchase, .int .i64 s.most, .int .i64 s.brake, .slice s.items.A s.items.l.length s.items.cap, .slice s.bricks.A s.bricks.l.length s.bricks.cap], .slice A l.length cap] w (ClosedPost w (rchTo (heldSt s l) l.length (2 ^ l.length))) := by
  obtain ⟨W, hW, hWs, hWb, hWh⟩ := boxed w (.cells #[.string s.name, .int .i64 s.depth, .int .i64 s.low, .int .i64 s.high, .int .i64 s.length, .slice s.lines.A s.lines.l.length s.lines.cap, .int .i64 s.pipe, .int .i64 s.arbor, .int .i64 s.purchase, .int .i64 s.most, .int .i64 s.brake, .slice s.items.A s.items.l.length s.items.cap, .slice s.bricks.A s.bricks.l.length s.bricks.cap] 26)
  have hc := fun y : After W.heap.size W => SetD.boxed hWh (by omega) y
  have hc0 := hc (After.refl _ _)
  simp only [After.refl] at hc0
  have hbd : ∀ y : After W.heap.size W, Below w.heap.size w y.val := fun y => hWb.trans (y.below.mono (by omega))
  have sat2 := sat.to (hWb.mono hB) (show B ≤ W.heap.size by omega)
  have hat2 := hat.to (hWb.mono hB) (show B ≤ W.heap.size by omega)
  have HBD := hide hbd
  have HW := hide hW
  have KO := hide (of_good s sok A cap l hok W W.heap.size (Nat.le_refl _) sat2 hat2 hv hj hlen)
  obtain ⟨n, hn⟩ : ∃ n, n = l.length := ⟨_, rfl⟩
  obtain ⟨N, hN⟩ : ∃ N, N = 2 ^ n := ⟨_, rfl⟩
  obtain ⟨H, hH⟩ : ∃ H, H = heldSt s l := ⟨_, rfl⟩
  have hN1 : 1 ≤ N := by rw [hN]; exact Nat.two_pow_pos n
  have hN2 : N ≤ 4096 := by rw [hN]; exact Nat.pow_le_pow_right (show 0 < 2 by decide) (show n ≤ 12 by omega)
  have HN := hide hN
  unfold OfPost at KO
  rw [← hH, ← hn, ← hN] at KO
  rw [← hH, ← hn] at hno
  rw [← hn] at hlen
  rw [← hH, ← hn, ← hN]
  have hrw : rchB H n (N - 1) = false := by
    cases h : rchB H n (N - 1) with
    | false => rfl
    | true => rw [hN] at h; exact absurd (lds_rch.2 (rchB_iff.1 h)) hno
  have HRW := hide hrw
  obtain ⟨ii, hi1', hz, hs0, hbb0⟩ := infoI_parts
  have HI0 := hide (And.intro hi1' (And.intro hz (And.intro hs0 hbb0)))
  clear hW hWh hWb hbd sat sat2 hat hat2 hok sok hWs hv hj hn hN hH hc hno hrw hi1' hz hs0 hbb0
  go_enter Tryz.func9, Tryz.ntmps9
  go_upto_region 1 with fail
  rw [← HW.out]
  go_upto_region 4 with (go_at_call 27; refine KO.out.mono ?_; rintro e w1 ⟨hb1, lb, hb, rb, gb, rfl, hlat⟩)
  have hly := fun y : After w1.heap.size w1 => hlat.to y.below
  have KW := hide (fun y : After w1.heap.size w1 => Gives.after (x := y) (Nat.le_refl _) (whole_any n lb hlen y.val (hly y).n))
  rw [← HN.out] at KW
  obtain ⟨m, hm⟩ : ∃ m, m = N - 1 := ⟨_, rfl⟩
  have hmN : m < N := by omega
  rw [← hm] at KW HRW
  have hfa := fun y : After w1.heap.size w1 => And.intro (hly y).rs ((hly y).r.cell hmN)
  rw [HRW.out] at hfa
  have hfa0 := hfa (After.refl _ _)
  simp only [After.refl] at hfa0
  have hm0 : (0 : Int) ≤ (m : Int) := by omega
  have hm1 : (m : Int) < (N : Int) := by omega
  have HLY := hide hly
  have HB1 := hide hb1
  clear hly hb1 hlat hm
  refine wp_region_first w1.heap.size (by kernel_rfl) (by kernel_rfl) ?_
  repeat (go_big_quiet_step ((go_at_call 28; exact KW.out _)))
  refine wpQuiet_nil ?_
  intro z
  have hfz := hfa z
  clear hfa hfa0
  obtain ⟨Z, hZ⟩ : ∃ Z, Z = z.val := ⟨_, rfl⟩
  have hbZ : Below W.heap.size W Z := by rw [hZ]; exact HB1.out.trans (z.below.mono HB1.out.size)
  have hlZ : ∀ y : After Z.heap.size Z, Lat W.heap.size lb hb rb gb n N H (rchB H n) (ldsB H n) y.val := fun y => by
    have h := HLY.out z
    rw [← hZ] at h
    exact h.to y.below
  rw [← hZ] at hfz ⊢
  have HBZ := hide hbZ
  have HLZ := hide hlZ
  clear hbZ hlZ hZ
  go_wp2_with fail
  go_loopw [8, 35] (fun v8 v wr => ∃ k : Nat, v = .int .i64 k ∧ k ≤ N ∧ Hid (ISt Z v8 (rchTo H n k) wr)) (fun _ v _ => N - (intOf v).toNat)
  case atStart => exact ⟨0, rfl, Nat.zero_le _, hide ⟨own_nil _ _ _ _, Below.refl _ _⟩⟩
  case round =>
    obtain ⟨k, rfl, hk, hst⟩ := hrel
    by_cases hlt : k < N
    · have hcell := (HLZ.out ⟨wr, hst.out.2⟩).r.cell hlt
      simp only at hcell
      have hk0 : (0 : Int) ≤ (k : Int) := by omega
      have hk1 : (k : Int) < (N : Int) := by omega
      cases hr : rchB H n k
      · rw [hr] at hcell
        have HST := hide (show ISt Z u8 (rchTo H n (k + 1)) wr by rw [rchTo_no hr]; exact hst.out)
        clear hst hr
        go_wp2_with fail
        exact ⟨⟨k + 1, by go_num, by omega, HST⟩, by simp [intOf]; omega⟩
      · rw [hr] at hcell
        have hyes := rchTo_yes hr
        have hL := rchTo_len H n k
        obtain ⟨Lk, hLk⟩ : ∃ L, L = rchTo H n k := ⟨_, rfl⟩
        rw [← hLk] at hst hyes hL
        have hstX := hst.out.to ((Below.refl _ _).alloc (Nat.le_refl _) (.cells #[.int .i64 (k : Int)] 3 (0, 0)))
        have hzs := hst.out.2.size
        have hown := hstX.1
        obtain ⟨lk, hlk⟩ : ∃ m, m = Lk.length := ⟨_, rfl⟩
        rw [← hlk] at hown hL
        have HOWN := hide hown
        have HSTX := hide hstX
        have HYES := hide hyes
        have HLK := hide hlk
        clear hown hstX hyes hst hr hLk hlk
        go_wp2_with (at_builtin; refine Hid.out ?_)
        refine Lib.hid ?_
        refine wpList_append_lies _ rfl _ _ 22 rfl Z.heap.size 3 ii (.int .i64 0) 1 8 Tryz.underlying22 HI0.out.1 HI0.out.2.1 HI0.out.2.2.1 HI0.out.2.2.2 rfl (by decide) _ lk _ rfl HOWN.out ⟨wr.heap.size, 0, none⟩ 1 1 [.int .i64 (k : Int)] rfl rfl (World.news_of_block (heap_alloc_new wr _)) (fun u hu => by simp at hu; subst hu; rfl) (by omega) (by unfold maxLen; omega) (by omega) (by simp; omega) (wr.heap.size + 1) (by simp) ?_
        intro g4 cap4 w4 hown4 hgr4 hg4 _
        have hs4 : ISt Z (.slice (some ⟨g4, 0, none⟩) (lk + 1) cap4) (rchTo H n (k + 1)) w4 := by
          have h := HSTX.out.grow (g := g4) (cap := cap4) (n := (k : Int)) (by rw [← HLK.out]; exact hown4) hgr4
          rw [← HLK.out, ← HYES.out] at h
          exact h
        have HS4 := hide hs4
        clear hs4 hown4 hgr4 hg4
        go_wp2_with fail
        exact ⟨⟨k + 1, by go_num, by omega, HS4⟩, by simp [intOf]; omega⟩
    · have hst2 : ISt Z u8 (rchTo H n N) wr := by
        have h := hst.out
        rwa [show k = N by omega] at h
      obtain ⟨p, rfl, hpl, hpat⟩ := hst2.sl
      have HPP := hide (And.intro hpl hpat)
      have HBW := hide (HBZ.out.trans (hst2.2.mono HBZ.out.size))
      clear hst hst2 hpl hpat
      go_wp2_with fail
      go_ret2
      exact ⟨HBD.out ⟨wr, HBW.out⟩, p, rfl, HPP.out.2, HPP.out.1⟩
end Go.Proofs.YtcdkhlndohokcaaGreatDoor
namespace Go.Proofs.YtcdkhlndohokcaaGreatDoor
open Go Go.RowKit Go.Maps Go.Deep

theorem rchTo_get {H : Nat → Bool} {n N k : Nat} {x : Int} (h : (rchTo H n N)[k]? = some x) : ∃ st : Nat, x = (st : Int) ∧ st < N ∧ rchB H n st = true := by
  have hm := List.mem_of_getElem? h
  unfold rchTo at hm
  obtain ⟨st, h1, rfl⟩ := List.mem_map.1 hm
  rw [List.mem_filter, List.mem_range] at h1
  exact ⟨st, rfl, h1.1, h1.2⟩
theorem rchTo_mem {H : Nat → Bool} {n N st : Nat} (h1 : st < N) (h2 : rchB H n st = true) : (st : Int) ∈ rchTo H n N := by
  unfold rchTo
  exact List.mem_map.2 ⟨st, List.mem_filter.2 ⟨List.mem_range.2 h1, h2⟩, rfl⟩
theorem rchTo_lt {H : Nat → Bool} {n N : Nat} : (rchTo H n N).Pairwise (· < ·) := by
  unfold rchTo
  rw [List.pairwise_map]
  exact (List.pairwise_lt_range.filter _).imp (fun h => by omega)
theorem rchTo_next {H : Nat → Bool} {n N k : Nat} {a x : Int} (ha : (rchTo H n N)[k]? = some a) (hx : (rchTo H n N)[k + 1]? = some x) : a < x := by
  have h := List.pairwise_iff_getElem.1 (rchTo_lt (H := H) (n := n) (N := N)) k (k + 1) (List.getElem?_eq_some_iff.1 ha).1 (List.getElem?_eq_some_iff.1 hx).1 (by omega)
  rw [(List.getElem?_eq_some_iff.1 ha).2, (List.getElem?_eq_some_iff.1 hx).2] at h
  exact h
/-- which states stand among the first k of a list -/
def hasTo (L : List Int) (k j : Nat) : Bool := (L.take k).any fun x => x == (j : Int)
theorem hasTo_next {L : List Int} {k st : Nat} (h : L[k]? = some (st : Int)) (j : Nat) : hasTo L (k + 1) j = if j = st then true else hasTo L k j := by
  unfold hasTo
  rw [List.take_add_one, h, List.any_append]
  by_cases e : j = st
  · subst e; simp
  · have : ¬ (st : Int) = (j : Int) := by omega
    simp [e, this]
theorem hasTo_all {H : Nat → Bool} {n N k j : Nat} (hk : (rchTo H n N).length ≤ k) (hj : j < N) : hasTo (rchTo H n N) k j = rchB H n j := by
  unfold hasTo
  rw [List.take_of_length_le hk]
  refine bool_iff ⟨fun h => ?_, fun h => ?_⟩
  · obtain ⟨x, h1, h2⟩ := List.any_eq_true.1 h
    obtain ⟨q, hq⟩ := List.getElem?_of_mem h1
    obtain ⟨st, rfl, -, h3⟩ := rchTo_get hq
    have : st = j := by
      have h4 : (st : Int) = (j : Int) := by simpa using h2
      omega
    exact this ▸ h3
  · exact List.any_eq_true.2 ⟨_, rchTo_mem hj h, by simp⟩
set_option maxHeartbeats 1000000 in
theorem proves1_no (lb pv n st : Nat) (hn : n ≤ 12) (hst : st < 2 ^ n) (w : World) (hpv : w.cell? ⟨pv, 0, none⟩ = some (.pointer (some ⟨lb, 0, none⟩))) (hl : w.cell? ⟨lb, 0, none⟩ = some (.int .i64 (n : Int))) :
    Calls Tryz.prog 32 #[.int .i64 (st : Int), .pointer (some ⟨pv, 0, none⟩)] w (Gives w (.bool false)) := by
  have KW := hide (Gives.first (whole_any n lb hn w hl))
  obtain ⟨m, hm⟩ : ∃ m, m = 2 ^ n - 1 := ⟨_, rfl⟩
  rw [← hm] at KW
  have h1 : decide (m < st) = false := decide_eq_false (by omega)
  have h1d : decide ((m : Int) < (st : Int)) = false := decide_eq_false (by omega)
  have h2 : ¬ (st : Int) < 0 := by omega
  have h2d : decide ((st : Int) < 0) = false := decide_eq_false h2
  clear hm hst hl
  go_enter Tryz.func32, Tryz.ntmps32
  go_wp2_with (go_at_call 28; refine KW.out.mono ?_; rintro e w' ⟨rfl, y, rfl⟩)
  go_ret
  exact Gives.mk rfl y.below
set_option maxRecDepth 100000 in
set_option maxHeartbeats 2000000 in
theorem proves2_no (lb hb tb hx pv xv N st i : Nat) (fh ft : Nat → Bool) (hN : N ≤ 4096) (hst : st < N) (hi : i < 12) (hj : st ||| 2 ^ i < N) (hno : fh (st ||| 2 ^ i) = true → ft (st ||| 2 ^ i) = true) (w : World) (hpv : w.cell? ⟨pv, 0, none⟩ = some (.pointer (some ⟨lb, 0, none⟩))) (hxv : w.cell? ⟨xv, 0, none⟩ = some (.int .i64 (st : Int)))
    (htv : w.cell? ⟨hx, 0, none⟩ = some (.slice (some ⟨tb, 0, none⟩) N N)) (hl : w.cell? ⟨lb, 1, none⟩ = some (.slice (some ⟨hb, 0, none⟩) N N)) (hh : ∀ j, j < N → w.cell? ⟨hb, j, none⟩ = some (.bool (fh j))) (ht : ∀ j, j < N → w.cell? ⟨tb, j, none⟩ = some (.bool (ft j)))
    (hlt : pv < w.heap.size ∧ xv < w.heap.size ∧ hx < w.heap.size ∧ lb < w.heap.size ∧ hb < w.heap.size ∧ tb < w.heap.size) :
    Calls Tryz.prog 33 #[.int .i64 (i : Int), .pointer (some ⟨pv, 0, none⟩), .pointer (some ⟨xv, 0, none⟩), .pointer (some ⟨hx, 0, none⟩)] w (Gives w (.bool false)) := by
  obtain ⟨l1, l2, l3, l4, l5, l6⟩ := hlt
  have f1 := fun y : After w.heap.size w => And.intro (And.intro (y.cell hpv l1) (y.cell hxv l2)) (And.intro (y.cell htv l3) (y.cell hl l4))
  have f0 := f1 (After.refl _ _)
  simp only [After.refl] at f0
  have hi0 : (0 : Int) ≤ (i : Int) := by omega
  have hi1 : (i : Int) ≤ 64 := by omega
  have hp2 : 2 ^ i ≤ 2 ^ 12 := Nat.pow_le_pow_right (by decide) (by omega)
  have hshl := shl_one (n := i) (by omega)
  have hand := or_i64 st (2 ^ i) (by omega) (Nat.lt_of_le_of_lt hp2 (by decide))
  obtain ⟨j, hje⟩ : ∃ j, j = st ||| 2 ^ i := ⟨_, rfl⟩
  rw [← hje] at hand hj hno
  obtain ⟨q, hq⟩ : ∃ q, q = 2 ^ i := ⟨_, rfl⟩
  rw [← hq] at hand hshl
  have hj0 : (0 : Int) ≤ (j : Int) := by omega
  have hj1 : (j : Int) < (N : Int) := by omega
  have hN0 : (N : Int) ≤ 4096 := by omega
  have hrj := fun y : After w.heap.size w => y.cell (hh j hj) l5
  have hrt := fun y : After w.heap.size w => y.cell (ht j hj) l6
  clear hje hq hp2 hpv hxv htv hl hh ht l1 l2 l3 l4 l5 l6 hst
  cases hfh : fh j
  · rw [hfh] at hrj
    have hrj0 := hrj (After.refl _ _)
    simp only [After.refl] at hrj0
    clear hfh hno hrt
    go_enter Tryz.func33, Tryz.ntmps33
    go_upto_region 1 with fail
    refine wp_region_after (After.refl w.heap.size w) (by kernel_rfl) (by kernel_rfl) ?_
    repeat (go_big_quiet_step (fail))
    refine wpQuiet_nil ?_
    intro z
    go_wp2_with fail
    go_ret
    exact Gives.mk rfl z.below
  · rw [hfh] at hrj
    rw [hno hfh] at hrt
    have hrj0 := And.intro (hrj (After.refl _ _)) (hrt (After.refl _ _))
    simp only [After.refl] at hrj0
    clear hfh hno
    go_enter Tryz.func33, Tryz.ntmps33
    go_upto_region 1 with fail
    refine wp_region_after (After.refl w.heap.size w) (by kernel_rfl) (by kernel_rfl) ?_
    repeat (go_big_quiet_step (fail))
    refine wpQuiet_nil ?_
    intro z
    go_wp2_with fail
    go_ret
    exact Gives.mk rfl z.below
/-- the row `has` in memory, and the variable that holds it -/
structure HasSt (V : World) (tb hx N : Nat) (f : Nat → Bool) (x : World) : Prop where
  bel : Below V.heap.size V x
  row : x.rowIs tb 4 N (fun j => .bool (f j))
  c : x.cell? ⟨hx, 0, none⟩ = some (.slice (some ⟨tb, 0, none⟩) N N)
  base : V.heap.size ≤ tb ∧ V.heap.size ≤ hx
  lt : hx < x.heap.size
  ne : tb ≠ hx
theorem HasSt.to {V : World} {tb hx N : Nat} {f : Nat → Bool} {x y : World} (h : HasSt V tb hx N f x) (b : Below x.heap.size x y) : HasSt V tb hx N f y :=
  ⟨h.bel.trans (b.mono h.bel.size), h.row.of_block (b.block _ h.row.lt), (b.cell h.lt).trans h.c, h.base, Nat.lt_of_lt_of_le h.lt b.size, h.ne⟩
theorem HasSt.set {V : World} {tb hx N : Nat} {f : Nat → Bool} {x : World} (h : HasSt V tb hx N f x) (k : Nat) (b : Bool) : HasSt V tb hx N (fun j => if j = k then b else f j) (x.setCell ⟨tb, k, none⟩ (.bool b)) :=
  ⟨h.bel.setCell h.base.1 _, (h.row.set k (.bool b)).congr fun j _ => by by_cases e : j = k <;> simp [e], (cell_of_block (blk_setCell_other _ ⟨tb, k, none⟩ _ _ (Ne.symm h.ne)) 0).trans h.c, h.base, by have := h.lt; simpa [World.setCell] using this, h.ne⟩
theorem HasSt.congr {V : World} {tb hx N : Nat} {f g : Nat → Bool} {x : World} (h : HasSt V tb hx N f x) (e : ∀ j, j < N → f j = g j) : HasSt V tb hx N g x := ⟨h.bel, h.row.congr fun j hj => by rw [e j hj], h.c, h.base, h.lt, h.ne⟩
theorem HasSt.made {V y : World} (N : Nat) (hb : Below V.heap.size V y) : HasSt V y.heap.size (y.heap.size + 1) N (fun _ => false) ((y.alloc (.cells (madeCells #[.bool false] N) 4)).alloc (.cells #[.slice (some ⟨y.heap.size, 0, none⟩) N N] 69)) := by
  have hz : (y.alloc (.cells (madeCells #[.bool false] N) 4)).heap.size = y.heap.size + 1 := by simp
  have hn := heap_alloc_new (y.alloc (.cells (madeCells #[.bool false] N) 4)) (.cells #[.slice (some ⟨y.heap.size, 0, none⟩) N N] 69)
  rw [hz] at hn
  have h1 := hb.alloc hb.size (.cells (madeCells #[.bool false] N) 4)
  have hs := hb.size
  exact ⟨h1.alloc (by omega) _, (World.rowIs_made y (.bool false) N 4).alloc _, Joins.cell_of_block hn 0, by omega, by simp, by omega⟩
set_option maxRecDepth 100000 in
set_option maxHeartbeats 4000000 in
theorem proves_any (s : SetD) (sok : s.ok) (A : Option Addr) (cap : Nat) (l : List JobD) (hok : ∀ x ∈ l, x.ok) (oA : Option Addr) (oc : Nat) (ol : List Int) (w : World) (B : Nat) (hB : B ≤ w.heap.size) (sat : SetD.at_ w B s) (hat : SlAt w B 3 JobD.cells ⟨A, cap, l⟩) (oat : SlAt w B 1 intCells ⟨oA, oc, ol⟩) (hlen : l.length ≤ 12)
    (hv : setOk s = true) (hj : jobsOk l = true) (hno : ¬ Lds (heldSt s l) l.length 0) (hol : ol = rchTo (heldSt s l) l.length (2 ^ l.length)) :
    Calls Tryz.prog 10 #[.agg #[.string s.name, .int .i64 s.depth, .int .i64 s.low, .int .i64 s.high, .int .i64 s.length, .slice s.lines.A s.lines.l.length s.lines.cap, .int .i64 s.pipe, .int .i64 s.arbor, .int .i64 s.purchase, .int .i64 s.most, .int .i64 s.brake, .slice s.items.A s.items.l.length s.items.cap, .slice s.bricks.A s.bricks.l.length s.bricks.cap], .slice A l.length cap, .slice oA ol.length oc] w (Gives w (.tuple #[.bool true, .int .i64 0])) := by
  obtain ⟨W, hW, hWs, hWb, hWh⟩ := boxed w (.cells #[.string s.name, .int .i64 s.depth, .int .i64 s.low, .int .i64 s.high, .int .i64 s.length, .slice s.lines.A s.lines.l.length s.lines.cap, .int .i64 s.pipe, .int .i64 s.arbor, .int .i64 s.purchase, .int .i64 s.most, .int .i64 s.brake, .slice s.items.A s.items.l.length s.items.cap, .slice s.bricks.A s.bricks.l.length s.bricks.cap] 26)
  have hc := fun y : After W.heap.size W => SetD.boxed hWh (by omega) y
  have hc0 := hc (After.refl _ _)
  simp only [After.refl] at hc0
  have hbd : ∀ y : After W.heap.size W, Below w.heap.size w y.val := fun y => hWb.trans (y.below.mono (by omega))
  have sat2 := sat.to (hWb.mono hB) (show B ≤ W.heap.size by omega)
  have hat2 := hat.to (hWb.mono hB) (show B ≤ W.heap.size by omega)
  have oat2 := oat.to (hWb.mono hB) (show B ≤ W.heap.size by omega)
  have hm1 : ol.length ≤ oc := oat.1
  have hm2 : oc ≤ 9223372036854775807 := oat.2.1
  have HBD := hide hbd
  have HW := hide hW
  have KO := hide (of_good s sok A cap l hok W W.heap.size (Nat.le_refl _) sat2 hat2 hv hj hlen)
  obtain ⟨n, hn⟩ : ∃ n, n = l.length := ⟨_, rfl⟩
  obtain ⟨N, hN⟩ : ∃ N, N = 2 ^ n := ⟨_, rfl⟩
  obtain ⟨H, hH⟩ : ∃ H, H = heldSt s l := ⟨_, rfl⟩
  have hN1 : 1 ≤ N := by rw [hN]; exact Nat.two_pow_pos n
  have hN2 : N ≤ 4096 := by rw [hN]; exact Nat.pow_le_pow_right (show 0 < 2 by decide) (show n ≤ 12 by omega)
  have HN := hide hN
  unfold OfPost at KO
  rw [← hH, ← hn, ← hN] at KO
  rw [← hH, ← hn] at hno hol
  rw [← hN] at hol
  rw [← hn] at hlen
  rw [← hn]
  obtain ⟨m, hm⟩ : ∃ m, m = N - 1 := ⟨_, rfl⟩
  have hrw : rchB H n m = false := by
    cases h : rchB H n m with
    | false => rfl
    | true => rw [hm, hN] at h; exact absurd (lds_rch.2 (rchB_iff.1 h)) hno
  have HRW := hide hrw
  have HOL := hide hol
  have OAT := hide oat2
  have HM := hide hm
  have hmN : m < N := by omega
  have HMKB := hide (fun v : World => run_make_row' (P := Tryz.prog) 69 4 (.bool false) 1 Tryz.underlying69 infoBool rfl .i64 .i64 N (by omega) (by omega) v)
  clear hW hWh hWb hbd sat sat2 hat hat2 oat oat2 hok sok hWs hv hj hn hN hH hc hno hrw hol hm
  go_enter Tryz.func10, Tryz.ntmps10
  go_upto_region 1 with fail
  rw [← HW.out]
  go_upto_region 2 with (go_at_call 27; refine KO.out.mono ?_; rintro e w1 ⟨hb1, lb, hb, rb, gb, rfl, hlat⟩)
  obtain ⟨V, hV, hVs, hVb, hVh⟩ := boxed w1 (.cells #[.pointer (some ⟨lb, 0, none⟩)] 66)
  have hWV : Below W.heap.size W V := hb1.trans (hVb.mono hb1.size)
  have hLV : ∀ y : After V.heap.size V, Lat W.heap.size lb hb rb gb n N H (rchB H n) (ldsB H n) y.val := fun y => (hlat.to hVb).to y.below
  have hLV0 := (hlat.to hVb)
  have hblt : lb < V.heap.size ∧ hb < V.heap.size := ⟨hLV0.lt, hLV0.h.lt⟩
  have hpc : ∀ y : After V.heap.size V, y.val.cell? ⟨w1.heap.size, 0, none⟩ = some (.pointer (some ⟨lb, 0, none⟩)) := fun y => y.cell (Joins.cell_of_block hVh 0) (show w1.heap.size < V.heap.size by omega)
  obtain ⟨pv, hpv⟩ : ∃ pv, pv = w1.heap.size := ⟨_, rfl⟩
  have hpvV : pv < V.heap.size := by omega
  rw [← hpv] at hpc
  have hfa := fun y : After V.heap.size V => And.intro (And.intro (hpc y) (hLV y).n) (And.intro (hLV y).hs ((hLV y).h.cell (show 0 < N by omega)))
  have hf0 := hfa (After.refl _ _)
  simp only [After.refl] at hf0
  have OATV := hide (OAT.out.to hWV (show W.heap.size ≤ V.heap.size by exact hWV.size))
  have KC := hide (Gives.first (containsInt_any oA oc ol (fun _ => false) 32 #[.pointer (some ⟨pv, 0, none⟩)] (entersOf Tryz.func32 (by kernel_rfl) rfl) V V.heap.size (Nat.le_refl _) OATV.out
    (fun x e he => by
      rw [HOL.out] at he
      obtain ⟨q, hq⟩ := List.getElem?_of_mem he
      obtain ⟨st, rfl, h2, -⟩ := rchTo_get hq
      exact proves1_no lb pv n st hlen (by rw [← HN.out]; exact h2) x.val (hpc x) (hLV x).n)))
  have hany : (ol.any fun _ => false) = false := by simp
  rw [hany] at KC
  have hmf : ∀ (fn : Fn) (first cap : Array Value) (w : World), (Instr.makeFunc fn first cap).run Tryz.prog w = .ok (.func fn first cap) w := fun _ _ _ _ => rfl
  have HFA := hide hfa
  have HLV := hide hLV
  have HPC := hide hpc
  have HWV := hide (fun y : After V.heap.size V => hWV.trans (y.below.mono hWV.size))
  have HV := hide hV
  have HPV := hide hpv
  clear hLV hLV0 hpc hWV hV hVs hVb hVh hlat hb1 hpv hfa hany
  rw [← HV.out, ← HPV.out]
  go_upto_region 6 with (go_at_call 22; refine KC.out.mono ?_; rintro e w' ⟨rfl, y, rfl⟩)
  have hf1 := HFA.out y
  have hmk := HMKB.out y.val
  clear hf0
  go_upto_region 7 with fail
  have HS0 := hide (HasSt.made N y.below)
  obtain ⟨tb, htb⟩ : ∃ t, t = y.val.heap.size := ⟨_, rfl⟩
  have hyV := y.size
  rw [← htb] at HS0 hyV ⊢
  clear hf1 hmk htb
  go_wp2_with fail
  go_loopw [37] (fun v wr => ∃ k : Nat, v = .int .i64 k ∧ k ≤ ol.length ∧ Hid (HasSt V tb (tb + 1) N (hasTo ol k) wr)) (fun v _ => ol.length - (intOf v).toNat)
  case atStart => exact ⟨0, rfl, Nat.zero_le _, hide (HS0.out.congr fun j _ => by simp [hasTo])⟩
  case round =>
    obtain ⟨k, rfl, hk, hst⟩ := hrel
    by_cases hlt : k < ol.length
    · obtain ⟨b, off, hA, hb', hcell⟩ := OATV.out.2.2 (show 0 < ol.length by omega)
      simp only at hA
      subst hA
      obtain ⟨x, hx⟩ : ∃ x, ol[k]? = some x := ⟨ol[k], List.getElem?_eq_getElem hlt⟩
      have helAt : ∀ (q : Nat) (u : Int), ol[q]? = some u → ∀ y : After V.heap.size V, y.val.cell? ⟨b, off + q, none⟩ = some (.int .i64 u) := fun q u hu y => by
        have h := hcell q u hu 0 _ rfl
        rw [Nat.mul_one, Nat.add_zero] at h
        exact y.cell h hb'
      obtain ⟨st, rfl, hstN, hstr⟩ := rchTo_get (HOL.out ▸ hx)
      have hel := helAt k st hx ⟨wr, hst.out.bel⟩
      simp only at hel
      have hfz := And.intro hst.out.c (And.intro (hst.out.row.frozen st) (hst.out.row.cell hstN))
      have HNX := hide (show HasSt V tb (tb + 1) N (hasTo ol (k + 1)) (wr.setCell ⟨tb, st, none⟩ (.bool true)) from (hst.out.set st true).congr fun j _ => (hasTo_next hx j).symm)
      have hs0 : (0 : Int) ≤ (st : Int) := by omega
      have hs1 : (st : Int) < (N : Int) := by omega
      by_cases hk0 : k = 0
      · have hkd : ¬ 0 < k := by omega
        have hkd2 : ¬ (0 : Int) < (k : Int) := by omega
        have hkd3 : decide ((0 : Int) < (k : Int)) = false := decide_eq_false hkd2
        have hkd4 : decide (0 < k) = false := decide_eq_false hkd
        clear hcell helAt hx hst hstr hk0
        go_wp2_with fail
        exact ⟨⟨k + 1, by go_num, by omega, HNX⟩, by simp [intOf]; omega⟩
      · obtain ⟨q, rfl⟩ : ∃ q, k = q + 1 := ⟨k - 1, by omega⟩
        obtain ⟨a, ha⟩ : ∃ a, ol[q]? = some a := ⟨ol[q], List.getElem?_eq_getElem (by omega)⟩
        have hax := rchTo_next (HOL.out ▸ ha) (HOL.out ▸ hx)
        have hel2 := helAt q a ha ⟨wr, hst.out.bel⟩
        simp only at hel2
        have hle : ¬ (st : Int) ≤ a := by omega
        have hled : decide ((st : Int) ≤ a) = false := decide_eq_false hle
        have hq0 : (0 : Int) ≤ (q : Int) := by omega
        clear hcell helAt hx hst hstr hk0 ha
        go_wp2_with fail
        exact ⟨⟨q + 1 + 1, by go_num, by omega, HNX⟩, by simp [intOf]; omega⟩
    · have hst2 : HasSt V tb (tb + 1) N (rchB H n) wr := hst.out.congr fun j hj => by
        rw [HOL.out]
        exact hasTo_all (by rw [← HOL.out]; omega) hj
      have HST := hide (fun y : After wr.heap.size wr => hst2.to y.below)
      have hxv := hst2.bel.size
      have HLW := hide (show ∀ y : After wr.heap.size wr, Lat W.heap.size lb hb rb gb n N H (rchB H n) (ldsB H n) y.val from fun y => HLV.out ⟨y.val, hst2.bel.trans (y.below.mono hxv)⟩)
      have HPW := hide (show ∀ y : After wr.heap.size wr, y.val.cell? ⟨pv, 0, none⟩ = some (.pointer (some ⟨lb, 0, none⟩)) from fun y => HPC.out ⟨y.val, hst2.bel.trans (y.below.mono hxv)⟩)
      have KW := hide (fun y : After wr.heap.size wr => Gives.after (x := y) (Nat.le_refl _) (whole_any n lb hlen y.val (HLW.out y).n))
      rw [← HN.out, ← HM.out] at KW
      have hm0 : (0 : Int) ≤ (m : Int) := by omega
      have hm1 : (m : Int) < (N : Int) := by omega
      have hfa := fun y : After wr.heap.size wr => And.intro (And.intro (HPW.out y) (HST.out y).c) (And.intro ((HST.out y).row.cell hmN) (And.intro ((HST.out y).row.cell (show 0 < N by omega)) (And.intro (HLW.out y).hs ((HLW.out y).h.cell (show 0 < N by omega)))))
      have hr0 : H 0 = true → rchB H n 0 = true := fun h => rchB_iff.2 (Rch.zero h)
      rw [HRW.out] at hfa
      clear hst hst2
      cases hh : H 0
      · rw [hh] at hfa
        have hfa0 := hfa (After.refl _ _)
        simp only [After.refl] at hfa0
        clear hh hr0
        go_upto_region 14 with fail
        refine wp_region_first wr.heap.size (by kernel_rfl) (by kernel_rfl) ?_
        repeat (go_big_quiet_step ((go_at_call 28; exact KW.out _)))
        refine wpQuiet_nil ?_
        intro z
        clear hfa hfa0
        have hz0 := HST.out z
        have HZ0 := hide hz0
        clear hz0
        go_wp2_with fail
        go_loopw [78] (fun v wr => ∃ k : Nat, v = .int .i64 k ∧ k ≤ ol.length ∧ Hid (HasSt V tb (tb + 1) N (rchB H n) wr)) (fun v _ => ol.length - (intOf v).toNat)
        case atStart => exact ⟨0, rfl, Nat.zero_le _, HZ0⟩
        case round =>
          clear HZ0 HST HLW HPW KW
          clear hk hlt
          obtain ⟨k, rfl, hk, hst⟩ := hrel
          by_cases hlt : k < ol.length
          · obtain ⟨b, off, hA, hb', hcell⟩ := OATV.out.2.2 (show 0 < ol.length by omega)
            simp only at hA
            subst hA
            obtain ⟨x, hx⟩ : ∃ x, ol[k]? = some x := ⟨ol[k], List.getElem?_eq_getElem hlt⟩
            have hel : wr.cell? ⟨b, off + k, none⟩ = some (.int .i64 x) := by
              have h := hcell k x hx 0 _ rfl
              rw [Nat.mul_one, Nat.add_zero] at h
              exact (hst.out.bel.cell hb').trans h
            obtain ⟨st, rfl, hstN, hstr⟩ := rchTo_get (HOL.out ▸ hx)
            obtain ⟨U, hU, hUs, hUb, hUh⟩ := boxed wr (.cells #[.int .i64 (st : Int)] 3)
            have hstU := hst.out.to hUb
            have hUV := hstU.bel.size
            have hLU : ∀ y : After U.heap.size U, Lat W.heap.size lb hb rb gb n N H (rchB H n) (ldsB H n) y.val := fun y => HLV.out ⟨y.val, hstU.bel.trans (y.below.mono hUV)⟩
            have hPU : ∀ y : After U.heap.size U, y.val.cell? ⟨pv, 0, none⟩ = some (.pointer (some ⟨lb, 0, none⟩)) := fun y => HPC.out ⟨y.val, hstU.bel.trans (y.below.mono hUV)⟩
            have hxU : ∀ y : After U.heap.size U, y.val.cell? ⟨wr.heap.size, 0, none⟩ = some (.int .i64 (st : Int)) := fun y => y.cell (Joins.cell_of_block hUh 0) (show wr.heap.size < U.heap.size by omega)
            have KA := hide (Gives.first (any_any n lb hlen (st : Int) 33 #[.pointer (some ⟨pv, 0, none⟩), .pointer (some ⟨wr.heap.size, 0, none⟩), .pointer (some ⟨tb + 1, 0, none⟩)] (fun _ => false) (entersOf Tryz.func33 (by kernel_rfl) rfl) U (hLU (After.refl _ _)).n
              (fun y i hi => proves2_no lb hb tb (tb + 1) pv wr.heap.size N st i H (rchB H n) hN2 hstN (by omega) (by rw [HN.out] at hstN ⊢; exact Nat.or_lt_two_pow hstN (Nat.pow_lt_pow_right (by decide) hi)) (fun h => rchB_iff.2 (reach_more (rchB_iff.1 hstr) hi h)) y.val (hPU y) (hxU y) (hstU.to y.below).c (hLU y).hs (fun j hj => (hLU y).h.cell hj) (fun j hj => (hstU.to y.below).row.cell hj)
                ⟨by have := y.size; omega, by have := y.size; omega, (hstU.to y.below).lt, (hLU y).lt, (hLU y).h.lt, (hstU.to y.below).row.lt⟩)))
            have hany2 : ((List.range n).any fun _ => false) = false := by simp
            rw [hany2] at KA
            have hf1 := And.intro (hPU (After.refl _ _)) (hxU (After.refl _ _))
            simp only [After.refl] at hf1
            have HU := hide hU
            have HSTU := hide (fun y : After U.heap.size U => hstU.to y.below)
            clear hcell hx hstr hU hUs hUb hUh hstU hLU hPU hxU hany2 hst hUV
            go_upto_region 19 with fail
            rw [← HU.out]
            go_wp2_with (go_at_call 29; refine KA.out.mono ?_; rintro e w' ⟨rfl, y2, rfl⟩)
            exact ⟨⟨k + 1, by go_num, by omega, hide (HSTU.out y2)⟩, by simp [intOf]; omega⟩
          · have HE := hide (show Below W.heap.size W wr from HWV.out ⟨wr, hst.out.bel⟩)
            clear hst
            go_wp2_with fail
            go_ret2
            exact Gives.mk rfl (HBD.out ⟨wr, HE.out⟩)
      · rw [hh, hr0 hh] at hfa
        have hfa0 := hfa (After.refl _ _)
        simp only [After.refl] at hfa0
        clear hh hr0
        go_upto_region 14 with fail
        refine wp_region_first wr.heap.size (by kernel_rfl) (by kernel_rfl) ?_
        repeat (go_big_quiet_step ((go_at_call 28; exact KW.out _)))
        refine wpQuiet_nil ?_
        intro z
        clear hfa hfa0
        have hz0 := HST.out z
        have HZ0 := hide hz0
        clear hz0
        go_wp2_with fail
        go_loopw [78] (fun v wr => ∃ k : Nat, v = .int .i64 k ∧ k ≤ ol.length ∧ Hid (HasSt V tb (tb + 1) N (rchB H n) wr)) (fun v _ => ol.length - (intOf v).toNat)
        case atStart => exact ⟨0, rfl, Nat.zero_le _, HZ0⟩
        case round =>
          clear HZ0 HST HLW HPW KW
          clear hk hlt
          obtain ⟨k, rfl, hk, hst⟩ := hrel
          by_cases hlt : k < ol.length
          · obtain ⟨b, off, hA, hb', hcell⟩ := OATV.out.2.2 (show 0 < ol.length by omega)
            simp only at hA
            subst hA
            obtain ⟨x, hx⟩ : ∃ x, ol[k]? = some x := ⟨ol[k], List.getElem?_eq_getElem hlt⟩
            have hel : wr.cell? ⟨b, off + k, none⟩ = some (.int .i64 x) := by
              have h := hcell k x hx 0 _ rfl
              rw [Nat.mul_one, Nat.add_zero] at h
              exact (hst.out.bel.cell hb').trans h
            obtain ⟨st, rfl, hstN, hstr⟩ := rchTo_get (HOL.out ▸ hx)
            obtain ⟨U, hU, hUs, hUb, hUh⟩ := boxed wr (.cells #[.int .i64 (st : Int)] 3)
            have hstU := hst.out.to hUb
            have hUV := hstU.bel.size
            have hLU : ∀ y : After U.heap.size U, Lat W.heap.size lb hb rb gb n N H (rchB H n) (ldsB H n) y.val := fun y => HLV.out ⟨y.val, hstU.bel.trans (y.below.mono hUV)⟩
            have hPU : ∀ y : After U.heap.size U, y.val.cell? ⟨pv, 0, none⟩ = some (.pointer (some ⟨lb, 0, none⟩)) := fun y => HPC.out ⟨y.val, hstU.bel.trans (y.below.mono hUV)⟩
            have hxU : ∀ y : After U.heap.size U, y.val.cell? ⟨wr.heap.size, 0, none⟩ = some (.int .i64 (st : Int)) := fun y => y.cell (Joins.cell_of_block hUh 0) (show wr.heap.size < U.heap.size by omega)
            have KA := hide (Gives.first (any_any n lb hlen (st : Int) 33 #[.pointer (some ⟨pv, 0, none⟩), .pointer (some ⟨wr.heap.size, 0, none⟩), .pointer (some ⟨tb + 1, 0, none⟩)] (fun _ => false) (entersOf Tryz.func33 (by kernel_rfl) rfl) U (hLU (After.refl _ _)).n
              (fun y i hi => proves2_no lb hb tb (tb + 1) pv wr.heap.size N st i H (rchB H n) hN2 hstN (by omega) (by rw [HN.out] at hstN ⊢; exact Nat.or_lt_two_pow hstN (Nat.pow_lt_pow_right (by decide) hi)) (fun h => rchB_iff.2 (reach_more (rchB_iff.1 hstr) hi h)) y.val (hPU y) (hxU y) (hstU.to y.below).c (hLU y).hs (fun j hj => (hLU y).h.cell hj) (fun j hj => (hstU.to y.below).row.cell hj)
                ⟨by have := y.size; omega, by have := y.size; omega, (hstU.to y.below).lt, (hLU y).lt, (hLU y).h.lt, (hstU.to y.below).row.lt⟩)))
            have hany2 : ((List.range n).any fun _ => false) = false := by simp
            rw [hany2] at KA
            have hf1 := And.intro (hPU (After.refl _ _)) (hxU (After.refl _ _))
            simp only [After.refl] at hf1
            have HU := hide hU
            have HSTU := hide (fun y : After U.heap.size U => hstU.to y.below)
            clear hcell hx hstr hU hUs hUb hUh hstU hLU hPU hxU hany2 hst hUV
            go_upto_region 19 with fail
            rw [← HU.out]
            go_wp2_with (go_at_call 29; refine KA.out.mono ?_; rintro e w' ⟨rfl, y2, rfl⟩)
            exact ⟨⟨k + 1, by go_num, by omega, hide (HSTU.out y2)⟩, by simp [intOf]; omega⟩
          · have HE := hide (show Below W.heap.size W wr from HWV.out ⟨wr, hst.out.bel⟩)
            clear hst
            go_wp2_with fail
            go_ret2
            exact Gives.mk rfl (HBD.out ⟨wr, HE.out⟩)
end Go.Proofs.YtcdkhlndohokcaaGreatDoor
