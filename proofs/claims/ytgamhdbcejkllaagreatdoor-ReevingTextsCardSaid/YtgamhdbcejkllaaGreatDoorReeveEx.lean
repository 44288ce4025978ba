/- The chapter's example, reeving.Hauled, slices.Equal at ints. -/
import Derived.Test.YtgamhdbcejkllaaGreatDoorReeveTextW
namespace Go.Proofs.YtgamhdbcejkllaaGreatDoor
open Go.RowKit

theorem flat_get {α : Type} {cells : α → List Value} {size : Nat} (hs : ∀ x, (cells x).length = size) : ∀ (l : List α) (i : Nat) (x : α) (j : Nat) (u : Value), l[i]? = some x → (cells x)[j]? = some u → (l.flatMap cells)[i * size + j]? = some u
  | [], i, x, j, u, h, _ => by simp at h
  | y :: l, 0, x, j, u, h, hu => by
    simp at h
    subst h
    have hj : j < (cells y).length := (List.getElem?_eq_some_iff.1 hu).1
    rw [List.flatMap_cons, Nat.zero_mul, Nat.zero_add, List.getElem?_append_left hj]
    exact hu
  | y :: l, i + 1, x, j, u, h, hu => by
    have h' : l[i]? = some x := by simpa using h
    rw [List.flatMap_cons, List.getElem?_append_right (by rw [hs y, Nat.succ_mul]; omega), hs y, show (i + 1) * size + j - size = i * size + j by rw [Nat.succ_mul]; omega]
    exact flat_get hs l i x j u h' hu
/-- a block that holds just the elements of a list -/
theorem SlAt.whole {α : Type} {w : World} {B size b : Nat} {cells : α → List Value} {cs : Array Value} {t : TypeId} {l : List α} (hs : ∀ x, (cells x).length = size) (h : w.heap[b]? = some (.cells cs t (0, 0))) (hcs : cs.toList = l.flatMap cells) (hb : b < B) (hl : l.length ≤ maxLen) :
    SlAt w B size cells ⟨some ⟨b, 0, none⟩, l.length, l⟩ :=
  ⟨Nat.le_refl _, hl, fun _ => ⟨b, 0, rfl, hb, fun i x hx j u hu => by
    rw [Nat.zero_add, Lib.cell_of_heap h, ← Array.getElem?_toList, hcs]
    exact flat_get hs l i x j u hx hu⟩⟩

def exH0 : HoldD := ⟨⟨#[]⟩, 0, 1, 1⟩
def exH1 : HoldD := ⟨⟨#[98]⟩, 2, 1, 1⟩
def exSys (b1 b2 b3 : Nat) : SysD := ⟨⟨some ⟨b1, 0, none⟩, 1, [⟨⟨#[98]⟩, 300⟩]⟩, ⟨some ⟨b3, 0, none⟩, 1, [⟨⟨#[114]⟩, ⟨some ⟨b2, 0, none⟩, 5, [exH0, exH1, exH0, exH1, exH0]⟩, true⟩]⟩⟩
theorem exSys_ok (b1 b2 b3 : Nat) : (exSys b1 b2 b3).ok := by
  refine ⟨fun x hx => ?_, fun r hr => ?_⟩
  · simp only [exSys, List.mem_singleton] at hx
    subst hx
    exact ⟨by decide, by simp [I64]⟩
  · simp only [exSys, List.mem_singleton] at hr
    subst hr
    refine ⟨show (⟨#[114]⟩ : ByteArray).size ≤ maxLen by decide, fun h hh => ?_⟩
    simp only [List.mem_cons, List.not_mem_nil, or_false] at hh
    rcases hh with rfl | rfl | rfl | rfl | rfl <;> exact ⟨by decide, by simp [I64, exH0, exH1], by simp [I64, exH0, exH1], by simp [I64, exH0, exH1]⟩
theorem exSys_valid (b1 b2 b3 : Nat) : sysOk (exSys b1 b2 b3) = true := by kernel_rfl
theorem exSys_fit (b1 b2 b3 : Nat) : TextFit (exSys b1 b2 b3) := by
  refine ⟨fun x hx => ?_, fun r hr => ?_, fun r hr h hh => ?_⟩
  · simp only [exSys, List.mem_singleton] at hx
    subst hx; decide
  · simp only [exSys, List.mem_singleton] at hr
    subst hr; exact (by decide : (⟨#[114]⟩ : ByteArray).size ≤ 20)
  · simp only [exSys, List.mem_singleton] at hr
    subst hr
    simp only [List.mem_cons, List.not_mem_nil, or_false] at hh
    rcases hh with rfl | rfl | rfl | rfl | rfl <;> exact ⟨by decide, by decide⟩
theorem exSys_text (b1 b2 b3 : Nat) : sysT (exSys b1 b2 b3) = [98, 108, 111, 99, 107, 32, 98, 32, 51, 48, 48, 10, 114, 111, 112, 101, 32, 114, 32, 104, 97, 117, 108, 101, 100, 32, 45, 32, 48, 32, 49, 32, 98, 32, 50, 32, 49, 32, 45, 32, 48, 32, 49, 32, 98, 32, 50, 32, 49, 32, 45, 32, 48, 32, 49, 10] := by kernel_rfl
theorem one_any (w : World) : Calls Tryz.prog 32 #[] w (Gives w (.agg #[.int .i64 1, .int .i64 1])) := by
  go_enter Tryz.func32, Tryz.ntmps32
  go_wp2
  go_returns
  exact Gives.mk rfl ((Below.refl _ _).alloc (Nat.le_refl _) _)
set_option maxRecDepth 100000 in
set_option maxHeartbeats 4000000 in
theorem example_any (w : World) : Calls Tryz.prog 13 #[] w fun e w' => ∃ b1 b2 b3, e = .returned (.agg #[.slice (exSys b1 b2 b3).blocks.A (exSys b1 b2 b3).blocks.l.length (exSys b1 b2 b3).blocks.cap, .slice (exSys b1 b2 b3).ropes.A (exSys b1 b2 b3).ropes.l.length (exSys b1 b2 b3).ropes.cap]) ∧ SysD.at_ w' w'.heap.size (exSys b1 b2 b3) ∧ Below w.heap.size w w' := by
  obtain ⟨W0, hW0, hs0, hb0, hh0⟩ := boxed w (.cells #[.slice none 0 0, .slice none 0 0] 25)
  obtain ⟨W1, hW1, hs1, hb1, hh1⟩ := boxed W0 (.cells #[.string ⟨#[98]⟩, .int .i64 300] 50)
  have HW := hide (show W1 = (w.alloc (.cells #[.slice none 0 0, .slice none 0 0] 25)).alloc (.cells #[.string ⟨#[98]⟩, .int .i64 300] 50) by rw [hW1, hW0])
  have YR : W1 = (After.refl W1.heap.size W1).val := rfl
  have hblk : ∀ (y : After W1.heap.size W1) (o1 o2 : Obj), ((y.val.alloc o1).alloc o2).heap[w.heap.size]? = some (.cells #[.slice none 0 0, .slice none 0 0] 25 (0, 0)) := fun y o1 o2 => by
    rw [Lib.alloc_old _ _ _ (by have := y.size; simp; omega), Lib.alloc_old _ _ _ (by have := y.size; omega), y.below.block _ (by omega), hb1.block _ (by omega)]; exact hh0
  have hZ0 := fun y o1 o2 => two_cells (hblk y o1 o2)
  have hZf := fun y o1 o2 i => block_unfrozen (hblk y o1 o2) i
  have hZ1 := fun y o1 o2 v => (Lib.cell_of_heap (block_set (i := 0) (hblk y o1 o2) v) : ∀ i, _)
  have hZ2 := fun y o1 o2 v z => (two_cells (two_set (c := v) (d := z) (hblk y o1 o2))).2
  have hZ3 := fun y o1 o2 v => (show (((y : After W1.heap.size W1).val.alloc o1).alloc o2 |>.setCell ⟨w.heap.size, 0, none⟩ v).cell? ⟨w.heap.size, 0, none⟩ = some v by rw [hZ1]; rfl)
  have HB := hide hblk
  have HH1 := hide hh1
  have Hb := hide (hb0.trans (hb1.mono (by omega)))
  have Hs0 := hide hs0
  have Hs1 := hide hs1
  clear hZ1 hblk hW0 hs0 hb0 hh0 hW1 hs1 hb1 hh1
  go_enter Tryz.func13, Tryz.ntmps13
  go_wp2_with fail
  rw [← HW.out, YR]
  refine (Gives.after (Nat.le_refl _) (one_any _)).mono ?_
  rintro e w1 ⟨rfl, y, rfl⟩
  go_wp2_with (go_at_call 32; refine (Gives.after (Nat.le_refl _) (one_any _)).mono ?_; rintro e w1 ⟨rfl, y, rfl⟩)
  try simp only [Exit.inBlock, Exit.then]
  refine bodyPost_ret (by simp [results, Tryz.results13, go_sem, hZ2, hZ3]; try rfl) rfl ?_
  clear hZ0 hZf hZ2 hZ3
  obtain ⟨V1, e1, s1, c1, d1⟩ := boxed y.val (.cells #[.string ⟨#[]⟩, .int .i64 0, .int .i64 1, .int .i64 1, .string ⟨#[98]⟩, .int .i64 2, .int .i64 1, .int .i64 1, .string ⟨#[]⟩, .int .i64 0, .int .i64 1, .int .i64 1, .string ⟨#[98]⟩, .int .i64 2, .int .i64 1, .int .i64 1, .string ⟨#[]⟩, .int .i64 0, .int .i64 1, .int .i64 1] 57)
  rw [← e1]
  obtain ⟨V2, e2, s2, c2, d2⟩ := boxed V1 (.cells #[.string ⟨#[114]⟩, .slice (some ⟨y.val.heap.size, 0, none⟩) 5 5, .bool true] 53)
  rw [← e2]
  have hys := y.size
  have hs0 := Hs0.out
  have hs1 := Hs1.out
  have k1 : V2.heap[w.heap.size + 1]? = some (.cells #[.string ⟨#[98]⟩, .int .i64 300] 50 (0, 0)) := by
    rw [c2.block _ (by omega), c1.block _ (by omega), y.below.block _ (by omega), ← hs0]; exact HH1.out
  have k2 := (c2.block y.val.heap.size (by omega)).trans d1
  rw [s1] at d2
  have hset : ∀ (k : Nat) (v z : Value), k ≠ w.heap.size → ((V2.setCell ⟨w.heap.size, 0, none⟩ v).setCell ⟨w.heap.size, 1, none⟩ z).heap[k]? = V2.heap[k]? := fun k v z hk => by
    rw [RowKit.Below.heap_setCell _ _ _ _ hk, RowKit.Below.heap_setCell _ _ _ _ hk]
  have hsz : ∀ v z : Value, ((V2.setCell ⟨w.heap.size, 0, none⟩ v).setCell ⟨w.heap.size, 1, none⟩ z).heap.size = y.val.heap.size + 2 := fun v z => by simp [World.setCell]; omega
  refine ⟨w.heap.size + 1, y.val.heap.size, y.val.heap.size + 1, rfl, ⟨?_, ?_, ?_⟩, ?_⟩
  · exact SlAt.whole (cells := BlockD.cells) (l := [⟨⟨#[98]⟩, 300⟩]) (fun _ => rfl) ((hset _ _ _ (by omega)).trans k1) rfl (by rw [hsz]; omega) (by decide)
  · exact SlAt.whole (cells := RopeD.cells) (l := [⟨⟨#[114]⟩, ⟨some ⟨y.val.heap.size, 0, none⟩, 5, [exH0, exH1, exH0, exH1, exH0]⟩, true⟩]) (fun _ => rfl) ((hset _ _ _ (by omega)).trans d2) rfl (by rw [hsz]; omega) (by simp [maxLen])
  · intro r hr
    simp only [exSys, List.mem_singleton] at hr
    subst hr
    exact SlAt.whole (cells := HoldD.cells) (l := [exH0, exH1, exH0, exH1, exH0]) (fun _ => rfl) ((hset _ _ _ (by omega)).trans k2) rfl (by rw [hsz]; omega) (by simp [maxLen])
  · exact ((Hb.out.trans (y.below.mono (by omega))).trans ((c1.trans (c2.mono (by omega))).mono (by omega))).setCell (p := ⟨w.heap.size, 0, none⟩) (Nat.le_refl _) _ |>.setCell (p := ⟨w.heap.size, 1, none⟩) (Nat.le_refl _) _
end Go.Proofs.YtgamhdbcejkllaaGreatDoor
