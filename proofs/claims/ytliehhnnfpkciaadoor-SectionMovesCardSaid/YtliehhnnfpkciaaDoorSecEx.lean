/- The section chapter's example: loftblocklaw32's example, awake, long. -/
import Derived.Test.YtliehhnnfpkciaaDoorSecDraw
import Derived.Test.YtliehhnnfpkciaaDoorSecRef
import Derived.Test.YtliehhnnfpkciaaDoorWhole
namespace Go.Proofs.YtliehhnnfpkciaaDoor
open Go.RowKit

theorem five_blocks (w : World) (o0 o1 o2 o3 o4 : Obj) : (((((w.alloc o0).alloc o1).alloc o2).alloc o3).alloc o4).heap[w.heap.size + 1]? = some o1 ∧ (((((w.alloc o0).alloc o1).alloc o2).alloc o3).alloc o4).heap[w.heap.size + 2]? = some o2 ∧ (((((w.alloc o0).alloc o1).alloc o2).alloc o3).alloc o4).heap[w.heap.size + 4]? = some o4 ∧ (((((w.alloc o0).alloc o1).alloc o2).alloc o3).alloc o4).heap.size = w.heap.size + 5 ∧ Below w.heap.size w (((((w.alloc o0).alloc o1).alloc o2).alloc o3).alloc o4) := by
  obtain ⟨h1, h2, h3, hs, hb⟩ := four_blocks w o0 o1 o2 o3
  obtain ⟨W5, e5, s5, b5, h5⟩ := boxed ((((w.alloc o0).alloc o1).alloc o2).alloc o3) o4
  rw [← e5]
  refine ⟨?_, ?_, ?_, by omega, hb.trans (b5.mono (by omega))⟩
  · rw [b5.block _ (by omega)]; exact h1
  · rw [b5.block _ (by omega)]; exact h2
  · rw [show w.heap.size + 4 = ((((w.alloc o0).alloc o1).alloc o2).alloc o3).heap.size by omega]; exact h5
def exLaw32 (n : Nat) : HouseD := { name := ⟨#[104]⟩, height := 40, sets := ⟨some ⟨n + 4, 0, none⟩, 1, [{ name := ⟨#[115]⟩, depth := 10, low := 0, high := 40, length := 2000, lines := ⟨some ⟨n + 1, 0, none⟩, 2, [0, 2000]⟩, pipe := 0, arbor := 0, purchase := 1, most := 500, brake := 0, items := ⟨some ⟨n + 2, 0, none⟩, 1, [{ name := ⟨#[105]⟩, place := 0, width := 100, weight := 0, hang := 10, front := 10, back := 0 }]⟩, bricks := ⟨none, 0, []⟩ }]⟩, roofs := ⟨none, 0, []⟩ }
theorem exLaw32_ok (n : Nat) : (exLaw32 n).ok := by
  refine ⟨by simp [exLaw32, maxLen, ByteArray.size], by simp [exLaw32, I64], fun s hs => ?_, fun r hr => by simp [exLaw32] at hr⟩
  simp only [exLaw32, List.mem_singleton] at hs
  subst hs
  constructor
  case lines =>
    intro n hn
    simp at hn
    rcases hn with rfl | rfl <;> simp [I64]
  case items =>
    intro i hi
    simp at hi
    subst hi
    constructor <;> simp [I64, maxLen, ByteArray.size]
  case bricks => intro b hb; simp at hb
  all_goals simp [I64, maxLen, ByteArray.size]
theorem exLaw32_house (n : Nat) : houseOk (exLaw32 n) = true := by kernel_rfl
theorem exLaw32_rows (n : Nat) : secRows (exLaw32 n) 10 = 5 := by kernel_rfl
theorem exLaw32_cols (n : Nat) : secCols (exLaw32 n) 10 = 3 := by kernel_rfl
theorem exLaw32_E (n : Nat) : secE (exLaw32 n) 10 = 0 := by
  rw [secE, if_pos (exLaw32_house n), if_pos (by omega), exLaw32_rows, exLaw32_cols, if_pos (by omega)]
theorem exLaw32_trims (n : Nat) : trimsE (exLaw32 n).sets.l [20] = 0 := by kernel_rfl
theorem exLaw32_text (n : Nat) : secText (exLaw32 n).sets.l [20] 10 4 3 5 = [61, 124, 61, 10, 46, 124, 46, 10, 46, 43, 35, 10, 46, 35, 35, 10, 46, 46, 46, 10] := by kernel_rfl
set_option maxHeartbeats 1000000 in
theorem ex32_any (w : World) : Calls Tryd.prog 45 #[] w fun e w' => e = .returned (.agg #[.string (exLaw32 w.heap.size).name, .int .i64 (exLaw32 w.heap.size).height, .slice (exLaw32 w.heap.size).sets.A (exLaw32 w.heap.size).sets.l.length (exLaw32 w.heap.size).sets.cap, .slice (exLaw32 w.heap.size).roofs.A (exLaw32 w.heap.size).roofs.l.length (exLaw32 w.heap.size).roofs.cap]) ∧ Below w.heap.size w w' ∧ HouseD.at_ w' w'.heap.size (exLaw32 w.heap.size) := by
  go_enter Tryd.func45, Tryd.ntmps45
  go_wp2
  obtain ⟨h1, h2, h3, hs, hb⟩ := five_blocks w (.cells #[.string ⟨#[104]⟩, .int .i64 40, .slice (some ⟨w.heap.size + 1 + 1 + 1 + 1, 0, none⟩) 1 1, .slice none 0 0] 25) (.cells #[.int .i64 0, .int .i64 2000] 3)
    (.cells #[.string ⟨#[105]⟩, .int .i64 0, .int .i64 100, .int .i64 0, .int .i64 10, .int .i64 10, .int .i64 0] 40)
    (.cells #[.string ⟨#[115]⟩, .int .i64 10, .int .i64 0, .int .i64 40, .int .i64 2000, .slice (some ⟨w.heap.size + 1, 0, none⟩) 2 2, .int .i64 0, .int .i64 0, .int .i64 1, .int .i64 500, .int .i64 0, .slice (some ⟨w.heap.size + 1 + 1, 0, none⟩) 1 1, .slice none 0 0] 38)
    (.cells #[.string ⟨#[115]⟩, .int .i64 10, .int .i64 0, .int .i64 40, .int .i64 2000, .slice (some ⟨w.heap.size + 1, 0, none⟩) 2 2, .int .i64 0, .int .i64 0, .int .i64 1, .int .i64 500, .int .i64 0, .slice (some ⟨w.heap.size + 1 + 1, 0, none⟩) 1 1, .slice none 0 0] 38)
  refine bodyPost_ret (v := .agg #[.string (exLaw32 w.heap.size).name, .int .i64 (exLaw32 w.heap.size).height, .slice (exLaw32 w.heap.size).sets.A (exLaw32 w.heap.size).sets.l.length (exLaw32 w.heap.size).sets.cap, .slice (exLaw32 w.heap.size).roofs.A (exLaw32 w.heap.size).roofs.l.length (exLaw32 w.heap.size).roofs.cap]) (by simp [results, Tryd.results45, go_sem, exLaw32]) rfl ⟨rfl, hb, ?_⟩
  refine ⟨SlAt.whole (fun _ => rfl) h3 rfl (by omega) (show 1 ≤ maxLen by decide), fun s hs' => ?_, SlAt.nil⟩
  simp only [exLaw32, List.mem_singleton] at hs'
  subst hs'
  exact ⟨SlAt.whole (fun _ => rfl) h1 rfl (by omega) (by decide), SlAt.whole (fun _ => rfl) h2 rfl (by omega) (by decide), SlAt.nil⟩
set_option maxHeartbeats 1000000 in
theorem awake32 (w : World) : Calls Tryd.prog 16 #[] w (Gives w (.bool true)) := by
  have k1 : ∀ v : World, Calls Tryd.prog 45 #[] v fun e w' => e = .returned (.agg #[.string (exLaw32 v.heap.size).name, .int .i64 (exLaw32 v.heap.size).height, .slice (exLaw32 v.heap.size).sets.A (exLaw32 v.heap.size).sets.l.length (exLaw32 v.heap.size).sets.cap, .slice (exLaw32 v.heap.size).roofs.A (exLaw32 v.heap.size).roofs.l.length (exLaw32 v.heap.size).roofs.cap]) ∧ Below v.heap.size v w' ∧ HouseD.at_ w' w'.heap.size (exLaw32 v.heap.size) := ex32_any
  have k2 : ∀ (n b : Nat) (v : World), HouseD.at_ v v.heap.size (exLaw32 n) → SlAt v v.heap.size 1 intCells ⟨some ⟨b, 0, none⟩, 1, [20]⟩ → Calls Tryd.prog 19 #[.agg #[.string (exLaw32 n).name, .int .i64 (exLaw32 n).height, .slice (exLaw32 n).sets.A (exLaw32 n).sets.l.length (exLaw32 n).sets.cap, .slice (exLaw32 n).roofs.A (exLaw32 n).roofs.l.length (exLaw32 n).roofs.cap], .slice (some ⟨b, 0, none⟩) 1 1, .int .i64 10] v (Gives v (.tuple #[.string ⟨#[61, 124, 61, 10, 46, 124, 46, 10, 46, 43, 35, 10, 46, 35, 35, 10, 46, 46, 46, 10]⟩, .int .i64 0])) := fun n b v hv ht => by
    have := secDraw_good (exLaw32 n) (exLaw32_ok n) ⟨some ⟨b, 0, none⟩, 1, [20]⟩ 10 (exLaw32_E n) (exLaw32_trims n) 5 3 (exLaw32_rows n) (exLaw32_cols n) v v.heap.size (Nat.le_refl _) hv ht
    rw [show ((5 : Nat) : Int) - 1 = 4 by omega, exLaw32_text n] at this
    exact this
  have k3 : ∀ (n : Nat) (v : World), HouseD.at_ v v.heap.size (exLaw32 n) → Calls Tryd.prog 20 #[.agg #[.string (exLaw32 n).name, .int .i64 (exLaw32 n).height, .slice (exLaw32 n).sets.A (exLaw32 n).sets.l.length (exLaw32 n).sets.cap, .slice (exLaw32 n).roofs.A (exLaw32 n).roofs.l.length (exLaw32 n).roofs.cap], .int .i64 10] v (Gives v (.tuple #[.int .i64 5, .int .i64 3, .int .i64 0])) := fun n v hv => by
    have := secSize_any (exLaw32 n) (exLaw32_ok n) 10 v v.heap.size (Nat.le_refl _) hv
    rw [secSizeE, if_pos (exLaw32_E n), exLaw32_rows, exLaw32_cols] at this
    exact this
  go_enter Tryd.func16, Tryd.ntmps16
  go_wp2_with fail
  refine (k1 _).mono ?_
  rintro e w1 ⟨rfl, b1, a1⟩
  go_wp2_with fail
  obtain ⟨W1, hW1, hs1, hb1, hh1⟩ := boxed w1 (.cells #[.int .i64 20] 3)
  rw [← hW1]
  refine (k2 _ _ W1 (a1.to hb1 (by omega)) (SlAt.whole (fun _ => rfl) hh1 rfl (by omega) (by decide))).mono ?_
  rintro e w2 ⟨rfl, b2⟩
  go_wp2_with fail
  refine (k1 _).mono ?_
  rintro e w3 ⟨rfl, b3, a3⟩
  go_wp2_with fail
  refine (k3 _ _ a3).mono ?_
  rintro e w4 ⟨rfl, b4⟩
  have z1 := b1.size
  have z2 := b2.size
  have z3 := b3.size
  have HB := hide (show Below w.heap.size w w4 from b1.trans ((hb1.mono z1).trans ((b2.mono (by omega)).trans ((b3.mono (by omega)).trans (b4.mono (by omega))))))
  clear b1 b2 b3 b4 a1 a3 k1 k2 k3 hW1 hs1 hb1 hh1 z1 z2 z3
  go_wp2
  go_ret
  exact Gives.mk (by rfl) HB.out
set_option maxHeartbeats 1000000 in
theorem long_any (h : HouseD) (w : World) (B : Nat) (hB : B ≤ w.heap.size) (hat : HouseD.at_ w B h) :
    Calls Tryd.prog 46 #[.agg #[.string h.name, .int .i64 h.height, .slice h.sets.A h.sets.l.length h.sets.cap, .slice h.roofs.A h.roofs.l.length h.roofs.cap]] w (Gives w (.bool (!houseSmall h 8))) := by
  obtain ⟨W, hW, hWs, hWb, hWh⟩ := boxed w (.cells #[.string h.name, .int .i64 h.height, .slice h.sets.A h.sets.l.length h.sets.cap, .slice h.roofs.A h.roofs.l.length h.roofs.cap] 25)
  have hbd : ∀ y : After W.heap.size W, Below w.heap.size w y.val := fun y => hWb.trans (y.below.mono (by omega))
  have hg := refHouseSmall_any h 8 (by omega) (by omega) W W.heap.size (Nat.le_refl _) (hat.to (hWb.mono hB) (by omega))
  have HG := hide hg
  have HW := hide hW
  have HBD := hide hbd
  clear hW hWs hWh hWb hbd hat hg
  go_enter Tryd.func46, Tryd.ntmps46
  go_wp2_with (go_at_call 28; rw [← HW.out]; refine (Gives.first HG.out).mono ?_; rintro e w' ⟨rfl, y, rfl⟩)
  go_ret
  exact Gives.mk rfl (HBD.out _)
end Go.Proofs.YtliehhnnfpkciaaDoor
