/- loftblocklaw48.awake: the chapter's example holds. -/
import Derived.Test.YtemlaliackblkaaDoorLedSmall
import Derived.Lib.SlBytesConst
namespace Go.Proofs.YtemlaliackblkaaDoor
open Go.RowKit

theorem slAt_made {α : Type} {cells : α → List Value} {size : Nat} (hs : ∀ x, (cells x).length = size) (w : World) (l : List α) (cs : Array Value) (hcs : cs.toList = l.flatMap cells) (hl : l.length ≤ maxLen) (t : TypeId) (fr : Nat × Nat := (0, 0)) :
    SlAt (w.alloc (.cells cs t fr)) (w.heap.size + 1) size cells ⟨some ⟨w.heap.size, 0, none⟩, l.length, l⟩ :=
  ⟨Nat.le_refl _, hl, fun _ => ⟨w.heap.size, 0, rfl, Nat.lt_succ_self _, fun i x hx j u hu => by
    rw [Nat.zero_add, Lib.cell_of_heap (heap_alloc_new w _), ← Array.getElem?_toList, hcs]
    exact flat_at hs l i x j u hx hu⟩⟩
def exLog : LogD := ⟨5, ⟨#[114]⟩, 1, 0⟩
theorem ex_ok : logOk [exLog] = true := by kernel_rfl
theorem ex_prefix : Lib.hasPrefix (encE [exLog]) [53, 32, 114, 32, 49, 32, 48, 32] = true := by kernel_rfl
theorem ex_short : (encE [exLog]).length ≤ 1048576 := by
  have := enc_short ex_ok 1
  simp only [List.take_succ_cons, List.take_zero] at this
  omega
set_option maxRecDepth 100000 in
set_option maxHeartbeats 8000000 in
theorem awake48 (w : World) (ht : Tabs w) : Calls Tryd.prog 9 #[] w (Gives w (.bool true)) := by
  have hb0 : Below w.heap.size w (w.alloc (.cells #[.int .i64 5, .string ⟨#[114]⟩, .int .i64 1, .int .i64 0] 24)) := (Below.refl _ _).alloc (Nat.le_refl _) _
  have KE := hide (encode_any (some ⟨w.heap.size, 0, none⟩) 1 [exLog] ex_ok _ (ht.below hb0) (w.heap.size + 1) (by simp) (slAt_made logCells_len w [exLog] #[.int .i64 5, .string ⟨#[114]⟩, .int .i64 1, .int .i64 0] rfl (by simp [maxLen]) 24))
  have HB0 := hide hb0
  have HT := hide ht
  simp only [List.length_singleton] at KE
  clear hb0 ht
  go_enter Tryd.func9, Tryd.ntmps9
  go_wp2_with fail
  refine KE.out.mono ?_
  rintro e w1 ⟨v1, rfl, A, cap, rfl, hA, hs1, hb1⟩
  have HB1 := hide (HB0.out.trans (hb1.mono HB0.out.size) : Below w.heap.size w w1)
  obtain ⟨bl, hbl⟩ : ∃ bl, bl = encE [exLog] := ⟨_, rfl⟩
  have hpx := ex_prefix
  rw [← hbl] at hs1 hpx ⊢
  have KD := hide (decode_any A cap bl w1 (HT.out.below HB1.out) w1.heap.size (Nat.le_refl _) hs1)
  have HDE := hide (fun (l : List LogD) (er : Int) (h : DecE bl l er) => (show l = [exLog] ∧ er = 0 from by rw [hbl] at h; exact h.same (DecE.enc ex_ok ex_short)))
  have HS1 := hide hs1
  have HPX := hide hpx
  clear hb1 hs1 hbl hpx
  go_wp2_with fail
  refine KD.out.mono ?_
  rintro e w2 ⟨v2, l2, er, rfl, hd, st⟩
  obtain ⟨rfl, rfl⟩ := HDE.out l2 er hd
  obtain ⟨Lv, Lcap, rfl, hs2⟩ := st.slAt logCells_len
  have hS1 := fun y : After w2.heap.size w2 => HS1.out.below (st.bel.trans (y.below.mono st.bel.size))
  have HB2 := hide (HB1.out.trans (st.bel.mono HB1.out.size) : Below w.heap.size w w2)
  have w12 := st.bel.size
  have KS1 := hide (Gives.first (sum_any none 0 [] w2 0 (Nat.zero_le _) ⟨Nat.le_refl _, Nat.zero_le _, fun h => absurd h (by simp)⟩))
  have KS2 := hide (fun y : After w2.heap.size w2 => (show Calls Tryd.prog 21 #[.slice (some ⟨y.val.heap.size, 0, none⟩) 1 1] (y.val.alloc (.cells #[.int .u8 97] 5 (1, 2))) fun e w' => e = .returned (.int .i64 315) ∧ ∃ z : After w2.heap.size w2, w' = z.val from
    Gives.after (x := ⟨_, y.below.alloc y.size _⟩) (Nat.le_refl _) (sum_any (some ⟨y.val.heap.size, 0, none⟩) 1 [97] _ (y.val.heap.size + 1) (by simp) (slAt_made byteCells_len y.val [97] #[.int .u8 97] rfl (by simp [maxLen]) 5 (1, 2)))))
  have KHP := hide (fun y : After w2.heap.size w2 => (show Calls Tryd.prog 27 #[.slice A bl.length cap, .slice (some ⟨y.val.heap.size, 0, none⟩) 8 8] (y.val.alloc (.cells #[.int .u8 53, .int .u8 32, .int .u8 114, .int .u8 32, .int .u8 49, .int .u8 32, .int .u8 48, .int .u8 32] 5 (8, 9))) fun e w' => e = .returned (.bool true) ∧ ∃ z : After w2.heap.size w2, w' = z.val from by
    have h := Gives.after (x := ⟨_, y.below.alloc y.size (.cells #[.int .u8 53, .int .u8 32, .int .u8 114, .int .u8 32, .int .u8 49, .int .u8 32, .int .u8 48, .int .u8 32] 5 (8, 9))⟩) (Nat.le_refl _) (hasPrefix_any (hS1 ⟨_, y.below.alloc y.size _⟩) (slAt_made byteCells_len y.val [53, 32, 114, 32, 49, 32, 48, 32] #[.int .u8 53, .int .u8 32, .int .u8 114, .int .u8 32, .int .u8 49, .int .u8 32, .int .u8 48, .int .u8 32] rfl (by simp [maxLen]) 5 (8, 9)))
    rw [HPX.out] at h
    exact h))
  have KEQ := hide (fun y : After w2.heap.size w2 => (show Calls Tryd.prog 20 #[.slice Lv 1 Lcap, .slice (some ⟨y.val.heap.size, 0, none⟩) 1 1] (y.val.alloc (.cells #[.int .i64 5, .string ⟨#[114]⟩, .int .i64 1, .int .i64 0] 24)) fun e w' => e = .returned (.bool true) ∧ ∃ z : After w2.heap.size w2, w' = z.val from
    Gives.after (x := ⟨_, y.below.alloc y.size _⟩) (Nat.le_refl _) (equalSame_any [exLog] Lv (some ⟨y.val.heap.size, 0, none⟩) Lcap 1 _ w2.heap.size (y.val.heap.size + 1) (by have := y.size; simp; omega) (by simp) (hs2.below (y.below.alloc y.size _)) (slAt_made logCells_len y.val [exLog] #[.int .i64 5, .string ⟨#[114]⟩, .int .i64 1, .int .i64 0] rfl (by simp [maxLen]) 24))))
  have e7 : sumE [] = 7 := rfl
  have hcb := fun (W : World) (C : Array Value) (n c : Nat) => Lib.run_convert_bytes_const (P := Tryd.prog) W 22 5 C n c Tryd.underlying22 Tryd.underlying5
  rw [e7] at KS1
  simp only [List.length_singleton, List.length_nil] at *
  clear hd st hs2 hS1 e7
  go_wp2_with fail
  refine KS1.out.mono ?_
  rintro e w3 ⟨rfl, y, rfl⟩
  go_wp2_with fail
  refine (KS2.out y).mono ?_
  rintro e w4 ⟨rfl, y, rfl⟩
  go_wp2_with fail
  refine (KHP.out y).mono ?_
  rintro e w5 ⟨rfl, y, rfl⟩
  go_wp2_with fail
  refine (KEQ.out y).mono ?_
  rintro e w6 ⟨rfl, y, rfl⟩
  go_wp2
  go_ret
  exact Gives.mk rfl (HB2.out.trans (y.below.mono HB2.out.size))
end Go.Proofs.YtemlaliackblkaaDoor
