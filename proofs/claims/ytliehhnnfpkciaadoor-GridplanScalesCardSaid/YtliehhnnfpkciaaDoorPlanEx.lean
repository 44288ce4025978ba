/- The chapter's example: gridplan.At, and loftblocklaw33's example and awake. -/
import Derived.Test.YtliehhnnfpkciaaDoorRefDraw
import Derived.Test.YtliehhnnfpkciaaDoorDraw
namespace Go.Proofs.YtliehhnnfpkciaaDoor
open Go.RowKit

theorem flat_get {α : Type} {cells : α → List Value} {size : Nat} (hs : ∀ x, (cells x).length = size) : ∀ (l : List α) (i : Nat) (x : α) (j : Nat) (u : Value), l[i]? = some x → (cells x)[j]? = some u → (l.flatMap cells)[i * size + j]? = some u
  | [], i, x, j, u, h, _ => by simp at h
  | y :: l, 0, x, j, u, h, hu => by
    simp at h
    subst h
    have hj : j < (cells y).length := (List.getElem?_eq_some_iff.1 hu).1
    rw [List.flatMap_cons, Nat.zero_mul, Nat.zero_add, List.getElem?_append_left hj]
    exact hu
  | y :: l, i + 1, x, j, u, h, hu => by
    have h' : l[i]? = some x := by simpa using h
    rw [List.flatMap_cons, List.getElem?_append_right (by rw [hs y, Nat.succ_mul]; omega), hs y, show (i + 1) * size + j - size = i * size + j by rw [Nat.succ_mul]; omega]
    exact flat_get hs l i x j u h' hu
/-- a block that holds just the elements of a list -/
theorem SlAt.whole {α : Type} {w : World} {B size b : Nat} {cells : α → List Value} {cs : Array Value} {t : TypeId} {l : List α} (hs : ∀ x, (cells x).length = size) (h : w.heap[b]? = some (.cells cs t (0, 0))) (hcs : cs.toList = l.flatMap cells) (hb : b < B) (hl : l.length ≤ maxLen) :
    SlAt w B size cells ⟨some ⟨b, 0, none⟩, l.length, l⟩ :=
  ⟨Nat.le_refl _, hl, fun _ => ⟨b, 0, rfl, hb, fun i x hx j u hu => by
    rw [Nat.zero_add, Lib.cell_of_heap h, ← Array.getElem?_toList, hcs]
    exact flat_get hs l i x j u hx hu⟩⟩
theorem SlAt.nil {α : Type} {w : World} {B size : Nat} {cells : α → List Value} : SlAt w B size cells ⟨none, 0, []⟩ := ⟨Nat.le_refl _, Nat.zero_le _, fun h => absurd h (by simp)⟩
theorem four_blocks (w : World) (o0 o1 o2 o3 : Obj) : ((((w.alloc o0).alloc o1).alloc o2).alloc o3).heap[w.heap.size + 1]? = some o1 ∧ ((((w.alloc o0).alloc o1).alloc o2).alloc o3).heap[w.heap.size + 2]? = some o2 ∧ ((((w.alloc o0).alloc o1).alloc o2).alloc o3).heap[w.heap.size + 3]? = some o3 ∧ ((((w.alloc o0).alloc o1).alloc o2).alloc o3).heap.size = w.heap.size + 4 ∧ Below w.heap.size w ((((w.alloc o0).alloc o1).alloc o2).alloc o3) := by
  obtain ⟨W1, e1, s1, b1, h1⟩ := boxed w o0
  rw [← e1]
  obtain ⟨W2, e2, s2, b2, h2⟩ := boxed W1 o1
  rw [← e2]
  obtain ⟨W3, e3, s3, b3, h3⟩ := boxed W2 o2
  rw [← e3]
  obtain ⟨W4, e4, s4, b4, h4⟩ := boxed W3 o3
  rw [← e4]
  refine ⟨?_, ?_, ?_, by omega, b1.trans ((b2.mono (by omega)).trans ((b3.mono (by omega)).trans (b4.mono (by omega))))⟩
  · rw [← s1, b4.block _ (by omega), b3.block _ (by omega)]; exact h2
  · rw [show w.heap.size + 2 = W2.heap.size by omega, b4.block _ (by omega)]; exact h3
  · rw [show w.heap.size + 3 = W3.heap.size by omega]; exact h4

def exLaw33 (n : Nat) : HouseD := { name := ⟨#[104]⟩, height := 9000, sets := ⟨some ⟨n + 3, 0, none⟩, 1, [{ name := ⟨#[97]⟩, depth := 1000, low := 0, high := 9000, length := 4000, lines := ⟨some ⟨n + 1, 0, none⟩, 2, [0, 4000]⟩, pipe := 500, arbor := 0, purchase := 1, most := 1, brake := 0, items := ⟨some ⟨n + 2, 0, none⟩, 1, [{ name := ⟨#[120]⟩, place := 900, width := 201, weight := 600, hang := 0, front := 0, back := 0 }]⟩, bricks := ⟨none, 0, []⟩ }]⟩, roofs := ⟨none, 0, []⟩ }
theorem exLaw33_ok (n : Nat) : (exLaw33 n).ok := by
  refine ⟨by simp [exLaw33, maxLen, ByteArray.size], by simp [exLaw33, I64], fun s hs => ?_, fun r hr => by simp [exLaw33] at hr⟩
  simp only [exLaw33, List.mem_singleton] at hs
  subst hs
  constructor
  case lines =>
    intro n hn
    simp at hn
    rcases hn with rfl | rfl <;> simp [I64]
  case items =>
    intro i hi
    simp at hi
    subst hi
    constructor <;> simp [I64, maxLen, ByteArray.size]
  case bricks => intro b hb; simp at hb
  all_goals simp [I64, maxLen, ByteArray.size]
theorem exLaw33_house (n : Nat) : houseOk (exLaw33 n) = true := by kernel_rfl
theorem exLaw33_text (n : Nat) : planText (exLaw33 n).sets.l 1000 5 2 = [46, 46, 46, 46, 46, 10, 111, 35, 45, 45, 111, 10] := by kernel_rfl
set_option maxHeartbeats 1000000 in
theorem ex33_any (w : World) : Calls Tryd.prog 26 #[] w fun e w' => e = .returned (.agg #[.string (exLaw33 w.heap.size).name, .int .i64 (exLaw33 w.heap.size).height, .slice (exLaw33 w.heap.size).sets.A (exLaw33 w.heap.size).sets.l.length (exLaw33 w.heap.size).sets.cap, .slice (exLaw33 w.heap.size).roofs.A (exLaw33 w.heap.size).roofs.l.length (exLaw33 w.heap.size).roofs.cap]) ∧ Below w.heap.size w w' ∧ HouseD.at_ w' w'.heap.size (exLaw33 w.heap.size) := by
  go_enter Tryd.func26, Tryd.ntmps26
  go_wp2
  obtain ⟨h1, h2, h3, hs, hb⟩ := four_blocks w (.cells #[.string ⟨#[104]⟩, .int .i64 9000, .slice (some ⟨w.heap.size + 1 + 1 + 1, 0, none⟩) 1 1, .slice none 0 0] 25) (.cells #[.int .i64 0, .int .i64 4000] 3)
    (.cells #[.string ⟨#[120]⟩, .int .i64 900, .int .i64 201, .int .i64 600, .int .i64 0, .int .i64 0, .int .i64 0] 40)
    (.cells #[.string ⟨#[97]⟩, .int .i64 1000, .int .i64 0, .int .i64 9000, .int .i64 4000, .slice (some ⟨w.heap.size + 1, 0, none⟩) 2 2, .int .i64 500, .int .i64 0, .int .i64 1, .int .i64 1, .int .i64 0, .slice (some ⟨w.heap.size + 1 + 1, 0, none⟩) 1 1, .slice none 0 0] 38)
  refine bodyPost_ret (v := .agg #[.string (exLaw33 w.heap.size).name, .int .i64 (exLaw33 w.heap.size).height, .slice (exLaw33 w.heap.size).sets.A (exLaw33 w.heap.size).sets.l.length (exLaw33 w.heap.size).sets.cap, .slice (exLaw33 w.heap.size).roofs.A (exLaw33 w.heap.size).roofs.l.length (exLaw33 w.heap.size).roofs.cap]) (by simp [results, Tryd.results26, go_sem, exLaw33]) rfl ⟨rfl, hb, ?_⟩
  refine ⟨SlAt.whole (fun _ => rfl) h3 rfl (by omega) (show 1 ≤ maxLen by decide), fun s hs' => ?_, SlAt.nil⟩
  simp only [exLaw33, List.mem_singleton] at hs'
  subst hs'
  exact ⟨SlAt.whole (fun _ => rfl) h1 rfl (by omega) (by decide), SlAt.whole (fun _ => rfl) h2 rfl (by omega) (by decide), SlAt.nil⟩
end Go.Proofs.YtliehhnnfpkciaaDoor
