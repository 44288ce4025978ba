/- The chapter's example: gridplan.At, and loftblocklaw33's example and awake. -/
import Derived.Test.YtliehhnnfpkciaaGreatDoorDraw
import Derived.Test.YtliehhnnfpkciaaGreatDoorWhole
namespace Go.Proofs.YtliehhnnfpkciaaGreatDoor
open Go.RowKit

def exLaw33 (n : Nat) : HouseD := { name := ⟨#[104]⟩, height := 9000, sets := ⟨some ⟨n + 3, 0, none⟩, 1, [{ name := ⟨#[97]⟩, depth := 1000, low := 0, high := 9000, length := 4000, lines := ⟨some ⟨n + 1, 0, none⟩, 2, [0, 4000]⟩, pipe := 500, arbor := 0, purchase := 1, most := 1, brake := 0, items := ⟨some ⟨n + 2, 0, none⟩, 1, [{ name := ⟨#[120]⟩, place := 900, width := 201, weight := 600, hang := 0, front := 0, back := 0 }]⟩, bricks := ⟨none, 0, []⟩ }]⟩, roofs := ⟨none, 0, []⟩ }
theorem exLaw33_ok (n : Nat) : (exLaw33 n).ok := by
  refine ⟨by simp [exLaw33, maxLen, ByteArray.size], by simp [exLaw33, I64], fun s hs => ?_, fun r hr => by simp [exLaw33] at hr⟩
  simp only [exLaw33, List.mem_singleton] at hs
  subst hs
  constructor
  case lines =>
    intro n hn
    simp at hn
    rcases hn with rfl | rfl <;> simp [I64]
  case items =>
    intro i hi
    simp at hi
    subst hi
    constructor <;> simp [I64, maxLen, ByteArray.size]
  case bricks => intro b hb; simp at hb
  all_goals simp [I64, maxLen, ByteArray.size]
theorem exLaw33_house (n : Nat) : houseOk (exLaw33 n) = true := by kernel_rfl
theorem exLaw33_text (n : Nat) : planText (exLaw33 n).sets.l 1000 5 2 = [46, 46, 46, 46, 46, 10, 111, 35, 45, 45, 111, 10] := by kernel_rfl
set_option maxHeartbeats 1000000 in
theorem ex33_any (w : World) : Calls Tryz.prog 20 #[] w fun e w' => e = .returned (.agg #[.string (exLaw33 w.heap.size).name, .int .i64 (exLaw33 w.heap.size).height, .slice (exLaw33 w.heap.size).sets.A (exLaw33 w.heap.size).sets.l.length (exLaw33 w.heap.size).sets.cap, .slice (exLaw33 w.heap.size).roofs.A (exLaw33 w.heap.size).roofs.l.length (exLaw33 w.heap.size).roofs.cap]) ∧ Below w.heap.size w w' ∧ HouseD.at_ w' w'.heap.size (exLaw33 w.heap.size) := by
  go_enter Tryz.func20, Tryz.ntmps20
  go_wp2
  obtain ⟨h1, h2, h3, hs, hb⟩ := four_blocks w (.cells #[.string ⟨#[104]⟩, .int .i64 9000, .slice (some ⟨w.heap.size + 1 + 1 + 1, 0, none⟩) 1 1, .slice none 0 0] 25) (.cells #[.int .i64 0, .int .i64 4000] 3)
    (.cells #[.string ⟨#[120]⟩, .int .i64 900, .int .i64 201, .int .i64 600, .int .i64 0, .int .i64 0, .int .i64 0] 87)
    (.cells #[.string ⟨#[97]⟩, .int .i64 1000, .int .i64 0, .int .i64 9000, .int .i64 4000, .slice (some ⟨w.heap.size + 1, 0, none⟩) 2 2, .int .i64 500, .int .i64 0, .int .i64 1, .int .i64 1, .int .i64 0, .slice (some ⟨w.heap.size + 1 + 1, 0, none⟩) 1 1, .slice none 0 0] 49)
  refine bodyPost_ret (v := .agg #[.string (exLaw33 w.heap.size).name, .int .i64 (exLaw33 w.heap.size).height, .slice (exLaw33 w.heap.size).sets.A (exLaw33 w.heap.size).sets.l.length (exLaw33 w.heap.size).sets.cap, .slice (exLaw33 w.heap.size).roofs.A (exLaw33 w.heap.size).roofs.l.length (exLaw33 w.heap.size).roofs.cap]) (by simp [results, Tryz.results20, go_sem, exLaw33]) rfl ⟨rfl, hb, ?_⟩
  refine ⟨SlAt.whole (fun _ => rfl) h3 rfl (by omega) (show 1 ≤ maxLen by decide), fun s hs' => ?_, SlAt.nil⟩
  simp only [exLaw33, List.mem_singleton] at hs'
  subst hs'
  exact ⟨SlAt.whole (fun _ => rfl) h1 rfl (by omega) (by decide), SlAt.whole (fun _ => rfl) h2 rfl (by omega) (by decide), SlAt.nil⟩
end Go.Proofs.YtliehhnnfpkciaaGreatDoor
