/- batten.Valid. -/
import Derived.Test.YtnjbfhfjdhfdlaaGreatDoorBattenV1
import Derived.Test.YtnjbfhfjdhfdlaaGreatDoorBattenV2
import Derived.Test.YtnjbfhfjdhfdlaaGreatDoorBattenV3
namespace Go.Proofs.YtnjbfhfjdhfdlaaGreatDoor
open Go.RowKit

theorem setFirst_and {s : SetD} (h1 : isName s.name = true) (h2 : betweenB s.depth 0 1048576 = true) (h3 : 0 ≤ s.low) (h4 : s.low ≤ s.high) (h5 : s.high ≤ 1048576) (h6 : betweenB s.length 1000 1048576 = true) (h7 : s.length % 1000 = 0) : setFirst s = true :=
  setFirst_iff.2 ⟨h1, h2, betweenB_iff.2 ⟨h3, h4⟩, betweenB_iff.2 ⟨by omega, h5⟩, h6, h7⟩
theorem setOk_eq (s : SetD) : setOk s = (isName s.name && betweenB s.depth 0 1048576 && decide (0 ≤ s.low) && decide (s.low ≤ s.high) && decide (s.high ≤ 1048576) && betweenB s.length 1000 1048576 && (s.length % 1000 == 0) && linesOk s.lines.l s.length && betweenB s.pipe 0 1048576 && betweenB s.arbor 0 1048576 && betweenB s.purchase 1 2 && betweenB s.most 1 67108864 && betweenB s.brake 0 67108864 && itemsOk s.items.l s.length && bricksOk s.bricks.l) := by
  rw [Bool.eq_iff_iff, setOk]
  simp only [Bool.and_eq_true, setFirst_iff, setSecond_iff, betweenB_iff, decide_eq_true_eq, beq_iff_eq]
  constructor
  · rintro ⟨⟨⟨⟨⟨a1, a2, a3, a4, a5, a6⟩, b⟩, c1, c2, c3, c4, c5⟩, d⟩, e⟩
    exact ⟨⟨⟨⟨⟨⟨⟨⟨⟨⟨⟨⟨⟨⟨a1, a2⟩, a3.1⟩, a3.2⟩, a4.2⟩, a5⟩, a6⟩, b⟩, c1⟩, c2⟩, c3⟩, c4⟩, c5⟩, d⟩, e⟩
  · rintro ⟨⟨⟨⟨⟨⟨⟨⟨⟨⟨⟨⟨⟨⟨a1, a2⟩, a3⟩, a3'⟩, a4⟩, a5⟩, a6⟩, b⟩, c1⟩, c2⟩, c3⟩, c4⟩, c5⟩, d⟩, e⟩
    exact ⟨⟨⟨⟨⟨a1, a2, ⟨a3, a3'⟩, ⟨by omega, a4⟩, a5, a6⟩, b⟩, c1, c2, c3, c4, c5⟩, d⟩, e⟩
theorem battenValid_any (s : SetD) (hok : s.ok) (w : World) (B : Nat) (hB : B ≤ w.heap.size) (hat : SetD.at_ w B s) :
    Calls Tryz.prog 42 #[.agg #[.string s.name, .int .i64 s.depth, .int .i64 s.low, .int .i64 s.high, .int .i64 s.length, .slice s.lines.A s.lines.l.length s.lines.cap, .int .i64 s.pipe, .int .i64 s.arbor, .int .i64 s.purchase, .int .i64 s.most, .int .i64 s.brake, .slice s.items.A s.items.l.length s.items.cap, .slice s.bricks.A s.bricks.l.length s.bricks.cap]] w (Gives w (.bool (setOk s))) := by
  rw [setOk_eq]
  cases h1 : isName s.name
  case false =>
    simp only [Bool.false_and]
    exact battenValid_1 s hok w B hB hat  h1
  cases h2 : betweenB s.depth 0 1048576
  case false =>
    simp only [Bool.and_false, Bool.false_and]
    exact battenValid_2 s hok w B hB hat h1 h2
  by_cases h3 : 0 ≤ s.low
  case neg =>
    rw [decide_eq_false h3]
    simp only [Bool.and_false, Bool.false_and]
    exact battenValid_3 s hok w B hB hat h1 h2 (by omega)
  rw [decide_eq_true h3]
  by_cases h4 : s.low ≤ s.high
  case neg =>
    rw [decide_eq_false h4]
    simp only [Bool.and_false, Bool.false_and]
    exact battenValid_4 s hok w B hB hat h1 h2 h3 (by omega)
  rw [decide_eq_true h4]
  by_cases h5 : s.high ≤ 1048576
  case neg =>
    rw [decide_eq_false h5]
    simp only [Bool.and_false, Bool.false_and]
    exact battenValid_5 s hok w B hB hat h1 h2 h3 h4 (by omega)
  rw [decide_eq_true h5]
  cases h6 : betweenB s.length 1000 1048576
  case false =>
    simp only [Bool.and_false, Bool.false_and]
    exact battenValid_6 s hok w B hB hat h1 h2 h3 h4 h5 h6
  cases h7 : (s.length % 1000 == 0)
  case false =>
    simp only [Bool.and_false, Bool.false_and]
    exact battenValid_7 s hok w B hB hat h1 h2 h3 h4 h5 h6 h7
  cases h8 : linesOk s.lines.l s.length
  case false =>
    simp only [Bool.and_false, Bool.false_and]
    exact battenValid_8 s hok w B hB hat h1 h2 h3 h4 h5 h6 h7 h8
  cases h9 : betweenB s.pipe 0 1048576
  case false =>
    simp only [Bool.and_false, Bool.false_and]
    exact battenValid_9 s hok w B hB hat h1 h2 h3 h4 h5 h6 h7 h8 h9
  cases h10 : betweenB s.arbor 0 1048576
  case false =>
    simp only [Bool.and_false, Bool.false_and]
    exact battenValid_10 s hok w B hB hat h1 h2 h3 h4 h5 h6 h7 h8 h9 h10
  cases h11 : betweenB s.purchase 1 2
  case false =>
    simp only [Bool.and_false, Bool.false_and]
    exact battenValid_11 s hok w B hB hat h1 h2 h3 h4 h5 h6 h7 h8 h9 h10 h11
  cases h12 : betweenB s.most 1 67108864
  case false =>
    simp only [Bool.and_false, Bool.false_and]
    exact battenValid_12 s hok w B hB hat h1 h2 h3 h4 h5 h6 h7 h8 h9 h10 h11 h12
  cases h13 : betweenB s.brake 0 67108864
  case false =>
    simp only [Bool.and_false, Bool.false_and]
    exact battenValid_13 s hok w B hB hat h1 h2 h3 h4 h5 h6 h7 h8 h9 h10 h11 h12 h13
  cases h14 : itemsOk s.items.l s.length
  case false =>
    simp only [Bool.and_false, Bool.false_and]
    exact battenValid_14 s hok w B hB hat h1 h2 h3 h4 h5 h6 h7 h8 h9 h10 h11 h12 h13 h14
  simp only [Bool.and_true, Bool.true_and]
  exact battenValid_15 s hok w B hB hat h1 h2 h3 h4 h5 h6 h7 h8 h9 h10 h11 h12 h13 h14
end Go.Proofs.YtnjbfhfjdhfdlaaGreatDoor
