/- loftblocklaw01.awake: the chapter's examples hold. -/
import Derived.Test.YtplblogdgbnbdaaDoorDecTokens
import Derived.Test.YtplblogdgbnbdaaDoorDecRound
import Derived.Test.YtplblogdgbnbdaaDoorDecParseP
namespace Go.Proofs.YtplblogdgbnbdaaDoor
open Go.RowKit

def exTokens : List TokD := [⟨1, ⟨#[115, 101, 116]⟩, 1, 1⟩, ⟨1, ⟨#[103, 49]⟩, 1, 5⟩, ⟨3, ⟨#[58, 61]⟩, 1, 8⟩, ⟨2, ⟨#[48]⟩, 1, 11⟩, ⟨5, ⟨#[]⟩, 1, 18⟩]
theorem ex_toks : toks (bs ⟨#[115, 101, 116, 32, 103, 49, 32, 58, 61, 32, 48, 32, 35, 32, 111, 102, 102]⟩) = .good exTokens := by
  rw [show (#[115, 101, 116, 32, 103, 49, 32, 58, 61, 32, 48, 32, 35, 32, 111, 102, 102] : Array UInt8) = [115, 101, 116, 32, 103, 49, 32, 58, 61, 32, 48, 32, 35, 32, 111, 102, 102].toArray from rfl, bs_mk]
  rfl
theorem ex_fmt : (⟨(fmtL (-1234) 2).toArray⟩ : ByteArray) = ⟨#[45, 49, 50, 46, 51, 52]⟩ := by
  have : fmtL (-1234) 2 = [45, 49, 50, 46, 51, 52] := by
    unfold fmtL fmtAbs
    rw [show (-1234 : Int).natAbs / 10 ^ 2 = 12 from rfl, Lib.decDigits_two (by decide) (by decide)]
    rfl
  rw [this]
theorem ex_parse : parseE (bs ⟨#[49, 50, 46, 51]⟩) 2 = (1230, 0) := by
  rw [show (#[49, 50, 46, 51] : Array UInt8) = [49, 50, 46, 51].toArray from rfl, bs_mk]
  rfl
set_option maxHeartbeats 8000000 in
set_option maxRecDepth 100000 in
theorem awake01 (w : World) (ht : Tabs w) : Calls Tryd.prog 11 #[] w (Gives w (.bool true)) := by
  have KT := hide fun y : After w.heap.size w => ht.below y.below
  have K1 := hide (by have := Gives.first (format_ok (-1234) 2 2 rfl (by decide) rfl w ht); rw [ex_fmt] at this; exact this)
  have K2 := hide fun y : After w.heap.size w => (by have := Gives.after (x := y) (Nat.le_refl _) (parse_ok ⟨#[49, 50, 46, 51]⟩ (by decide) 2 2 rfl (by decide) y.val (KT.out y)); rw [ex_parse] at this; exact this)
  have K3 := hide fun y : After w.heap.size w => (by have := Gives.after (x := y) (Nat.le_refl _) (round_ok (-15) 10 rfl rfl y.val); rw [show roundI (-15) 10 = -1 from rfl] at this; exact this)
  have K4 := hide fun y : After w.heap.size w => (by have := tokens_any ⟨#[115, 101, 116, 32, 103, 49, 32, 58, 61, 32, 48, 32, 35, 32, 111, 102, 102]⟩ (by decide) y.val; rw [ex_toks] at this; exact this)
  clear ht
  go_enter Tryd.func11, Tryd.ntmps11
  go_wp2_with fail
  refine K1.out.mono ?_
  rintro e w1 ⟨rfl, y1, rfl⟩
  go_wp2_with fail
  refine (K2.out y1).mono ?_
  rintro e w1 ⟨rfl, y2, rfl⟩
  go_wp2_with fail
  refine (K3.out y2).mono ?_
  rintro e w1 ⟨rfl, y3, rfl⟩
  go_wp2_with fail
  refine (K4.out y3).mono ?_
  rintro e w1 ⟨hb0, v, rfl, hown⟩
  obtain ⟨g, cap, rfl, hg, hlt⟩ := World.ownsRow.form hown (by decide)
  have c9 : w1.cell? ⟨g, 9, none⟩ = some (.string ⟨#[58, 61]⟩) := (World.ownsRow.cells hown rfl 9 _ rfl : _)
  have c18 : w1.cell? ⟨g, 18, none⟩ = some (.int .i64 1) := (World.ownsRow.cells hown rfl 18 _ rfl : _)
  have c19 : w1.cell? ⟨g, 19, none⟩ = some (.int .i64 18) := (World.ownsRow.cells hown rfl 19 _ rfl : _)
  have e9 : w1.heap.size ≠ g := by omega
  have hb := hide (y3.below.trans (hb0.mono y3.size))
  clear hown hb0
  rw [show exTokens.length = 5 from rfl]
  go_wp2
  go_ret
  exact Gives.mk rfl (hb.out.alloc hb.out.size _)
end Go.Proofs.YtplblogdgbnbdaaDoor
