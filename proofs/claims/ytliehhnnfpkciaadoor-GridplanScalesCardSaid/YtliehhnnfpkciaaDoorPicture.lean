/- loftblockref33.Picture: what a cell of the reference's plan shows. -/
import Derived.Test.YtliehhnnfpkciaaDoorRefPic
namespace Go.Proofs.YtliehhnnfpkciaaDoor
open Go.RowKit

structure Drawable (s : SetD) : Prop where
  d0 : 0 ≤ s.depth
  d1 : s.depth ≤ 1048576
  lines : ∀ p ∈ s.lines.l, 0 ≤ p ∧ p ≤ 1048576
  placed : Placed s
def picFrom (scale r c : Int) : Nat → List SetD → Nat
  | b, [] => b
  | b, s :: l => if s.lines.l.any (seenLine s.depth scale r c) then 3 else if s.items.l.any (seenItem s.depth scale r c) then picFrom scale r c 2 l else if b = 0 ∧ seenPipe s scale r c = true then picFrom scale r c 1 l else picFrom scale r c b l
def glyph : Nat → ByteArray
  | 0 => ⟨#[46]⟩
  | 1 => ⟨#[45]⟩
  | 2 => ⟨#[35]⟩
  | _ => ⟨#[111]⟩
theorem picFrom_drop {scale r c : Int} {b k : Nat} {l : List SetD} {s : SetD} (h : l[k]? = some s) : picFrom scale r c b (l.drop k) = if s.lines.l.any (seenLine s.depth scale r c) then 3 else if s.items.l.any (seenItem s.depth scale r c) then picFrom scale r c 2 (l.drop (k + 1)) else if b = 0 ∧ seenPipe s scale r c = true then picFrom scale r c 1 (l.drop (k + 1)) else picFrom scale r c b (l.drop (k + 1)) := by
  obtain ⟨hk, e⟩ := List.getElem?_eq_some_iff.1 h
  rw [List.drop_eq_getElem_cons hk, e, picFrom]
end Go.Proofs.YtliehhnnfpkciaaDoor
