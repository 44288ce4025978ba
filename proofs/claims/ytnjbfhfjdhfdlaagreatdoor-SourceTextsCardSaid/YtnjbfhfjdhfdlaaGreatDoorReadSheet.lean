/- A Sheet among the arguments: what was read as data is the plain data that the walks speak of. -/
import Derived.Test.YtnjbfhfjdhfdlaaGreatDoorReadHouse
import Derived.Test.YtnjbfhfjdhfdlaaGreatDoorSrcSheet
import Derived.OpenShut
namespace Go.Proofs.YtnjbfhfjdhfdlaaGreatDoor
open Go.RowKit Go.ChangeShapes Go.WideShapes Go.Deep

section
variable {H : Type} {enc : TypeId × Value → H} {w : World}
set_option maxRecDepth 100000 in
theorem elemMove : ElemOf enc w 82 5 MoveD.cells (fun x => x.ok) := fun n cs y hl h => by
  obtain ⟨xs, n', _, _, _, hlen, hg⟩ := DataW.trod_struct Tryz.underlying82 h
  match cs, hl with
  | [c0, c1, c2, c3, c4], _ =>
    obtain ⟨_, t0⟩ := field_of (by kernel_rfl) hlen hg 0 _ rfl c0 rfl
    obtain ⟨_, t1⟩ := field_of (by kernel_rfl) hlen hg 1 _ rfl c1 rfl
    obtain ⟨_, t2⟩ := field_of (by kernel_rfl) hlen hg 2 _ rfl c2 rfl
    obtain ⟨_, t3⟩ := field_of (by kernel_rfl) hlen hg 3 _ rfl c3 rfl
    obtain ⟨_, t4⟩ := field_of (by kernel_rfl) hlen hg 4 _ rfl c4 rfl
    obtain ⟨s0, rfl, b0⟩ := readString t0
    obtain ⟨s1, rfl, b1⟩ := readInt t1
    obtain ⟨s2, rfl, b2⟩ := readInt t2
    obtain ⟨s3, rfl, b3⟩ := readInt t3
    obtain ⟨s4, rfl, b4⟩ := readInt t4
    exact ⟨⟨s0, s1, s2, s3, s4⟩, rfl, ⟨b0, b1, b2, b3, b4⟩⟩
set_option maxRecDepth 100000 in
theorem elemCue : ElemOf enc w 80 7 CueD.cells (fun x => x.ok ∧ CueD.at_ w w.heap.size x) := fun n cs y hl h => by
  obtain ⟨xs, n', _, _, _, hlen, hg⟩ := DataW.trod_struct Tryz.underlying80 h
  match cs, hl with
  | [c0, c1, c2, c3, c4, c5, c6], _ =>
    obtain ⟨_, t0⟩ := field_of (by kernel_rfl) hlen hg 0 _ rfl c0 rfl
    obtain ⟨_, t1⟩ := field_of (by kernel_rfl) hlen hg 1 _ rfl c1 rfl
    obtain ⟨_, t2⟩ := field_of (by kernel_rfl) hlen hg 2 _ rfl c2 rfl
    obtain ⟨_, t3⟩ := field_of (by kernel_rfl) hlen hg 3 _ rfl c3 rfl
    obtain ⟨_, t4⟩ := field_of (by kernel_rfl) hlen hg 4 _ rfl c4 rfl
    obtain ⟨_, t5⟩ := field_of (by kernel_rfl) hlen hg 5 _ rfl c5 rfl
    obtain ⟨_, t6⟩ := field_of (by kernel_rfl) hlen hg 6 _ rfl c6 rfl
    obtain ⟨s0, rfl, b0⟩ := readString t0
    obtain ⟨s1, rfl, b1⟩ := readString t1
    obtain ⟨s2, rfl, b2⟩ := readInt t2
    obtain ⟨s3, rfl, b3⟩ := readInt t3
    obtain ⟨s4, rfl, a4, b4⟩ := readSlice (size := 5) (cells := MoveD.cells) Tryz.underlying78 (by kernel_rfl) (by decide) (fun _ => rfl) elemMove t4
    obtain ⟨s5, rfl, b5⟩ := readInt t5
    obtain ⟨s6, rfl, b6⟩ := readInt t6
    exact ⟨⟨s0, s1, s2, s3, s4, s5, s6⟩, rfl, ⟨b0, b1, b2, b3, b4, b5, b6⟩, ⟨a4⟩⟩
set_option maxRecDepth 100000 in
theorem elemPair : ElemOf enc w 83 2 pairCells (fun x => x.1.size ≤ maxLen ∧ x.2.size ≤ maxLen) := fun n cs y hl h => by
  obtain ⟨xs, m, _, _, _, hlen, hg⟩ := DataW.trod_array Tryz.underlying83 h
  match cs, hl with
  | [c0, c1], _ =>
    have e1 : Tryz.prog.cellsOf 9 = 1 := by kernel_rfl
    have g0 := hg 0 (by omega)
    have g1 := hg 1 (by omega)
    rw [e1, List.getElem?_eq_getElem (by omega)] at g0 g1
    obtain ⟨s0, rfl, b0⟩ := readString (c := c0) g0
    obtain ⟨s1, rfl, b1⟩ := readString (c := c1) g1
    exact ⟨(s0, s1), rfl, b0, b1⟩
set_option maxRecDepth 100000 in
/-- a Sheet that came in by value -/
theorem readSheet {r : Reach} {b0 : Nat} {v : Value} {d : DataW H} {p : List MemPlace} (hv : Value.okWide Tryz.prog w r b0 29 v) (h : DataW.Trod enc Tryz.prog w 0 (fun _ => true) true 29 v d p) :
    ∃ s : SheetD, v = .agg #[.slice s.cues.A s.cues.l.length s.cues.cap, .slice s.apart.A s.apart.l.length s.apart.cap] ∧ s.ok ∧ SheetD.at_ w w.heap.size s := by
  obtain ⟨cs, rfl, hsz⟩ := okWide_struct Tryz.underlying29 hv
  obtain ⟨cs⟩ := cs
  obtain ⟨fuel, hf⟩ := h
  obtain ⟨xs, n', _, _, _, hlen, hg⟩ := DataW.trod_struct Tryz.underlying29 hf
  match cs, hsz.trans (show Tryz.prog.cellsOf 29 = 2 by kernel_rfl) with
  | [c0, c1], _ =>
    obtain ⟨_, t0⟩ := field_of (by kernel_rfl) hlen hg 0 _ rfl c0 rfl
    obtain ⟨_, t1⟩ := field_of (by kernel_rfl) hlen hg 1 _ rfl c1 rfl
    obtain ⟨s0, rfl, a0, b0⟩ := readSlice (size := 7) (cells := CueD.cells) Tryz.underlying26 (by kernel_rfl) (by omega) (fun _ => rfl) elemCue t0
    obtain ⟨s1, rfl, a1, b1⟩ := readSlice (size := 2) (cells := pairCells) Tryz.underlying27 (by kernel_rfl) (by omega) (fun _ => rfl) elemPair t1
    exact ⟨⟨s0, s1⟩, rfl, ⟨fun q hq => (b0 q hq).1, b1⟩, ⟨a0, fun q hq => (b0 q hq).2, a1⟩⟩
end
end Go.Proofs.YtnjbfhfjdhfdlaaGreatDoor
