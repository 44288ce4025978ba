/- The plain data of the houses: items, bricks, line sets, beams, houses; how they lie in memory. -/
import Derived.Test.YtcdkhlndohokcaaGreatDoorBase
namespace Go.Proofs.YtcdkhlndohokcaaGreatDoor
open Go.RowKit

structure ItemD where
  name : ByteArray
  place : Int
  width : Int
  weight : Int
  hang : Int
  front : Int
  back : Int
structure BrickD where
  name : ByteArray
  weight : Int
  count : Int
structure RoofD where
  name : ByteArray
  fro : Int
  til : Int
  most : Int
structure SetD where
  name : ByteArray
  depth : Int
  low : Int
  high : Int
  length : Int
  lines : Sl Int
  pipe : Int
  arbor : Int
  purchase : Int
  most : Int
  brake : Int
  items : Sl ItemD
  bricks : Sl BrickD
structure HouseD where
  name : ByteArray
  height : Int
  sets : Sl SetD
  roofs : Sl RoofD

def intCells (n : Int) : List Value := [.int .i64 n]
def ItemD.cells (x : ItemD) : List Value := [.string x.name, .int .i64 x.place, .int .i64 x.width, .int .i64 x.weight, .int .i64 x.hang, .int .i64 x.front, .int .i64 x.back]
def BrickD.cells (x : BrickD) : List Value := [.string x.name, .int .i64 x.weight, .int .i64 x.count]
def RoofD.cells (x : RoofD) : List Value := [.string x.name, .int .i64 x.fro, .int .i64 x.til, .int .i64 x.most]
def SetD.cells (s : SetD) : List Value := [.string s.name, .int .i64 s.depth, .int .i64 s.low, .int .i64 s.high, .int .i64 s.length, .slice s.lines.A s.lines.l.length s.lines.cap, .int .i64 s.pipe, .int .i64 s.arbor, .int .i64 s.purchase, .int .i64 s.most, .int .i64 s.brake, .slice s.items.A s.items.l.length s.items.cap, .slice s.bricks.A s.bricks.l.length s.bricks.cap]
def HouseD.cells (h : HouseD) : List Value := [.string h.name, .int .i64 h.height, .slice h.sets.A h.sets.l.length h.sets.cap, .slice h.roofs.A h.roofs.l.length h.roofs.cap]

/-- the numbers are of 64 bits, the names no longer than a string can be -/
structure ItemD.ok (x : ItemD) : Prop where
  name : x.name.size ≤ maxLen
  place : I64 x.place
  width : I64 x.width
  weight : I64 x.weight
  hang : I64 x.hang
  front : I64 x.front
  back : I64 x.back
structure BrickD.ok (x : BrickD) : Prop where
  name : x.name.size ≤ maxLen
  weight : I64 x.weight
  count : I64 x.count
structure RoofD.ok (x : RoofD) : Prop where
  name : x.name.size ≤ maxLen
  fro : I64 x.fro
  til : I64 x.til
  most : I64 x.most
structure SetD.ok (s : SetD) : Prop where
  name : s.name.size ≤ maxLen
  depth : I64 s.depth
  low : I64 s.low
  high : I64 s.high
  length : I64 s.length
  lines : ∀ n ∈ s.lines.l, I64 n
  pipe : I64 s.pipe
  arbor : I64 s.arbor
  purchase : I64 s.purchase
  most : I64 s.most
  brake : I64 s.brake
  items : ∀ x ∈ s.items.l, x.ok
  bricks : ∀ x ∈ s.bricks.l, x.ok
structure HouseD.ok (h : HouseD) : Prop where
  name : h.name.size ≤ maxLen
  height : I64 h.height
  sets : ∀ s ∈ h.sets.l, s.ok
  roofs : ∀ r ∈ h.roofs.l, r.ok

/-- the lists of a set lie in w below B -/
structure SetD.at_ (w : World) (B : Nat) (s : SetD) : Prop where
  lines : SlAt w B 1 intCells s.lines
  items : SlAt w B 7 ItemD.cells s.items
  bricks : SlAt w B 3 BrickD.cells s.bricks
structure HouseD.at_ (w : World) (B : Nat) (h : HouseD) : Prop where
  sets : SlAt w B 13 SetD.cells h.sets
  each : ∀ s ∈ h.sets.l, SetD.at_ w B s
  roofs : SlAt w B 4 RoofD.cells h.roofs

section
variable {W : World} {B b : Nat} {t : TypeId}
theorem HouseD.boxed {h : HouseD} (hW : W.heap[b]? = some (.cells #[.string h.name, .int .i64 h.height, .slice h.sets.A h.sets.l.length h.sets.cap, .slice h.roofs.A h.roofs.l.length h.roofs.cap] t (0, 0))) (hb : b < B) (x : After B W) :
    x.val.cell? ⟨b, 0, none⟩ = some (.string h.name) ∧ x.val.cell? ⟨b, 1, none⟩ = some (.int .i64 h.height) ∧ x.val.cell? ⟨b, 2, none⟩ = some (.slice h.sets.A h.sets.l.length h.sets.cap) ∧ x.val.cell? ⟨b, 3, none⟩ = some (.slice h.roofs.A h.roofs.l.length h.roofs.cap) :=
  ⟨x.cells hW hb 0 _ rfl, x.cells hW hb 1 _ rfl, x.cells hW hb 2 _ rfl, x.cells hW hb 3 _ rfl⟩
theorem SetD.boxed {s : SetD} (hW : W.heap[b]? = some (.cells #[.string s.name, .int .i64 s.depth, .int .i64 s.low, .int .i64 s.high, .int .i64 s.length, .slice s.lines.A s.lines.l.length s.lines.cap, .int .i64 s.pipe, .int .i64 s.arbor, .int .i64 s.purchase, .int .i64 s.most, .int .i64 s.brake, .slice s.items.A s.items.l.length s.items.cap, .slice s.bricks.A s.bricks.l.length s.bricks.cap] t (0, 0))) (hb : b < B) (x : After B W) :
    x.val.cell? ⟨b, 0, none⟩ = some (.string s.name) ∧ x.val.cell? ⟨b, 1, none⟩ = some (.int .i64 s.depth) ∧ x.val.cell? ⟨b, 2, none⟩ = some (.int .i64 s.low) ∧ x.val.cell? ⟨b, 3, none⟩ = some (.int .i64 s.high) ∧ x.val.cell? ⟨b, 4, none⟩ = some (.int .i64 s.length) ∧ x.val.cell? ⟨b, 5, none⟩ = some (.slice s.lines.A s.lines.l.length s.lines.cap) ∧ x.val.cell? ⟨b, 6, none⟩ = some (.int .i64 s.pipe) ∧ x.val.cell? ⟨b, 7, none⟩ = some (.int .i64 s.arbor) ∧ x.val.cell? ⟨b, 8, none⟩ = some (.int .i64 s.purchase) ∧ x.val.cell? ⟨b, 9, none⟩ = some (.int .i64 s.most) ∧ x.val.cell? ⟨b, 10, none⟩ = some (.int .i64 s.brake) ∧ x.val.cell? ⟨b, 11, none⟩ = some (.slice s.items.A s.items.l.length s.items.cap) ∧ x.val.cell? ⟨b, 12, none⟩ = some (.slice s.bricks.A s.bricks.l.length s.bricks.cap) :=
  ⟨x.cells hW hb 0 _ rfl, x.cells hW hb 1 _ rfl, x.cells hW hb 2 _ rfl, x.cells hW hb 3 _ rfl, x.cells hW hb 4 _ rfl, x.cells hW hb 5 _ rfl, x.cells hW hb 6 _ rfl, x.cells hW hb 7 _ rfl, x.cells hW hb 8 _ rfl, x.cells hW hb 9 _ rfl, x.cells hW hb 10 _ rfl, x.cells hW hb 11 _ rfl, x.cells hW hb 12 _ rfl⟩
theorem ItemD.boxed {i : ItemD} (hW : W.heap[b]? = some (.cells #[.string i.name, .int .i64 i.place, .int .i64 i.width, .int .i64 i.weight, .int .i64 i.hang, .int .i64 i.front, .int .i64 i.back] t (0, 0))) (hb : b < B) (x : After B W) :
    x.val.cell? ⟨b, 0, none⟩ = some (.string i.name) ∧ x.val.cell? ⟨b, 1, none⟩ = some (.int .i64 i.place) ∧ x.val.cell? ⟨b, 2, none⟩ = some (.int .i64 i.width) ∧ x.val.cell? ⟨b, 3, none⟩ = some (.int .i64 i.weight) ∧ x.val.cell? ⟨b, 4, none⟩ = some (.int .i64 i.hang) ∧ x.val.cell? ⟨b, 5, none⟩ = some (.int .i64 i.front) ∧ x.val.cell? ⟨b, 6, none⟩ = some (.int .i64 i.back) :=
  ⟨x.cells hW hb 0 _ rfl, x.cells hW hb 1 _ rfl, x.cells hW hb 2 _ rfl, x.cells hW hb 3 _ rfl, x.cells hW hb 4 _ rfl, x.cells hW hb 5 _ rfl, x.cells hW hb 6 _ rfl⟩
theorem BrickD.boxed {i : BrickD} (hW : W.heap[b]? = some (.cells #[.string i.name, .int .i64 i.weight, .int .i64 i.count] t (0, 0))) (hb : b < B) (x : After B W) :
    x.val.cell? ⟨b, 0, none⟩ = some (.string i.name) ∧ x.val.cell? ⟨b, 1, none⟩ = some (.int .i64 i.weight) ∧ x.val.cell? ⟨b, 2, none⟩ = some (.int .i64 i.count) :=
  ⟨x.cells hW hb 0 _ rfl, x.cells hW hb 1 _ rfl, x.cells hW hb 2 _ rfl⟩
theorem RoofD.boxed {i : RoofD} (hW : W.heap[b]? = some (.cells #[.string i.name, .int .i64 i.fro, .int .i64 i.til, .int .i64 i.most] t (0, 0))) (hb : b < B) (x : After B W) :
    x.val.cell? ⟨b, 0, none⟩ = some (.string i.name) ∧ x.val.cell? ⟨b, 1, none⟩ = some (.int .i64 i.fro) ∧ x.val.cell? ⟨b, 2, none⟩ = some (.int .i64 i.til) ∧ x.val.cell? ⟨b, 3, none⟩ = some (.int .i64 i.most) :=
  ⟨x.cells hW hb 0 _ rfl, x.cells hW hb 1 _ rfl, x.cells hW hb 2 _ rfl, x.cells hW hb 3 _ rfl⟩
end

/-! ### an element of a slice, cell by cell, in every world that comes behind -/
section
variable {W : World} {B b off size : Nat}
theorem SetD.elem {l : List SetD} {k : Nat} {s : SetD} (hs : l[k]? = some s) (hb : b < B) (hc : ∀ i x, l[i]? = some x → ∀ j u, (x.cells)[j]? = some u → W.cell? ⟨b, off + (i * 13 + j), none⟩ = some u) (x : After B W) :
    x.val.cell? ⟨b, off + k * 13, none⟩ = some (.string s.name) ∧ x.val.cell? ⟨b, off + k * 13 + 1, none⟩ = some (.int .i64 s.depth) ∧ x.val.cell? ⟨b, off + k * 13 + 2, none⟩ = some (.int .i64 s.low) ∧ x.val.cell? ⟨b, off + k * 13 + 3, none⟩ = some (.int .i64 s.high) ∧ x.val.cell? ⟨b, off + k * 13 + 4, none⟩ = some (.int .i64 s.length) ∧ x.val.cell? ⟨b, off + k * 13 + 5, none⟩ = some (.slice s.lines.A s.lines.l.length s.lines.cap) ∧ x.val.cell? ⟨b, off + k * 13 + 6, none⟩ = some (.int .i64 s.pipe) ∧ x.val.cell? ⟨b, off + k * 13 + 7, none⟩ = some (.int .i64 s.arbor) ∧ x.val.cell? ⟨b, off + k * 13 + 8, none⟩ = some (.int .i64 s.purchase) ∧ x.val.cell? ⟨b, off + k * 13 + 9, none⟩ = some (.int .i64 s.most) ∧ x.val.cell? ⟨b, off + k * 13 + 10, none⟩ = some (.int .i64 s.brake) ∧ x.val.cell? ⟨b, off + k * 13 + 11, none⟩ = some (.slice s.items.A s.items.l.length s.items.cap) ∧ x.val.cell? ⟨b, off + k * 13 + 12, none⟩ = some (.slice s.bricks.A s.bricks.l.length s.bricks.cap) := by
  have h : ∀ j u, s.cells[j]? = some u → x.val.cell? ⟨b, off + k * 13 + j, none⟩ = some u := fun j u hu => by rw [Nat.add_assoc]; exact x.cell (hc k s hs j u hu) hb
  exact ⟨h 0 _ rfl, h 1 _ rfl, h 2 _ rfl, h 3 _ rfl, h 4 _ rfl, h 5 _ rfl, h 6 _ rfl, h 7 _ rfl, h 8 _ rfl, h 9 _ rfl, h 10 _ rfl, h 11 _ rfl, h 12 _ rfl⟩
theorem ItemD.elem {l : List ItemD} {k : Nat} {s : ItemD} (hs : l[k]? = some s) (hb : b < B) (hc : ∀ i x, l[i]? = some x → ∀ j u, (x.cells)[j]? = some u → W.cell? ⟨b, off + (i * 7 + j), none⟩ = some u) (x : After B W) :
    x.val.cell? ⟨b, off + k * 7, none⟩ = some (.string s.name) ∧ x.val.cell? ⟨b, off + k * 7 + 1, none⟩ = some (.int .i64 s.place) ∧ x.val.cell? ⟨b, off + k * 7 + 2, none⟩ = some (.int .i64 s.width) ∧ x.val.cell? ⟨b, off + k * 7 + 3, none⟩ = some (.int .i64 s.weight) ∧ x.val.cell? ⟨b, off + k * 7 + 4, none⟩ = some (.int .i64 s.hang) ∧ x.val.cell? ⟨b, off + k * 7 + 5, none⟩ = some (.int .i64 s.front) ∧ x.val.cell? ⟨b, off + k * 7 + 6, none⟩ = some (.int .i64 s.back) := by
  have h : ∀ j u, s.cells[j]? = some u → x.val.cell? ⟨b, off + k * 7 + j, none⟩ = some u := fun j u hu => by rw [Nat.add_assoc]; exact x.cell (hc k s hs j u hu) hb
  exact ⟨h 0 _ rfl, h 1 _ rfl, h 2 _ rfl, h 3 _ rfl, h 4 _ rfl, h 5 _ rfl, h 6 _ rfl⟩
theorem BrickD.elem {l : List BrickD} {k : Nat} {s : BrickD} (hs : l[k]? = some s) (hb : b < B) (hc : ∀ i x, l[i]? = some x → ∀ j u, (x.cells)[j]? = some u → W.cell? ⟨b, off + (i * 3 + j), none⟩ = some u) (x : After B W) :
    x.val.cell? ⟨b, off + k * 3, none⟩ = some (.string s.name) ∧ x.val.cell? ⟨b, off + k * 3 + 1, none⟩ = some (.int .i64 s.weight) ∧ x.val.cell? ⟨b, off + k * 3 + 2, none⟩ = some (.int .i64 s.count) := by
  have h : ∀ j u, s.cells[j]? = some u → x.val.cell? ⟨b, off + k * 3 + j, none⟩ = some u := fun j u hu => by rw [Nat.add_assoc]; exact x.cell (hc k s hs j u hu) hb
  exact ⟨h 0 _ rfl, h 1 _ rfl, h 2 _ rfl⟩
theorem RoofD.elem {l : List RoofD} {k : Nat} {s : RoofD} (hs : l[k]? = some s) (hb : b < B) (hc : ∀ i x, l[i]? = some x → ∀ j u, (x.cells)[j]? = some u → W.cell? ⟨b, off + (i * 4 + j), none⟩ = some u) (x : After B W) :
    x.val.cell? ⟨b, off + k * 4, none⟩ = some (.string s.name) ∧ x.val.cell? ⟨b, off + k * 4 + 1, none⟩ = some (.int .i64 s.fro) ∧ x.val.cell? ⟨b, off + k * 4 + 2, none⟩ = some (.int .i64 s.til) ∧ x.val.cell? ⟨b, off + k * 4 + 3, none⟩ = some (.int .i64 s.most) := by
  have h : ∀ j u, s.cells[j]? = some u → x.val.cell? ⟨b, off + k * 4 + j, none⟩ = some u := fun j u hu => by rw [Nat.add_assoc]; exact x.cell (hc k s hs j u hu) hb
  exact ⟨h 0 _ rfl, h 1 _ rfl, h 2 _ rfl, h 3 _ rfl⟩
theorem intElem {l : List Int} {k : Nat} {s : Int} (hs : l[k]? = some s) (hb : b < B) (hc : ∀ i x, l[i]? = some x → ∀ j u, (intCells x)[j]? = some u → W.cell? ⟨b, off + (i * 1 + j), none⟩ = some u) (x : After B W) :
    x.val.cell? ⟨b, off + k, none⟩ = some (.int .i64 s) := by
  have h := hc k s hs 0 _ rfl
  exact x.cell (by simpa using h) hb
end

section
variable {w w' : World} {B B' : Nat}
theorem SetD.at_.to {s : SetD} (h : SetD.at_ w B s) (hb : Below B w w') (hB : B ≤ B') : SetD.at_ w' B' s := ⟨h.lines.to hb hB, h.items.to hb hB, h.bricks.to hb hB⟩
theorem HouseD.at_.to {h : HouseD} (hh : HouseD.at_ w B h) (hb : Below B w w') (hB : B ≤ B') : HouseD.at_ w' B' h := ⟨hh.sets.to hb hB, fun s hs => (hh.each s hs).to hb hB, hh.roofs.to hb hB⟩
end
end Go.Proofs.YtcdkhlndohokcaaGreatDoor
