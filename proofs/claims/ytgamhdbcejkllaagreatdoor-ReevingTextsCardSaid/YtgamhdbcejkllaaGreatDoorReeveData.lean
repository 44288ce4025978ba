/- The plain data of the systems of ropes: blocks, holds, ropes, systems; how they lie in memory. -/
import Derived.Test.YtgamhdbcejkllaaGreatDoorData
namespace Go.Proofs.YtgamhdbcejkllaaGreatDoor
open Go.RowKit

structure HoldD where
  block : ByteArray
  pulls : Int
  num : Int
  den : Int
structure BlockD where
  name : ByteArray
  weight : Int
structure RopeD where
  name : ByteArray
  holds : Sl HoldD
  hauled : Bool
structure SysD where
  blocks : Sl BlockD
  ropes : Sl RopeD

def HoldD.cells (x : HoldD) : List Value := [.string x.block, .int .i64 x.pulls, .int .i64 x.num, .int .i64 x.den]
def BlockD.cells (x : BlockD) : List Value := [.string x.name, .int .i64 x.weight]
def RopeD.cells (x : RopeD) : List Value := [.string x.name, .slice x.holds.A x.holds.l.length x.holds.cap, .bool x.hauled]

structure HoldD.ok (x : HoldD) : Prop where
  block : x.block.size ≤ maxLen
  pulls : I64 x.pulls
  num : I64 x.num
  den : I64 x.den
structure BlockD.ok (x : BlockD) : Prop where
  name : x.name.size ≤ maxLen
  weight : I64 x.weight
structure RopeD.ok (x : RopeD) : Prop where
  name : x.name.size ≤ maxLen
  holds : ∀ h ∈ x.holds.l, h.ok
structure SysD.ok (s : SysD) : Prop where
  blocks : ∀ x ∈ s.blocks.l, x.ok
  ropes : ∀ x ∈ s.ropes.l, x.ok

def RopeD.at_ (w : World) (B : Nat) (r : RopeD) : Prop := SlAt w B 4 HoldD.cells r.holds
structure SysD.at_ (w : World) (B : Nat) (s : SysD) : Prop where
  blocks : SlAt w B 2 BlockD.cells s.blocks
  ropes : SlAt w B 3 RopeD.cells s.ropes
  each : ∀ r ∈ s.ropes.l, RopeD.at_ w B r

section
variable {W : World} {B b : Nat} {t : TypeId}
theorem SysD.boxed {s : SysD} (hW : W.heap[b]? = some (.cells #[.slice s.blocks.A s.blocks.l.length s.blocks.cap, .slice s.ropes.A s.ropes.l.length s.ropes.cap] t (0, 0))) (hb : b < B) (x : After B W) :
    x.val.cell? ⟨b, 0, none⟩ = some (.slice s.blocks.A s.blocks.l.length s.blocks.cap) ∧ x.val.cell? ⟨b, 1, none⟩ = some (.slice s.ropes.A s.ropes.l.length s.ropes.cap) :=
  ⟨x.cells hW hb 0 _ rfl, x.cells hW hb 1 _ rfl⟩
theorem RopeD.boxed {r : RopeD} (hW : W.heap[b]? = some (.cells #[.string r.name, .slice r.holds.A r.holds.l.length r.holds.cap, .bool r.hauled] t (0, 0))) (hb : b < B) (x : After B W) :
    x.val.cell? ⟨b, 0, none⟩ = some (.string r.name) ∧ x.val.cell? ⟨b, 1, none⟩ = some (.slice r.holds.A r.holds.l.length r.holds.cap) ∧ x.val.cell? ⟨b, 2, none⟩ = some (.bool r.hauled) :=
  ⟨x.cells hW hb 0 _ rfl, x.cells hW hb 1 _ rfl, x.cells hW hb 2 _ rfl⟩
theorem HoldD.boxed {h : HoldD} (hW : W.heap[b]? = some (.cells #[.string h.block, .int .i64 h.pulls, .int .i64 h.num, .int .i64 h.den] t (0, 0))) (hb : b < B) (x : After B W) :
    x.val.cell? ⟨b, 0, none⟩ = some (.string h.block) ∧ x.val.cell? ⟨b, 1, none⟩ = some (.int .i64 h.pulls) ∧ x.val.cell? ⟨b, 2, none⟩ = some (.int .i64 h.num) ∧ x.val.cell? ⟨b, 3, none⟩ = some (.int .i64 h.den) :=
  ⟨x.cells hW hb 0 _ rfl, x.cells hW hb 1 _ rfl, x.cells hW hb 2 _ rfl, x.cells hW hb 3 _ rfl⟩
theorem BlockD.boxed {h : BlockD} (hW : W.heap[b]? = some (.cells #[.string h.name, .int .i64 h.weight] t (0, 0))) (hb : b < B) (x : After B W) :
    x.val.cell? ⟨b, 0, none⟩ = some (.string h.name) ∧ x.val.cell? ⟨b, 1, none⟩ = some (.int .i64 h.weight) :=
  ⟨x.cells hW hb 0 _ rfl, x.cells hW hb 1 _ rfl⟩
end
section
variable {W : World} {B b off : Nat}
theorem BlockD.elem {l : List BlockD} {k : Nat} {s : BlockD} (hs : l[k]? = some s) (hb : b < B) (hc : ∀ i x, l[i]? = some x → ∀ j u, (x.cells)[j]? = some u → W.cell? ⟨b, off + (i * 2 + j), none⟩ = some u) (x : After B W) :
    x.val.cell? ⟨b, off + k * 2, none⟩ = some (.string s.name) ∧ x.val.cell? ⟨b, off + k * 2 + 1, none⟩ = some (.int .i64 s.weight) := by
  have h : ∀ j u, s.cells[j]? = some u → x.val.cell? ⟨b, off + k * 2 + j, none⟩ = some u := fun j u hu => by rw [Nat.add_assoc]; exact x.cell (hc k s hs j u hu) hb
  exact ⟨h 0 _ rfl, h 1 _ rfl⟩
theorem HoldD.elem {l : List HoldD} {k : Nat} {s : HoldD} (hs : l[k]? = some s) (hb : b < B) (hc : ∀ i x, l[i]? = some x → ∀ j u, (x.cells)[j]? = some u → W.cell? ⟨b, off + (i * 4 + j), none⟩ = some u) (x : After B W) :
    x.val.cell? ⟨b, off + k * 4, none⟩ = some (.string s.block) ∧ x.val.cell? ⟨b, off + k * 4 + 1, none⟩ = some (.int .i64 s.pulls) ∧ x.val.cell? ⟨b, off + k * 4 + 2, none⟩ = some (.int .i64 s.num) ∧ x.val.cell? ⟨b, off + k * 4 + 3, none⟩ = some (.int .i64 s.den) := by
  have h : ∀ j u, s.cells[j]? = some u → x.val.cell? ⟨b, off + k * 4 + j, none⟩ = some u := fun j u hu => by rw [Nat.add_assoc]; exact x.cell (hc k s hs j u hu) hb
  exact ⟨h 0 _ rfl, h 1 _ rfl, h 2 _ rfl, h 3 _ rfl⟩
theorem RopeD.elem {l : List RopeD} {k : Nat} {s : RopeD} (hs : l[k]? = some s) (hb : b < B) (hc : ∀ i x, l[i]? = some x → ∀ j u, (x.cells)[j]? = some u → W.cell? ⟨b, off + (i * 3 + j), none⟩ = some u) (x : After B W) :
    x.val.cell? ⟨b, off + k * 3, none⟩ = some (.string s.name) ∧ x.val.cell? ⟨b, off + k * 3 + 1, none⟩ = some (.slice s.holds.A s.holds.l.length s.holds.cap) ∧ x.val.cell? ⟨b, off + k * 3 + 2, none⟩ = some (.bool s.hauled) := by
  have h : ∀ j u, s.cells[j]? = some u → x.val.cell? ⟨b, off + k * 3 + j, none⟩ = some u := fun j u hu => by rw [Nat.add_assoc]; exact x.cell (hc k s hs j u hu) hb
  exact ⟨h 0 _ rfl, h 1 _ rfl, h 2 _ rfl⟩
end
section
variable {w w' : World} {B B' : Nat}
theorem RopeD.at_.to {r : RopeD} (h : RopeD.at_ w B r) (hb : Below B w w') (hB : B ≤ B') : RopeD.at_ w' B' r := SlAt.to h hb hB
theorem SysD.at_.to {s : SysD} (h : SysD.at_ w B s) (hb : Below B w w') (hB : B ≤ B') : SysD.at_ w' B' s := ⟨h.blocks.to hb hB, h.ropes.to hb hB, fun r hr => RopeD.at_.to (h.each r hr) hb hB⟩
end
end Go.Proofs.YtgamhdbcejkllaaGreatDoor
