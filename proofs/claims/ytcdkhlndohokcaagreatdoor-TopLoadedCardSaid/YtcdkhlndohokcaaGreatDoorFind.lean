/- The set with a name: house.find and loftblockref30.FindSet. -/
import Derived.Test.YtcdkhlndohokcaaGreatDoorIndex
namespace Go.Proofs.YtcdkhlndohokcaaGreatDoor
open Go.RowKit

def sameName (a b : ByteArray) : Bool := a.toList == b.toList
theorem sameName_iff {a b : ByteArray} : sameName a b = true ↔ a = b := ⟨fun h => bs_inj (by simpa [sameName, bs] using h), fun h => by subst h; simp [sameName]⟩
def findSet (l : List SetD) (nm : ByteArray) : Int := idx (fun s => sameName s.name nm) l

theorem findSet_some {l : List SetD} {nm : ByteArray} {k : Nat} {x : SetD} (h : l[k]? = some x) (hp : sameName x.name nm = true) (hn : ∀ j (y : SetD), j < k → l[j]? = some y → sameName y.name nm = false) : findSet l nm = (k : Int) := idx_some h hp hn
theorem findSet_none {l : List SetD} {nm : ByteArray} (hn : ∀ j (y : SetD), j < l.length → l[j]? = some y → sameName y.name nm = false) : findSet l nm = -1 := idx_none hn

theorem enters_find1 : ∀ args w, (callFunc 95 args).run Tryz.prog w = .ok (.enter 95 args) w := entersOf Tryz.func95 (by kernel_rfl) rfl
set_option maxHeartbeats 400000 in
theorem find1_any (s : SetD) (nm : ByteArray) (nb : Nat) (w : World) (hn : nb < w.heap.size) (hc : w.cell? ⟨nb, 0, none⟩ = some (.string nm)) :
    Calls Tryz.prog 95 #[.agg #[.string s.name, .int .i64 s.depth, .int .i64 s.low, .int .i64 s.high, .int .i64 s.length, .slice s.lines.A s.lines.l.length s.lines.cap, .int .i64 s.pipe, .int .i64 s.arbor, .int .i64 s.purchase, .int .i64 s.most, .int .i64 s.brake, .slice s.items.A s.items.l.length s.items.cap, .slice s.bricks.A s.bricks.l.length s.bricks.cap], .pointer (some ⟨nb, 0, none⟩)] w (Gives w (.bool (sameName s.name nm))) := by
  have hc' : ∀ o : Obj, (w.alloc o).cell? ⟨nb, 0, none⟩ = some (.string nm) := fun o => by rw [World.cell?_alloc_lt w o ⟨nb, 0, none⟩ hn]; exact hc
  go_enter Tryz.func95, Tryz.ntmps95
  go_wp2
  go_ret
  exact Gives.mk rfl ((Below.refl _ _).alloc (Nat.le_refl _) _)
set_option maxHeartbeats 400000 in
theorem find_any (h : HouseD) (nm : ByteArray) (w : World) (B : Nat) (hB : B ≤ w.heap.size) (hat : HouseD.at_ w B h) :
    Calls Tryz.prog 67 #[.agg #[.string h.name, .int .i64 h.height, .slice h.sets.A h.sets.l.length h.sets.cap, .slice h.roofs.A h.roofs.l.length h.roofs.cap], .string nm] w (Gives w (.int .i64 (findSet h.sets.l nm))) := by
  obtain ⟨W1, hW1, hs1, hb1, _⟩ := boxed w (.cells #[.string h.name, .int .i64 h.height, .slice h.sets.A h.sets.l.length h.sets.cap, .slice h.roofs.A h.roofs.l.length h.roofs.cap] 54)
  obtain ⟨W2, hW2, hs2, hb2, hh2⟩ := boxed W1 (.cells #[.string nm] 9)
  have hb : Below w.heap.size w W2 := hb1.trans (hb2.mono (by omega))
  have hcell : ∀ x : After W2.heap.size W2, x.val.cell? ⟨W1.heap.size, 0, none⟩ = some (.string nm) := fun x => x.cells hh2 (by omega) 0 _ rfl
  have hlt : w.heap.size + 1 < W2.heap.size := by omega
  rw [hs1] at hcell
  have HH := hide (hat.to (hb.mono hB) (Nat.le_trans hB (show w.heap.size ≤ W2.heap.size by omega)))
  have HW := hide (show W2 = (w.alloc (.cells #[.string h.name, .int .i64 h.height, .slice h.sets.A h.sets.l.length h.sets.cap, .slice h.roofs.A h.roofs.l.length h.roofs.cap] 54)).alloc (.cells #[.string nm] 9) by rw [hW2, hW1])
  clear hW1 hW2 hs1 hs2 hh2 hat hb1 hb2
  go_enter Tryz.func67, Tryz.ntmps67
  go_wp2_with fail
  rw [← HW.out]
  refine (Gives.first (indexSet_any _ _ _ (fun s => sameName s.name nm) _ _ enters_find1 W2 W2.heap.size (Nat.le_refl _) HH.out.sets (fun x e _ => by rw [oneOne]; exact find1_any e nm _ x.val (Nat.lt_of_lt_of_le hlt x.size) (hcell x)))).mono ?_
  rintro e w' ⟨rfl, x, rfl⟩
  go_wp2
  go_ret
  exact Gives.mk rfl (hb.trans (x.below.mono (by omega)))
end Go.Proofs.YtcdkhlndohokcaaGreatDoor
