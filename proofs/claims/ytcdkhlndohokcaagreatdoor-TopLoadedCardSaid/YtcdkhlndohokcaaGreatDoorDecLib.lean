/- The library's functions that the decimals call, in the words of this family: what each returns, and that the world is as it was below the call's own blocks. -/
import Derived.Test.YtcdkhlndohokcaaGreatDoorShelf
import Derived.Test.YtcdkhlndohokcaaGreatDoorBase
import Derived.Lib.AppendIntMem
namespace Go.Proofs.YtcdkhlndohokcaaGreatDoor
open Go.RowKit

/-- what the library's variables hold: the powers of ten, and some number in MaxLen -/
def Tabs (w : World) : Prop := Lib.TabIs Tryz.prog w "internal/strconv.uint64pow10" .u64 Lib.pow10Tab ∧ 0 < w.heap.size ∧ ∃ m, w.cell? ⟨0, 0, none⟩ = some (.int .i64 m)
theorem Tabs.below {w w' : World} (h : Tabs w) (hb : Below w.heap.size w w') : Tabs w' := by
  obtain ⟨h1, h2, m, h3⟩ := h
  exact ⟨Lib.tabBelow_of_tabIs h1 w' hb, Nat.lt_of_lt_of_le h2 hb.size, m, (hb.cell h2).trans h3⟩

theorem below_drewN (w : World) (n : Nat) : Below w.heap.size w (w.drewN n) := ⟨rfl, rfl, rfl, Nat.le_refl _, fun _ _ => rfl⟩
theorem itoa_any (n : Int) (h : I64 n) (w : World) (ht : Tabs w) : Calls Tryz.prog 71 #[.int .i64 n] w (Gives w (.string ⟨(Lib.itoa n).toArray⟩)) :=
  (Tryz.strconv_Itoa n h.1 h.2 w ht.1).mono fun e w' ⟨he, k, os, hw⟩ => ⟨he, by rw [hw]; exact Lib.below_grow _ w (Nat.le_refl _) k os⟩
theorem hasPrefix_any (s p : ByteArray) (w : World) : Calls Tryz.prog 17 #[.string s, .string p] w (Gives w (.bool (Lib.hasPrefix s.data.toList p.data.toList))) :=
  (Tryz.strings_HasPrefix s p w).mono fun e w' ⟨he, hw⟩ => ⟨he, by rw [hw]; exact Below.refl _ _⟩
end Go.Proofs.YtcdkhlndohokcaaGreatDoor
