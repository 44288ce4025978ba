/- The library's functions that the statements about drawings call, in the words of this family: strings.Split at one byte, strings.TrimSuffix. -/
import Derived.Test.YtliehhnnfpkciaaGreatDoorShelf
import Derived.Test.YtliehhnnfpkciaaGreatDoorSplitLines
namespace Go.Proofs.YtliehhnnfpkciaaGreatDoor
open Go.RowKit

/-- what the library's variables hold: some number in MaxLen -/
def Tabs (w : World) : Prop := 2 < w.heap.size ∧ ∃ m, w.cell? ⟨2, 0, none⟩ = some (.int .i64 m)
theorem Tabs.below {w w' : World} (h : Tabs w) (hb : Below w.heap.size w w') : Tabs w' := by
  obtain ⟨h2, m, h3⟩ := h
  exact ⟨Nat.lt_of_lt_of_le h2 hb.size, m, (hb.cell h2).trans h3⟩
theorem split_any (k : UInt8) (s : ByteArray) (w : World) (ht : Tabs w) (hs : s.size ≤ 4000000000) : Calls Tryz.prog 27 #[.string s, .string ⟨#[k]⟩] w fun e w' =>
    ∃ LB : List ByteArray, LB.map bs = partsOf k (bs s) ∧ e = .returned (.slice (some ⟨w.heap.size, 0, none⟩) LB.length LB.length) ∧ w' = w.alloc (.cells (LB.map Value.string).toArray 9) := by
  obtain ⟨_, m, hm⟩ := ht
  refine (Tryz.strings_Split s ⟨#[k]⟩ m w (by omega) hm (by show 1 ≤ (#[k] : Array UInt8).size; simp)).mono ?_
  rintro e w' ⟨he, hw⟩
  have h1 := split_parts k s.size (bs s) (by rw [bs_length]; omega)
  have h2 : Lib.countB s ⟨#[k]⟩ = (bs s).count k := by rw [← h1.1, bs_data]
  have h3 : (Lib.splitB ⟨#[k]⟩ 0 (Lib.countB s ⟨#[k]⟩) s).map bs = partsOf k (bs s) := by
    rw [← h1.2, h2, bs_data s, show ([k] : List UInt8) = (⟨#[k]⟩ : ByteArray).data.toList from rfl, ← Lib.splitB_data ⟨#[k]⟩ 0]
    exact List.map_congr_left fun x _ => bs_data x
  have h4 : (Lib.splitB ⟨#[k]⟩ 0 (Lib.countB s ⟨#[k]⟩) s).length = Lib.countB s ⟨#[k]⟩ + 1 := by
    have := congrArg List.length h3
    rw [List.length_map, partsOf_length] at this
    omega
  exact ⟨_, h3, by rw [he, h4], hw⟩
theorem trimSuffix_any (s : ByteArray) (hs : s.size ≤ 4000000000) (w : World) : Calls Tryz.prog 28 #[.string s, .string ⟨#[10]⟩] w (Gives w (.string ⟨(Lib.trimSuffix s.data.toList [10]).toArray⟩)) :=
  (Tryz.strings_TrimSuffix s ⟨#[10]⟩ w (by omega)).mono fun e w' ⟨he, hw⟩ => ⟨he, by rw [hw]; exact Below.refl _ _⟩
theorem trim_init {s : ByteArray} {init : List UInt8} (h : bs s = init ++ [10]) : bs ⟨(Lib.trimSuffix s.data.toList [10]).toArray⟩ = init := by
  rw [bs_data, ← bs_data s, h]
  simp [Lib.trimSuffix, Lib.hasSuffix]
end Go.Proofs.YtliehhnnfpkciaaGreatDoor
