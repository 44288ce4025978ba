/- loftblockref19.Valid. -/
import Derived.Test.YtnjbfhfjdhfdlaaGreatDoorGrid
namespace Go.Proofs.YtnjbfhfjdhfdlaaGreatDoor
open Go.RowKit

theorem names_differ {l : List RoofD} {k : Nat} {nm : ByteArray} (h : ∀ j (y : RoofD), j < k → l[j]? = some y → sameName y.name nm = false) : (l.take k).any (fun r => sameName r.name nm) = false :=
  UpTo.any_false (q := fun r : RoofD => sameName r.name nm) (fun j y hj hy => by simp [h j y hj hy])
set_option maxHeartbeats 1000000 in
theorem ref19Valid_any (A : Option Addr) (cap : Nat) (l : List RoofD) (hok : ∀ r ∈ l, r.ok) (w : World) (B : Nat) (hB : B ≤ w.heap.size) (hs : SlAt w B 4 RoofD.cells ⟨A, cap, l⟩) :
    Calls Tryz.prog 58 #[.slice A l.length cap] w (Gives w (.bool (roofsOk l))) := by
  have hm : cap ≤ 9223372036854775807 := hs.2.1
  have hlc : l.length ≤ cap := hs.1
  have HS := hide hs
  have HOK := hide hok
  clear hs hok
  go_enter Tryz.func58, Tryz.ntmps58
  by_cases hlen : 20 < (l.length : Int)
  · go_wp2
    go_ret
    exact Gives.mk (congrArg Value.bool (roofsOk_long hlen).symm) (Below.refl _ _)
  · go_wp2
    go_loopw [3] (fun v wr => ∃ k : Nat, v = .int .i64 k ∧ k ≤ l.length ∧ Hid (UpTo (roofAt l) l k) ∧ ∃ x : After w.heap.size w, wr = x.val) (fun v _ => l.length - (intOf v).toNat)
    case atStart => exact ⟨0, rfl, Nat.zero_le _, UpTo.zero _ _, After.refl _ _, rfl⟩
    case round =>
      obtain ⟨k, rfl, hk, hall, x, rfl⟩ := hrel
      by_cases hlt : k < l.length
      · obtain ⟨b, off, hA, hb, hcell⟩ := HS.out.2.2 (show 0 < l.length by omega)
        simp only at hA
        subst hA
        have hx : l[k]? = some l[k] := List.getElem?_eq_getElem hlt
        have hnm := (HOK.out l[k] (List.getElem_mem hlt)).name
        have he := fun x : After w.heap.size w => RoofD.elem hx (show b < w.heap.size by omega) hcell x
        have HX := hide hx
        have HC := hide hcell
        clear hcell hx
        obtain ⟨W, hW, hWs, hWb, hWh⟩ := boxed x.val (.cells #[.string l[k].name, .int .i64 l[k].fro, .int .i64 l[k].til, .int .i64 l[k].most] 73)
        have hc := fun y : After W.heap.size W => RoofD.boxed hWh (by omega) y
        have hbd : ∀ y : After W.heap.size W, Below w.heap.size w y.val := fun y => x.below.trans ((hWb.mono x.size).trans (y.below.mono (by have := x.size; omega)))
        have HW := hide hW
        have HBD := hide hbd
        clear hW hWs hWh hbd
        cases hf : roofFine l[k]
        · go_wp2_with (first
            | (go_at_call 39; rw [← HW.out]; refine (Gives.first (refIsName_any _ _ hnm)).mono ?_; rintro e w' ⟨rfl, y, rfl⟩)
            | (go_at_call 97; refine (Gives.after (Nat.le_refl _) (between19_any _ _ _ _)).mono ?_; rintro e w' ⟨rfl, y, rfl⟩))
          all_goals first
            | (go_ret; exact Gives.mk (congrArg Value.bool (roofsOk_no HX.out (by simp [roofAt, hf])).symm) (HBD.out _))
            | exact absurd (roofFine_iff'.2 ⟨‹_›, ‹_›, ‹_›, (by simp_all)⟩) (by simp [hf])
        · obtain ⟨h1, h2, h3, h4⟩ := roofFine_iff'.1 hf
          go_wp2_with (first
            | (go_at_call 39; rw [← HW.out]; refine (Gives.first (refIsName_any _ _ hnm)).mono ?_; rintro e w' ⟨rfl, y, rfl⟩)
            | (go_at_call 97; refine (Gives.after (Nat.le_refl _) (between19_any _ _ _ _)).mono ?_; rintro e w' ⟨rfl, y, rfl⟩))
          go_loopw [5] (fun v wr => ∃ i : Nat, v = .int .i64 i ∧ i ≤ k ∧ Hid (∀ j (y : RoofD), j < i → l[j]? = some y → sameName y.name l[k].name = false) ∧ ∃ z : After W.heap.size W, wr = z.val) (fun v _ => k - (intOf v).toNat)
          case atStart => exact ⟨0, rfl, Nat.zero_le _, fun j y hj => absurd hj (by omega), _, rfl⟩
          case round =>
            obtain ⟨i, rfl, hi, hno, z, rfl⟩ := hrel
            by_cases hik : i < k
            · have hxi : l[i]? = some l[i] := List.getElem?_eq_getElem (by omega)
              have hei : ∀ z : After W.heap.size W, z.val.cell? ⟨b, off + i * 4, none⟩ = some (.string l[i].name) := fun z => (RoofD.elem hxi (show b < w.heap.size by omega) HC.out ⟨z.val, HBD.out z⟩).1
              have HXI := hide hxi
              have hin : (i : Int) < (l.length : Int) := by omega
              have hi0 : (0 : Int) ≤ (i : Int) := by omega
              clear hxi
              cases hp : (l[i].name.toList == l[k].name.toList)
              · go_wp2
                refine wp_region_after z (by kernel_rfl) (by kernel_rfl) ?_
                repeat (go_big_quiet_step (fail))
                refine wpQuiet_nil ?_
                intro z
                go_wp2
                exact ⟨⟨i + 1, by go_num, by omega, none_next hno.out HXI.out hp, _, rfl⟩, by simp [intOf]; omega⟩
              · go_wp2
                refine wp_region_after z (by kernel_rfl) (by kernel_rfl) ?_
                repeat (go_big_quiet_step (fail))
                refine wpQuiet_nil ?_
                intro z
                go_wp2
                go_ret
                exact Gives.mk (congrArg Value.bool (roofsOk_no HX.out (by rw [roofAt, hf, any_take_true (q := fun r : RoofD => sameName r.name l[k].name) hik HXI.out hp]; rfl)).symm) (HBD.out _)
            · go_wp2
              have hd := names_differ (k := k) (fun j y hj hy => hno.out j y (by omega) hy)
              exact ⟨⟨k + 1, by go_num, by omega, hall.out.next HX.out (by rw [roofAt, hf, hd]; rfl), ⟨_, HBD.out _⟩, rfl⟩, by simp [intOf]; omega⟩
      · go_wp2
        go_ret
        exact Gives.mk (congrArg Value.bool (roofsOk_yes (by omega) (by have : k = l.length := by omega
                                                                        subst this; exact hall.out)).symm) x.below
end Go.Proofs.YtnjbfhfjdhfdlaaGreatDoor
