/- loftblockref21.Bricks. -/
import Derived.Test.YtnjbfhfjdhfdlaaGreatDoorSpecSet
namespace Go.Proofs.YtnjbfhfjdhfdlaaGreatDoor
open Go.RowKit

theorem counts_next {l : List BrickD} {k : Nat} {b : BrickD} (h : l[k]? = some b) : counts (l.take (k + 1)) = counts (l.take k) + b.count := by
  rw [List.take_add_one, h]
  simp [counts, List.sum_append]
theorem counts_all (l : List BrickD) : counts (l.take l.length) = counts l := by rw [List.take_length]
theorem brickFine_iff {b : BrickD} : brickFine b = true ↔ isName b.name = true ∧ betweenB b.weight 1 1048576 = true ∧ betweenB b.count 0 60 = true := by
  simp [brickFine, and_assoc]
theorem brick_none {l : List BrickD} {nm : ByteArray} {k : Nat} (h : ∀ j (y : BrickD), j < k → l[j]? = some y → sameName y.name nm = false) : (l.take k).any (fun x => sameName x.name nm) = false :=
  UpTo.any_false (q := fun x : BrickD => sameName x.name nm) (fun j y hj hy => by simp [h j y hj hy])
theorem bricksOk_no {l : List BrickD} {k : Nat} {y : BrickD} (hy : l[k]? = some y) (h : brickAt l k y = false) : bricksOk l = false := by rw [bricksOk, allIdx_no hy h, Bool.and_false, Bool.false_and]
theorem bricksOk_long {l : List BrickD} (h : 8 < (l.length : Int)) : bricksOk l = false := by rw [bricksOk, decide_eq_false (by omega)]; rfl
theorem bricksOk_end {l : List BrickD} {k : Nat} (h : (l.length : Int) ≤ 8) (hk : k = l.length) (hu : UpTo (brickAt l) l k) : decide (counts (l.take k) ≤ 60) = bricksOk l := by
  subst hk
  rw [bricksOk, decide_eq_true (show l.length ≤ 8 by omega), hu.all (Nat.le_refl _), counts_all]; rfl

set_option maxHeartbeats 2000000 in
theorem refBricks_any (A : Option Addr) (cap : Nat) (l : List BrickD) (hok : ∀ r ∈ l, r.ok) (w : World) (B : Nat) (hB : B ≤ w.heap.size) (hs : SlAt w B 3 BrickD.cells ⟨A, cap, l⟩) :
    Calls Tryz.prog 100 #[.slice A l.length cap] w (Gives w (.bool (bricksOk l))) := by
  have hm : cap ≤ 9223372036854775807 := hs.2.1
  have hlc : l.length ≤ cap := hs.1
  have HS := hide hs
  have HOK := hide hok
  clear hs hok
  by_cases hlen : 8 < (l.length : Int)
  · go_enter Tryz.func100, Tryz.ntmps100
    go_wp2
    go_ret
    exact Gives.mk (congrArg Value.bool (bricksOk_long hlen).symm) (Below.refl _ _)
  · go_enter Tryz.func100, Tryz.ntmps100
    go_wp2
    go_loopw [3, 4] (fun s v wr => ∃ k : Nat, v = .int .i64 k ∧ k ≤ l.length ∧ s = .int .i64 (counts (l.take k)) ∧ 0 ≤ counts (l.take k) ∧ counts (l.take k) ≤ 60 * k ∧ Hid (UpTo (brickAt l) l k) ∧ ∃ x : After w.heap.size w, wr = x.val) (fun _ v _ => l.length - (intOf v).toNat)
    case atStart => exact ⟨0, rfl, Nat.zero_le _, rfl, by simp [counts], by simp [counts], UpTo.zero _ _, After.refl _ _, rfl⟩
    case round =>
      obtain ⟨k, rfl, hk, rfl, hs0, hs1, hall, x, rfl⟩ := hrel
      by_cases hlt : k < l.length
      · obtain ⟨b, off, hA, hb, hcell⟩ := HS.out.2.2 (show 0 < l.length by omega)
        simp only at hA
        subst hA
        have hx : l[k]? = some l[k] := List.getElem?_eq_getElem hlt
        have hnk := (HOK.out l[k] (List.getElem_mem hlt)).name
        have he := fun x : After w.heap.size w => BrickD.elem hx (show b < w.heap.size by omega) hcell x
        have hin : (k : Int) < (l.length : Int) := by omega
        have hi0 : (0 : Int) ≤ (k : Int) := by omega
        have hcn := counts_next hx
        have HX := hide hx
        have HC := hide hcell
        have HCN := hide hcn
        clear hcell hx hcn
        cases hf : brickFine l[k]
        · go_wp2_with (first
            | (go_at_call 39; refine (Gives.after (Nat.le_refl _) (refIsName_any _ _ hnk)).mono ?_; rintro e w' ⟨rfl, y, rfl⟩)
            | (go_at_call 98; refine (Gives.after (Nat.le_refl _) (between21_any _ _ _ _)).mono ?_; rintro e w' ⟨rfl, y, rfl⟩))
          all_goals first
            | (go_ret; exact Gives.mk (congrArg Value.bool (bricksOk_no HX.out (by rw [brickAt, hf]; rfl)).symm) (After.below _))
            | exact absurd (brickFine_iff.2 ⟨‹_›, ‹_›, (by simp_all)⟩) (by simp [hf])
        · obtain ⟨h1, h2, h3⟩ := brickFine_iff.1 hf
          obtain ⟨h4, h5⟩ := betweenB_iff.1 h3
          go_wp2_with (first
            | (go_at_call 39; refine (Gives.after (Nat.le_refl _) (refIsName_any _ _ hnk)).mono ?_; rintro e w' ⟨rfl, y, rfl⟩)
            | (go_at_call 98; refine (Gives.after (Nat.le_refl _) (between21_any _ _ _ _)).mono ?_; rintro e w' ⟨rfl, y, rfl⟩))
          go_loopw [5] (fun v wr => ∃ i : Nat, v = .int .i64 i ∧ i ≤ k ∧ Hid (∀ j (y : BrickD), j < i → l[j]? = some y → sameName y.name l[k].name = false) ∧ ∃ z : After w.heap.size w, wr = z.val) (fun v _ => k - (intOf v).toNat)
          case atStart => exact ⟨0, rfl, Nat.zero_le _, fun j y hj => absurd hj (by omega), _, rfl⟩
          case round =>
            obtain ⟨i, rfl, hi, hno, z, rfl⟩ := hrel
            by_cases hik : i < k
            · have hxi : l[i]? = some l[i] := List.getElem?_eq_getElem (by omega)
              have hei := fun z : After w.heap.size w => (BrickD.elem hxi (show b < w.heap.size by omega) HC.out z).1
              have HXI := hide hxi
              have hin2 : (i : Int) < (l.length : Int) := by omega
              have hi02 : (0 : Int) ≤ (i : Int) := by omega
              clear hxi
              cases hp : (l[i].name.toList == l[k].name.toList)
              all_goals
                go_wp2
                refine wp_region_after z (by kernel_rfl) (by kernel_rfl) ?_
                repeat (go_big_quiet_step (fail))
                refine wpQuiet_nil ?_
                intro z
                go_wp2
              · exact ⟨⟨i + 1, by go_num, by omega, none_next hno.out HXI.out hp, _, rfl⟩, by simp [intOf]; omega⟩
              · go_ret
                exact Gives.mk (congrArg Value.bool (bricksOk_no HX.out (by rw [brickAt, hf, any_take_true (q := fun r : BrickD => sameName r.name l[k].name) hik HXI.out hp]; rfl)).symm) (After.below _)
            · go_wp2
              have hd := brick_none (k := k) (fun j y hj hy => hno.out j y (by omega) hy)
              exact ⟨⟨k + 1, by go_num, by omega, by rw [HCN.out], by rw [HCN.out]; omega, by rw [HCN.out]; omega, hall.out.next HX.out (by rw [brickAt, hf, hd]; rfl), _, rfl⟩, by simp [intOf]; omega⟩
      · go_wp2
        go_ret
        exact Gives.mk (congrArg Value.bool (bricksOk_end (by omega) (by omega) hall.out)) (After.below _)
end Go.Proofs.YtnjbfhfjdhfdlaaGreatDoor
