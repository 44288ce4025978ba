/- batten.bricks. -/
import Derived.Test.YtcdkhlndohokcaaGreatDoorBattenItems
import Derived.Test.YtcdkhlndohokcaaGreatDoorRefSet
namespace Go.Proofs.YtcdkhlndohokcaaGreatDoor
open Go.RowKit

def brickNames (l : List BrickD) : Bool := allIdx (fun i x => !(l.take i).any (fun y => sameName y.name x.name)) l
theorem bricksOk_dup {l : List BrickD} (h : brickNames l = false) : bricksOk l = false := by
  cases ha : bricksOk l with
  | false => rfl
  | true =>
    rw [bricksOk, Bool.and_eq_true, Bool.and_eq_true] at ha
    rw [brickNames, Bool.eq_false_iff] at h
    refine absurd (allIdx_iff.2 fun j y hy => ?_) h
    have h1 := allIdx_iff.1 ha.1.2 j y hy
    rw [brickAt, Bool.and_eq_true] at h1
    exact h1.2
theorem brickNames_at {l : List BrickD} {k : Nat} {x : BrickD} (hn : brickNames l = true) (hx : l[k]? = some x) (hf : brickFine x = true) : brickAt l k x = true := by
  rw [brickAt, hf, Bool.true_and]
  exact allIdx_iff.1 hn k x hx

set_option maxHeartbeats 2000000 in
theorem bricks_any (A : Option Addr) (cap : Nat) (l : List BrickD) (hok : ∀ r ∈ l, r.ok) (w : World) (B : Nat) (hB : B ≤ w.heap.size) (hs : SlAt w B 3 BrickD.cells ⟨A, cap, l⟩) :
    Calls Tryz.prog 61 #[.slice A l.length cap] w (Gives w (.bool (bricksOk l))) := by
  have hm : cap ≤ 9223372036854775807 := hs.2.1
  have hlc : l.length ≤ cap := hs.1
  have htw := twiceBrick_any A cap l hok w B hB hs
  have hdl := distinct_lt l (fun x : BrickD => x.name)
  rw [show allIdx (fun i x => !(l.take i).any (fun y : BrickD => sameName y.name x.name)) l = brickNames l from rfl] at hdl
  rw [hdl] at htw
  have HTW := hide htw
  have HS := hide hs
  have HOK := hide hok
  clear hs hok hdl htw
  by_cases hlen : 8 < (l.length : Int)
  · have HNO := hide (bricksOk_long (l := l) hlen)
    go_enter Tryz.func61, Tryz.ntmps61
    go_wp2
    go_ret
    exact Gives.mk (congrArg Value.bool HNO.out.symm) (Below.refl _ _)
  · cases hdup : brickNames l
    · have HNO := hide (bricksOk_dup hdup)
      go_enter Tryz.func61, Tryz.ntmps61
      go_wp2_with (go_at_call 83; refine (Gives.first HTW.out).mono ?_; rintro e w' ⟨rfl, x, rfl⟩)
      go_ret
      exact Gives.mk (congrArg Value.bool HNO.out.symm) (After.below _)
    · go_enter Tryz.func61, Tryz.ntmps61
      go_wp2_with (go_at_call 83; refine (Gives.first HTW.out).mono ?_; rintro e w' ⟨rfl, x, rfl⟩)
      go_loopw [3, 15] (fun s v wr => ∃ k : Nat, v = .int .i64 k ∧ k ≤ l.length ∧ s = .int .i64 (counts (l.take k)) ∧ 0 ≤ counts (l.take k) ∧ counts (l.take k) ≤ 60 * k ∧ Hid (UpTo (brickAt l) l k) ∧ ∃ x : After w.heap.size w, wr = x.val) (fun _ v _ => l.length - (intOf v).toNat)
      case atStart => exact ⟨0, rfl, Nat.zero_le _, rfl, by simp [counts], by simp [counts], UpTo.zero _ _, _, rfl⟩
      case round =>
        obtain ⟨k, rfl, hk, rfl, hs0, hs1, hall, x, rfl⟩ := hrel
        by_cases hlt : k < l.length
        · obtain ⟨b, off, hA, hb, hcell⟩ := HS.out.2.2 (show 0 < l.length by omega)
          simp only at hA
          subst hA
          have hx : l[k]? = some l[k] := List.getElem?_eq_getElem hlt
          have hnm := (HOK.out l[k] (List.getElem_mem hlt)).name
          have he := fun x : After w.heap.size w => BrickD.elem hx (show b < w.heap.size by omega) hcell x
          have hcn := counts_next hx
          have HX := hide hx
          have HCN := hide hcn
          clear hcell hx hcn
          obtain ⟨W, hW, hWs, hWb, hWh⟩ := boxed x.val (.cells #[.string l[k].name, .int .i64 l[k].weight, .int .i64 l[k].count] 65)
          have hc := fun y : After W.heap.size W => BrickD.boxed hWh (by omega) y
          have hbd : ∀ y : After W.heap.size W, Below w.heap.size w y.val := fun y => x.below.trans ((hWb.mono x.size).trans (y.below.mono (by have := x.size; omega)))
          have HW := hide hW
          have HBD := hide hbd
          clear hW hWs hWh hbd
          cases hf : brickFine l[k]
          · go_wp2_with (first
              | (go_at_call 57; rw [← HW.out]; refine (Gives.first (isName_any _ _ hnm)).mono ?_; rintro e w' ⟨rfl, y, rfl⟩)
              | (go_at_call 58; refine (Gives.after (Nat.le_refl _) (betweenBatten_any _ _ _ _)).mono ?_; rintro e w' ⟨rfl, y, rfl⟩))
            all_goals first
              | (go_ret; exact Gives.mk (congrArg Value.bool (bricksOk_no HX.out (by rw [brickAt, hf]; rfl)).symm) (HBD.out _))
              | exact absurd (brickFine_iff.2 ⟨‹_›, ‹_›, (by simp_all)⟩) (by simp [hf])
          · obtain ⟨h1, h2, h3⟩ := brickFine_iff.1 hf
            obtain ⟨h4, h5⟩ := betweenB_iff.1 h3
            go_wp2_with (first
              | (go_at_call 57; rw [← HW.out]; refine (Gives.first (isName_any _ _ hnm)).mono ?_; rintro e w' ⟨rfl, y, rfl⟩)
              | (go_at_call 58; refine (Gives.after (Nat.le_refl _) (betweenBatten_any _ _ _ _)).mono ?_; rintro e w' ⟨rfl, y, rfl⟩))
            exact ⟨⟨k + 1, by go_num, by omega, by rw [HCN.out], by rw [HCN.out]; omega, by rw [HCN.out]; omega, hall.out.next HX.out (brickNames_at hdup HX.out hf), ⟨_, HBD.out _⟩, rfl⟩, by simp [intOf]; omega⟩
        · go_wp2
          go_ret
          exact Gives.mk (congrArg Value.bool (bricksOk_end (by omega) (by omega) hall.out)) x.below

end Go.Proofs.YtcdkhlndohokcaaGreatDoor
