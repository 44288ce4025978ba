/- How large a house is: loftblockref21.Small and loftblockref30.Small. -/
import Derived.Test.YtcdkhlndohokcaaGreatDoorSpecSet
namespace Go.Proofs.YtcdkhlndohokcaaGreatDoor
open Go.RowKit

def shortName (n : ByteArray) : Bool := decide (n.size ≤ 60)
def setSmallHead (s : SetD) (most : Int) : Bool := decide (s.name.size ≤ 60) && decide (s.lines.l.length ≤ 12) && !(decide (most < (s.items.l.length : Int)) && decide (s.items.l.length ≤ 40)) && decide (s.items.l.length ≤ 45) && decide (s.bricks.l.length ≤ 10)
def setSmall (s : SetD) (most : Int) : Bool := setSmallHead s most && allIdx (fun _ (x : ItemD) => shortName x.name) s.items.l && allIdx (fun _ (x : BrickD) => shortName x.name) s.bricks.l
def houseSmallHead (h : HouseD) (most : Int) : Bool := decide ((h.sets.l.length : Int) ≤ most) && decide ((h.roofs.l.length : Int) ≤ most + 10) && decide (h.name.size ≤ 60)
def houseSmall (h : HouseD) (most : Int) : Bool := houseSmallHead h most && allIdx (fun _ s => setSmall s 8) h.sets.l && allIdx (fun _ (r : RoofD) => shortName r.name) h.roofs.l
theorem setSmall_head {s : SetD} {m : Int} (h : setSmallHead s m = false) : setSmall s m = false := by rw [setSmall, h]; rfl
theorem setSmall_items {s : SetD} {m : Int} {k : Nat} {x : ItemD} (hx : s.items.l[k]? = some x) (h : shortName x.name = false) : setSmall s m = false := by rw [setSmall, allIdx_no hx h, Bool.and_false, Bool.false_and]
theorem setSmall_bricks {s : SetD} {m : Int} {k : Nat} {x : BrickD} (hx : s.bricks.l[k]? = some x) (h : shortName x.name = false) : setSmall s m = false := by rw [setSmall, allIdx_no hx h, Bool.and_false]
theorem setSmall_yes {s : SetD} {m : Int} {k k' : Nat} (h : setSmallHead s m = true) (hk : s.items.l.length ≤ k) (hu : UpTo (fun _ (x : ItemD) => shortName x.name) s.items.l k) (hk' : s.bricks.l.length ≤ k') (hu' : UpTo (fun _ (x : BrickD) => shortName x.name) s.bricks.l k') : setSmall s m = true := by rw [setSmall, h, hu.all hk, hu'.all hk']; rfl
theorem houseSmall_head {s : HouseD} {m : Int} (h : houseSmallHead s m = false) : houseSmall s m = false := by rw [houseSmall, h]; rfl
theorem houseSmall_sets {s : HouseD} {m : Int} {k : Nat} {x : SetD} (hx : s.sets.l[k]? = some x) (h : setSmall x 8 = false) : houseSmall s m = false := by rw [houseSmall, allIdx_no hx h, Bool.and_false, Bool.false_and]
theorem houseSmall_roofs {s : HouseD} {m : Int} {k : Nat} {x : RoofD} (hx : s.roofs.l[k]? = some x) (h : shortName x.name = false) : houseSmall s m = false := by rw [houseSmall, allIdx_no hx h, Bool.and_false]
theorem houseSmall_yes {s : HouseD} {m : Int} {k k' : Nat} (h : houseSmallHead s m = true) (hk : s.sets.l.length ≤ k) (hu : UpTo (fun _ s => setSmall s 8) s.sets.l k) (hk' : s.roofs.l.length ≤ k') (hu' : UpTo (fun _ (x : RoofD) => shortName x.name) s.roofs.l k') : houseSmall s m = true := by rw [houseSmall, h, hu.all hk, hu'.all hk']; rfl
theorem setSmallHead_iff {s : SetD} {m : Int} : setSmallHead s m = true ↔ (s.name.size : Int) ≤ 60 ∧ (s.lines.l.length : Int) ≤ 12 ∧ ((s.items.l.length : Int) ≤ m ∨ 40 < (s.items.l.length : Int)) ∧ (s.items.l.length : Int) ≤ 45 ∧ (s.bricks.l.length : Int) ≤ 10 := by
  simp only [setSmallHead, Bool.and_eq_true, decide_eq_true_eq, Bool.not_eq_true', Bool.and_eq_false_iff, decide_eq_false_iff_not]
  omega
theorem houseSmallHead_iff {s : HouseD} {m : Int} : houseSmallHead s m = true ↔ (s.sets.l.length : Int) ≤ m ∧ (s.roofs.l.length : Int) ≤ m + 10 ∧ (s.name.size : Int) ≤ 60 := by
  simp only [houseSmallHead, Bool.and_eq_true, decide_eq_true_eq]
  omega
theorem shortName_no {n : ByteArray} (h : 60 < (n.size : Int)) : shortName n = false := decide_eq_false (by omega)
theorem shortName_yes {n : ByteArray} (h : (n.size : Int) ≤ 60) : shortName n = true := decide_eq_true (by omega)

set_option maxHeartbeats 2000000 in
theorem refSetSmall_any (s : SetD) (m : Int) (w : World) (B : Nat) (hB : B ≤ w.heap.size) (hat : SetD.at_ w B s) :
    Calls Tryz.prog 5 #[.agg #[.string s.name, .int .i64 s.depth, .int .i64 s.low, .int .i64 s.high, .int .i64 s.length, .slice s.lines.A s.lines.l.length s.lines.cap, .int .i64 s.pipe, .int .i64 s.arbor, .int .i64 s.purchase, .int .i64 s.most, .int .i64 s.brake, .slice s.items.A s.items.l.length s.items.cap, .slice s.bricks.A s.bricks.l.length s.bricks.cap], .int .i64 m] w (Gives w (.bool (setSmall s m))) := by
  obtain ⟨W, hW, hWs, hWb, hWh⟩ := boxed w (.cells #[.string s.name, .int .i64 s.depth, .int .i64 s.low, .int .i64 s.high, .int .i64 s.length, .slice s.lines.A s.lines.l.length s.lines.cap, .int .i64 s.pipe, .int .i64 s.arbor, .int .i64 s.purchase, .int .i64 s.most, .int .i64 s.brake, .slice s.items.A s.items.l.length s.items.cap, .slice s.bricks.A s.bricks.l.length s.bricks.cap] 26)
  have hc := fun y : After W.heap.size W => SetD.boxed hWh (by omega) y
  have hbd : ∀ y : After W.heap.size W, Below w.heap.size w y.val := fun y => hWb.trans (y.below.mono (by omega))
  have hi : SlAt W W.heap.size 7 ItemD.cells s.items := hat.items.to (hWb.mono hB) (by omega)
  have hbr : SlAt W W.heap.size 3 BrickD.cells s.bricks := hat.bricks.to (hWb.mono hB) (by omega)
  have hlc : s.items.l.length ≤ s.items.cap := hat.items.1
  have hm : s.items.cap ≤ 9223372036854775807 := hat.items.2.1
  have hlc' : s.bricks.l.length ≤ s.bricks.cap := hat.bricks.1
  have hm' : s.bricks.cap ≤ 9223372036854775807 := hat.bricks.2.1
  have HI := hide hi
  have HBR := hide hbr
  have HW := hide hW
  have HBD := hide hbd
  have HWb := hide hWb
  clear hW hWs hWh hWb hbd hat hi hbr
  cases hh : setSmallHead s m
  · have HNO := hide (setSmall_head hh)
    go_enter Tryz.func5, Tryz.ntmps5
    go_wp2
    all_goals first
      | (go_ret; rw [← HW.out]; exact Gives.mk (congrArg Value.bool HNO.out.symm) HWb.out)
      | exact absurd ((setSmallHead_iff (s := s) (m := m)).2 (by omega)) (by simp [hh])
  · obtain ⟨h1, h2, h3, h4, h5⟩ := setSmallHead_iff.1 hh
    have HYES := hide (fun (k k' : Nat) (hk : s.items.l.length ≤ k) hu (hk' : s.bricks.l.length ≤ k') hu' => setSmall_yes hh hk hu hk' hu')
    have HNOI := hide (fun (k : Nat) (x : ItemD) hx h => setSmall_items (s := s) (m := m) (k := k) (x := x) hx h)
    have HNOB := hide (fun (k : Nat) (x : BrickD) hx h => setSmall_bricks (s := s) (m := m) (k := k) (x := x) hx h)
    clear hh
    obtain ⟨r, hr⟩ : ∃ r, r = setSmall s m := ⟨_, rfl⟩
    rw [← hr] at HYES HNOI HNOB ⊢
    clear hr
    obtain ⟨name, depth, low, high, length, lines, pipe, arbor, purchase, most, brake, ⟨A, cap, l⟩, ⟨A', cap', l'⟩⟩ := s
    simp only at *
    have h3' : (l.length : Int) ≤ m ∨ (m < (l.length : Int) ∧ 40 < (l.length : Int)) := by omega
    clear h3
    go_enter Tryz.func5, Tryz.ntmps5
    rcases h3' with h3 | ⟨h3, h3'⟩
    all_goals
      go_wp2
      rw [← HW.out]
      go_loopw [5] (fun v wr => ∃ k : Nat, v = .int .i64 k ∧ k ≤ l.length ∧ Hid (UpTo (fun _ (x : ItemD) => shortName x.name) l k) ∧ ∃ x : After W.heap.size W, wr = x.val) (fun v _ => l.length - (intOf v).toNat)
      case atStart => exact ⟨0, rfl, Nat.zero_le _, UpTo.zero _ _, After.refl _ _, rfl⟩
      case round =>
        obtain ⟨k, rfl, hk, hall, x, rfl⟩ := hrel
        by_cases hlt : k < l.length
        · obtain ⟨b, off, hA, hb, hcell⟩ := HI.out.2.2 (show 0 < l.length by omega)
          simp only at hA
          subst hA
          have hx : l[k]? = some l[k] := List.getElem?_eq_getElem hlt
          have he := fun x : After W.heap.size W => (ItemD.elem hx hb hcell x).1
          have HX := hide hx
          clear hcell hx
          go_wp2
          · go_ret
            exact Gives.mk (congrArg Value.bool (HNOI.out k l[k] HX.out (shortName_no ‹_›)).symm) (HBD.out _)
          · exact ⟨⟨k + 1, by go_num, by omega, hall.out.next HX.out (shortName_yes ‹_›), _, rfl⟩, by simp [intOf]; omega⟩
        · go_wp2
          have HALL := hide (show l.length ≤ k by omega)
          clear hk hlt
          go_loopw [6] (fun v wr => ∃ k : Nat, v = .int .i64 k ∧ k ≤ l'.length ∧ Hid (UpTo (fun _ (x : BrickD) => shortName x.name) l' k) ∧ ∃ x : After W.heap.size W, wr = x.val) (fun v _ => l'.length - (intOf v).toNat)
          case atStart => exact ⟨0, rfl, Nat.zero_le _, UpTo.zero _ _, _, rfl⟩
          case round =>
            obtain ⟨k', rfl, hk', hall', x, rfl⟩ := hrel
            by_cases hlt' : k' < l'.length
            · obtain ⟨b, off, hA, hb, hcell⟩ := HBR.out.2.2 (show 0 < l'.length by omega)
              simp only at hA
              subst hA
              have hx : l'[k']? = some l'[k'] := List.getElem?_eq_getElem hlt'
              have he := fun x : After W.heap.size W => (BrickD.elem hx hb hcell x).1
              have HX := hide hx
              clear hcell hx
              go_wp2
              · go_ret
                exact Gives.mk (congrArg Value.bool (HNOB.out k' l'[k'] HX.out (shortName_no ‹_›)).symm) (HBD.out _)
              · exact ⟨⟨k' + 1, by go_num, by omega, hall'.out.next HX.out (shortName_yes ‹_›), _, rfl⟩, by simp [intOf]; omega⟩
            · go_wp2
              go_ret
              exact Gives.mk (congrArg Value.bool (HYES.out k k' HALL.out hall.out (show l'.length ≤ k' by omega) hall'.out).symm) (HBD.out _)
end Go.Proofs.YtcdkhlndohokcaaGreatDoor
