/- batten.items. -/
import Derived.Test.YtcdkhlndohokcaaGreatDoorTwice
import Derived.Test.YtcdkhlndohokcaaGreatDoorRefItems
namespace Go.Proofs.YtcdkhlndohokcaaGreatDoor
open Go.RowKit

theorem apartB_comm (x y : ItemD) : apartB x y = apartB y x := by unfold apartB; rw [Bool.or_comm]
def itemNames (l : List ItemD) : Bool := allIdx (fun i x => !(l.take i).any (fun y => sameName y.name x.name)) l
theorem itemsOk_dup {l : List ItemD} {len : Int} (h : itemNames l = false) : itemsOk l len = false := by
  cases ha : itemsOk l len with
  | false => rfl
  | true =>
    rw [itemsOk, Bool.and_eq_true] at ha
    rw [itemNames, Bool.eq_false_iff] at h
    refine absurd (allIdx_iff.2 fun j y hy => ?_) h
    have h1 := allIdx_iff.1 ha.2 j y hy
    rw [itemAt, Bool.and_eq_true] at h1
    rw [Bool.not_eq_true', List.any_eq_false] at *
    intro z hz
    have h2 := List.any_eq_false.1 (by simpa using h1.2) z hz
    simp only [itemClash, Bool.or_eq_true, not_or] at h2
    exact h2.1
theorem any_clash {l : List ItemD} {k : Nat} {x : ItemD} (hn : itemNames l = true) (hx : l[k]? = some x) : (l.take k).any (itemClash x) = (l.take k).any (fun y => !apartB x y) := by
  have h1 := allIdx_iff.1 hn k x hx
  rw [Bool.not_eq_true', List.any_eq_false] at h1
  rw [Bool.eq_iff_iff, List.any_eq_true, List.any_eq_true]
  constructor
  · rintro ⟨y, hy, hc⟩
    refine ⟨y, hy, ?_⟩
    have h2 := h1 y hy
    rw [itemClash, Bool.or_eq_true] at hc
    rcases hc with hc | hc
    · exact absurd hc h2
    · rw [apartB_comm]; exact hc
  · rintro ⟨y, hy, hc⟩
    refine ⟨y, hy, ?_⟩
    rw [itemClash, apartB_comm, hc, Bool.or_true]
theorem mem_take {α : Type} {l : List α} {k : Nat} {e : α} (h : e ∈ l.take k) : ∃ j, j < k ∧ l[j]? = some e := by
  obtain ⟨j, hj, e1⟩ := List.getElem_of_mem h
  rw [List.length_take] at hj
  exact ⟨j, by omega, by rw [← e1, List.getElem_take, List.getElem?_eq_getElem]⟩

theorem enters_items2 : ∀ args w, (callFunc 81 args).run Tryz.prog w = .ok (.enter 81 args) w := entersOf Tryz.func81 (by kernel_rfl) rfl
set_option maxHeartbeats 1000000 in
theorem items2_any (y x : ItemD) (hy : Small2 y) (hx : Small2 x) (nb : Nat) (w : World) (hn : nb < w.heap.size) (hc : w.cell? ⟨nb, 0, none⟩ = some (.string x.name) ∧ w.cell? ⟨nb, 1, none⟩ = some (.int .i64 x.place) ∧ w.cell? ⟨nb, 2, none⟩ = some (.int .i64 x.width) ∧ w.cell? ⟨nb, 3, none⟩ = some (.int .i64 x.weight) ∧ w.cell? ⟨nb, 4, none⟩ = some (.int .i64 x.hang) ∧ w.cell? ⟨nb, 5, none⟩ = some (.int .i64 x.front) ∧ w.cell? ⟨nb, 6, none⟩ = some (.int .i64 x.back)) :
    Calls Tryz.prog 81 #[.agg #[.string y.name, .int .i64 y.place, .int .i64 y.width, .int .i64 y.weight, .int .i64 y.hang, .int .i64 y.front, .int .i64 y.back], .pointer (some ⟨nb, 0, none⟩)] w (Gives w (.bool (!apartB x y))) := by
  obtain ⟨W, hW, hWs, hWb, hWh⟩ := boxed w (.cells #[.string y.name, .int .i64 y.place, .int .i64 y.width, .int .i64 y.weight, .int .i64 y.hang, .int .i64 y.front, .int .i64 y.back] 63)
  have hk : ∀ j, W.cell? ⟨nb, j, none⟩ = w.cell? ⟨nb, j, none⟩ := fun j => hWb.cell (p := ⟨nb, j, none⟩) hn
  have hcW : W.cell? ⟨nb, 0, none⟩ = some (.string x.name) ∧ W.cell? ⟨nb, 1, none⟩ = some (.int .i64 x.place) ∧ W.cell? ⟨nb, 2, none⟩ = some (.int .i64 x.width) ∧ W.cell? ⟨nb, 3, none⟩ = some (.int .i64 x.weight) ∧ W.cell? ⟨nb, 4, none⟩ = some (.int .i64 x.hang) ∧ W.cell? ⟨nb, 5, none⟩ = some (.int .i64 x.front) ∧ W.cell? ⟨nb, 6, none⟩ = some (.int .i64 x.back) := by
    simp only [hk]; exact hc
  rw [hW] at hcW
  have HW := hide hW
  have HWb := hide hWb
  clear hW hWs hWh hk hWb hc
  go_enter Tryz.func81, Tryz.ntmps81
  go_wp2_with fail
  rw [← HW.out]
  refine (Gives.first (apart_any x y hx hy W)).mono ?_
  rintro e w' ⟨rfl, z, rfl⟩
  go_wp2
  go_ret
  exact Gives.mk rfl (HWb.out.trans (z.below.mono HWb.out.size))
set_option maxHeartbeats 2000000 in
theorem items_any (A : Option Addr) (cap : Nat) (l : List ItemD) (len : Int) (hl0 : 0 ≤ len) (hl1 : len ≤ 1048576) (hok : ∀ r ∈ l, r.ok) (w : World) (B : Nat) (hB : B ≤ w.heap.size) (hs : SlAt w B 7 ItemD.cells ⟨A, cap, l⟩) :
    Calls Tryz.prog 60 #[.slice A l.length cap, .int .i64 len] w (Gives w (.bool (itemsOk l len))) := by
  have hm : cap ≤ 9223372036854775807 := hs.2.1
  have hlc : l.length ≤ cap := hs.1
  have htw := twiceItem_any A cap l hok w B hB hs
  have hdl := distinct_lt l (fun x : ItemD => x.name)
  rw [show allIdx (fun i x => !(l.take i).any (fun y : ItemD => sameName y.name x.name)) l = itemNames l from rfl] at hdl
  rw [hdl] at htw
  have HTW := hide htw
  have HS := hide hs
  have HOK := hide hok
  clear hs hok hdl htw
  by_cases hlen : 40 < (l.length : Int)
  · have HNO := hide (itemsOk_long (l := l) (len := len) hlen)
    go_enter Tryz.func60, Tryz.ntmps60
    go_wp2
    go_ret
    exact Gives.mk (congrArg Value.bool HNO.out.symm) (Below.refl _ _)
  · cases hdup : itemNames l
    · have HNO := hide (itemsOk_dup (len := len) hdup)
      go_enter Tryz.func60, Tryz.ntmps60
      go_wp2_with (go_at_call 76; refine (Gives.first HTW.out).mono ?_; rintro e w' ⟨rfl, x, rfl⟩)
      go_ret
      exact Gives.mk (congrArg Value.bool HNO.out.symm) (After.below _)
    · go_enter Tryz.func60, Tryz.ntmps60
      go_wp2_with (go_at_call 76; refine (Gives.first HTW.out).mono ?_; rintro e w' ⟨rfl, x, rfl⟩)
      go_loopw [16] (fun v wr => ∃ k : Nat, v = .int .i64 k ∧ k ≤ l.length ∧ Hid (UpTo (itemAt l len) l k) ∧ ∃ x : After w.heap.size w, wr = x.val) (fun v _ => l.length - (intOf v).toNat)
      case atStart => exact ⟨0, rfl, Nat.zero_le _, UpTo.zero _ _, _, rfl⟩
      case round =>
        obtain ⟨k, rfl, hk, hall, x, rfl⟩ := hrel
        by_cases hlt : k < l.length
        · obtain ⟨b, off, hA, hb, hcell⟩ := HS.out.2.2 (show 0 < l.length by omega)
          simp only at hA
          subst hA
          have hx : l[k]? = some l[k] := List.getElem?_eq_getElem hlt
          have hnm := (HOK.out l[k] (List.getElem_mem hlt)).name
          have he := fun x : After w.heap.size w => ItemD.elem hx (show b < w.heap.size by omega) hcell x
          have HX := hide hx
          clear hcell hx
          obtain ⟨W, hW, hWs, hWb, hWh⟩ := boxed x.val (.cells #[.string l[k].name, .int .i64 l[k].place, .int .i64 l[k].width, .int .i64 l[k].weight, .int .i64 l[k].hang, .int .i64 l[k].front, .int .i64 l[k].back] 63)
          have hc := fun y : After W.heap.size W => ItemD.boxed hWh (by omega) y
          have hbd : ∀ y : After W.heap.size W, Below w.heap.size w y.val := fun y => x.below.trans ((hWb.mono x.size).trans (y.below.mono (by have := x.size; omega)))
          have hlt' : ∀ y : After W.heap.size W, x.val.heap.size < y.val.heap.size := fun y => by have := y.size; omega
          have hcap : ∀ y : After W.heap.size W, ∀ z : After y.val.heap.size y.val, z.val.cell? ⟨x.val.heap.size, 0, none⟩ = some (.string l[k].name) ∧ z.val.cell? ⟨x.val.heap.size, 1, none⟩ = some (.int .i64 l[k].place) ∧ z.val.cell? ⟨x.val.heap.size, 2, none⟩ = some (.int .i64 l[k].width) ∧ z.val.cell? ⟨x.val.heap.size, 3, none⟩ = some (.int .i64 l[k].weight) ∧ z.val.cell? ⟨x.val.heap.size, 4, none⟩ = some (.int .i64 l[k].hang) ∧ z.val.cell? ⟨x.val.heap.size, 5, none⟩ = some (.int .i64 l[k].front) ∧ z.val.cell? ⟨x.val.heap.size, 6, none⟩ = some (.int .i64 l[k].back) := fun y z => by
            have hk : ∀ j, z.val.cell? ⟨x.val.heap.size, j, none⟩ = y.val.cell? ⟨x.val.heap.size, j, none⟩ := fun j => z.below.cell (p := ⟨x.val.heap.size, j, none⟩) (hlt' y)
            simp only [hk]
            exact hc y
          have hsl : ∀ y : After W.heap.size W, SlAt y.val y.val.heap.size 7 ItemD.cells ⟨some ⟨b, off, none⟩, cap, l.take k⟩ := fun y => (HS.out.to ((hbd y).mono hB) (Nat.le_trans hB (hbd y).size)).take k
          have hsmall : ∀ e ∈ l.take k, Small2 e := fun e he => by
            obtain ⟨j, hj, hje⟩ := mem_take he
            have := hall.out j e hj hje
            rw [itemAt, Bool.and_eq_true] at this
            exact itemFine_small2 this.1 hl1
          have HW := hide hW
          have HCAP := hide hcap
          have HLT := hide hlt'
          have HSL := hide hsl
          have HBD := hide hbd
          have HSM := hide hsmall
          clear hW hWs hWh hcap hlt' hsl hbd hsmall
          cases hf1 : itemAlone l[k]
          · go_wp2_with (first
              | (go_at_call 78; rw [← HW.out]; refine (Gives.first (alone_any _ hnm _)).mono ?_; rintro e w' ⟨rfl, y, rfl⟩))
            go_ret
            exact Gives.mk (congrArg Value.bool (itemsOk_no HX.out (by rw [itemAt, itemFine, hf1]; rfl)).symm) (HBD.out _)
          · cases hf2 : itemInside l[k] len
            · go_wp2_with (first
                | (go_at_call 78; rw [← HW.out]; refine (Gives.first (alone_any _ hnm _)).mono ?_; rintro e w' ⟨rfl, y, rfl⟩)
                | (go_at_call 79; refine (Gives.after (Nat.le_refl _) (inside_any _ _ hl0 hl1 _)).mono ?_; rintro e w' ⟨rfl, y, rfl⟩))
              go_ret
              exact Gives.mk (congrArg Value.bool (itemsOk_no HX.out (by rw [itemAt, itemFine, hf1, hf2]; rfl)).symm) (HBD.out _)
            · have hsk : Small2 l[k] := itemFine_small2 (show itemFine l[k] len = true by rw [itemFine, hf1, hf2]; rfl) hl1
              cases hd : (l.take k).any (fun y => !apartB l[k] y)
              all_goals
                go_wp2_with (first
                  | (go_at_call 78; rw [← HW.out]; refine (Gives.first (alone_any _ hnm _)).mono ?_; rintro e w' ⟨rfl, y, rfl⟩)
                  | (go_at_call 79; refine (Gives.after (Nat.le_refl _) (inside_any _ _ hl0 hl1 _)).mono ?_; rintro e w' ⟨rfl, y, rfl⟩)
                  | (go_at_call 80
                     have c := containsItem_any (some ⟨b, off, none⟩) cap (l.take k) (fun y => !apartB l[k] y) 81 #[.pointer (some ⟨x.val.heap.size, 0, none⟩)] enters_items2 y.val y.val.heap.size (Nat.le_refl _) (HSL.out y)
                       (fun z e hze => by rw [oneOne]; exact items2_any e l[k] (HSM.out e hze) hsk _ z.val (Nat.lt_of_lt_of_le (HLT.out y) z.size) (HCAP.out y z))
                     rw [show (l.take k).length = k by rw [List.length_take]; omega] at c
                     refine (Gives.after (Nat.le_refl _) c).mono ?_
                     clear c
                     rintro e w' ⟨rfl, y, rfl⟩))
              · exact ⟨⟨k + 1, by go_num, by omega, hall.out.next HX.out (by rw [itemAt, itemFine, hf1, hf2, any_clash hdup HX.out, hd]; rfl), ⟨_, HBD.out _⟩, rfl⟩, by simp [intOf]; omega⟩
              · go_ret
                exact Gives.mk (congrArg Value.bool (itemsOk_no HX.out (by rw [itemAt, itemFine, hf1, hf2, any_clash hdup HX.out, hd]; rfl)).symm) (HBD.out _)
        · go_wp2
          go_ret
          exact Gives.mk (congrArg Value.bool (itemsOk_yes (by omega) (by have : k = l.length := by omega
                                                                          subst this; exact hall.out)).symm) x.below
end Go.Proofs.YtcdkhlndohokcaaGreatDoor
