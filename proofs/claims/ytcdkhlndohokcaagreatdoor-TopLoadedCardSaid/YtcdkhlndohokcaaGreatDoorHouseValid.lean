/- batten.Valid. house.Valid. -/
import Derived.Test.YtcdkhlndohokcaaGreatDoorBattenV1
import Derived.Test.YtcdkhlndohokcaaGreatDoorBattenV2
import Derived.Test.YtcdkhlndohokcaaGreatDoorBattenV3
import Derived.Test.YtcdkhlndohokcaaGreatDoorHouse
namespace Go.Proofs.YtcdkhlndohokcaaGreatDoor
open Go.RowKit

theorem setFirst_and {s : SetD} (h1 : isName s.name = true) (h2 : betweenB s.depth 0 1048576 = true) (h3 : 0 ≤ s.low) (h4 : s.low ≤ s.high) (h5 : s.high ≤ 1048576) (h6 : betweenB s.length 1000 1048576 = true) (h7 : s.length % 1000 = 0) : setFirst s = true :=
  setFirst_iff.2 ⟨h1, h2, betweenB_iff.2 ⟨h3, h4⟩, betweenB_iff.2 ⟨by omega, h5⟩, h6, h7⟩
theorem setOk_eq (s : SetD) : setOk s = (isName s.name && betweenB s.depth 0 1048576 && decide (0 ≤ s.low) && decide (s.low ≤ s.high) && decide (s.high ≤ 1048576) && betweenB s.length 1000 1048576 && (s.length % 1000 == 0) && linesOk s.lines.l s.length && betweenB s.pipe 0 1048576 && betweenB s.arbor 0 1048576 && betweenB s.purchase 1 2 && betweenB s.most 1 67108864 && betweenB s.brake 0 67108864 && itemsOk s.items.l s.length && bricksOk s.bricks.l) := by
  rw [Bool.eq_iff_iff, setOk]
  simp only [Bool.and_eq_true, setFirst_iff, setSecond_iff, betweenB_iff, decide_eq_true_eq, beq_iff_eq]
  constructor
  · rintro ⟨⟨⟨⟨⟨a1, a2, a3, a4, a5, a6⟩, b⟩, c1, c2, c3, c4, c5⟩, d⟩, e⟩
    exact ⟨⟨⟨⟨⟨⟨⟨⟨⟨⟨⟨⟨⟨⟨a1, a2⟩, a3.1⟩, a3.2⟩, a4.2⟩, a5⟩, a6⟩, b⟩, c1⟩, c2⟩, c3⟩, c4⟩, c5⟩, d⟩, e⟩
  · rintro ⟨⟨⟨⟨⟨⟨⟨⟨⟨⟨⟨⟨⟨⟨a1, a2⟩, a3⟩, a3'⟩, a4⟩, a5⟩, a6⟩, b⟩, c1⟩, c2⟩, c3⟩, c4⟩, c5⟩, d⟩, e⟩
    exact ⟨⟨⟨⟨⟨a1, a2, ⟨a3, a3'⟩, ⟨by omega, a4⟩, a5, a6⟩, b⟩, c1, c2, c3, c4, c5⟩, d⟩, e⟩
theorem battenValid_any (s : SetD) (hok : s.ok) (w : World) (B : Nat) (hB : B ≤ w.heap.size) (hat : SetD.at_ w B s) :
    Calls Tryz.prog 36 #[.agg #[.string s.name, .int .i64 s.depth, .int .i64 s.low, .int .i64 s.high, .int .i64 s.length, .slice s.lines.A s.lines.l.length s.lines.cap, .int .i64 s.pipe, .int .i64 s.arbor, .int .i64 s.purchase, .int .i64 s.most, .int .i64 s.brake, .slice s.items.A s.items.l.length s.items.cap, .slice s.bricks.A s.bricks.l.length s.bricks.cap]] w (Gives w (.bool (setOk s))) := by
  rw [setOk_eq]
  cases h1 : isName s.name
  case false =>
    simp only [Bool.false_and]
    exact battenValid_1 s hok w B hB hat  h1
  cases h2 : betweenB s.depth 0 1048576
  case false =>
    simp only [Bool.and_false, Bool.false_and]
    exact battenValid_2 s hok w B hB hat h1 h2
  by_cases h3 : 0 ≤ s.low
  case neg =>
    rw [decide_eq_false h3]
    simp only [Bool.and_false, Bool.false_and]
    exact battenValid_3 s hok w B hB hat h1 h2 (by omega)
  rw [decide_eq_true h3]
  by_cases h4 : s.low ≤ s.high
  case neg =>
    rw [decide_eq_false h4]
    simp only [Bool.and_false, Bool.false_and]
    exact battenValid_4 s hok w B hB hat h1 h2 h3 (by omega)
  rw [decide_eq_true h4]
  by_cases h5 : s.high ≤ 1048576
  case neg =>
    rw [decide_eq_false h5]
    simp only [Bool.and_false, Bool.false_and]
    exact battenValid_5 s hok w B hB hat h1 h2 h3 h4 (by omega)
  rw [decide_eq_true h5]
  cases h6 : betweenB s.length 1000 1048576
  case false =>
    simp only [Bool.and_false, Bool.false_and]
    exact battenValid_6 s hok w B hB hat h1 h2 h3 h4 h5 h6
  cases h7 : (s.length % 1000 == 0)
  case false =>
    simp only [Bool.and_false, Bool.false_and]
    exact battenValid_7 s hok w B hB hat h1 h2 h3 h4 h5 h6 h7
  cases h8 : linesOk s.lines.l s.length
  case false =>
    simp only [Bool.and_false, Bool.false_and]
    exact battenValid_8 s hok w B hB hat h1 h2 h3 h4 h5 h6 h7 h8
  cases h9 : betweenB s.pipe 0 1048576
  case false =>
    simp only [Bool.and_false, Bool.false_and]
    exact battenValid_9 s hok w B hB hat h1 h2 h3 h4 h5 h6 h7 h8 h9
  cases h10 : betweenB s.arbor 0 1048576
  case false =>
    simp only [Bool.and_false, Bool.false_and]
    exact battenValid_10 s hok w B hB hat h1 h2 h3 h4 h5 h6 h7 h8 h9 h10
  cases h11 : betweenB s.purchase 1 2
  case false =>
    simp only [Bool.and_false, Bool.false_and]
    exact battenValid_11 s hok w B hB hat h1 h2 h3 h4 h5 h6 h7 h8 h9 h10 h11
  cases h12 : betweenB s.most 1 67108864
  case false =>
    simp only [Bool.and_false, Bool.false_and]
    exact battenValid_12 s hok w B hB hat h1 h2 h3 h4 h5 h6 h7 h8 h9 h10 h11 h12
  cases h13 : betweenB s.brake 0 67108864
  case false =>
    simp only [Bool.and_false, Bool.false_and]
    exact battenValid_13 s hok w B hB hat h1 h2 h3 h4 h5 h6 h7 h8 h9 h10 h11 h12 h13
  cases h14 : itemsOk s.items.l s.length
  case false =>
    simp only [Bool.and_false, Bool.false_and]
    exact battenValid_14 s hok w B hB hat h1 h2 h3 h4 h5 h6 h7 h8 h9 h10 h11 h12 h13 h14
  simp only [Bool.and_true, Bool.true_and]
  exact battenValid_15 s hok w B hB hat h1 h2 h3 h4 h5 h6 h7 h8 h9 h10 h11 h12 h13 h14
end Go.Proofs.YtcdkhlndohokcaaGreatDoor
namespace Go.Proofs.YtcdkhlndohokcaaGreatDoor
open Go.RowKit

set_option maxHeartbeats 4000000 in
set_option maxRecDepth 100000 in
theorem houseValid_any (h : HouseD) (hok : h.ok) (w : World) (B : Nat) (hB : B ≤ w.heap.size) (hat : HouseD.at_ w B h) :
    Calls Tryz.prog 48 #[.agg #[.string h.name, .int .i64 h.height, .slice h.sets.A h.sets.l.length h.sets.cap, .slice h.roofs.A h.roofs.l.length h.roofs.cap]] w (Gives w (.bool (houseOk h))) := by
  obtain ⟨W, hW, hWs, hWb, hWh⟩ := boxed w (.cells #[.string h.name, .int .i64 h.height, .slice h.sets.A h.sets.l.length h.sets.cap, .slice h.roofs.A h.roofs.l.length h.roofs.cap] 54)
  have hc := fun y : After W.heap.size W => HouseD.boxed hWh (by omega) y
  have hbd : ∀ y : After W.heap.size W, Below w.heap.size w y.val := fun y => hWb.trans (y.below.mono (by omega))
  have hatW : HouseD.at_ W W.heap.size h := hat.to (hWb.mono hB) (by omega)
  have hnm := hok.name
  have hroofs : ∀ v : World, Below W.heap.size W v → Calls Tryz.prog 66 #[.slice h.roofs.A h.roofs.l.length h.roofs.cap] v (Gives v (.bool (roofsOk h.roofs.l))) := fun v hv => gridValid_any _ _ _ hok.roofs v W.heap.size hv.size (hatW.roofs.to hv (Nat.le_refl _))
  have hfind : ∀ (nm : ByteArray) (v : World), Below W.heap.size W v → Calls Tryz.prog 67 #[.agg #[.string h.name, .int .i64 h.height, .slice h.sets.A h.sets.l.length h.sets.cap, .slice h.roofs.A h.roofs.l.length h.roofs.cap], .string nm] v (Gives v (.int .i64 (findSet h.sets.l nm))) := fun nm v hv => find_any h nm v W.heap.size hv.size (hatW.to hv (Nat.le_refl _))
  have hsetv : ∀ (s : SetD), s ∈ h.sets.l → ∀ v : World, Below W.heap.size W v → Calls Tryz.prog 36 #[.agg #[.string s.name, .int .i64 s.depth, .int .i64 s.low, .int .i64 s.high, .int .i64 s.length, .slice s.lines.A s.lines.l.length s.lines.cap, .int .i64 s.pipe, .int .i64 s.arbor, .int .i64 s.purchase, .int .i64 s.most, .int .i64 s.brake, .slice s.items.A s.items.l.length s.items.cap, .slice s.bricks.A s.bricks.l.length s.bricks.cap]] v (Gives v (.bool (setOk s))) := fun s hs v hv => battenValid_any s (hok.sets s hs) v W.heap.size hv.size ((hatW.each s hs).to hv (Nat.le_refl _))
  have hm : h.sets.cap ≤ 9223372036854775807 := hat.sets.2.1
  have hlc : h.sets.l.length ≤ h.sets.cap := hat.sets.1
  have hsl := hatW.sets
  have HSL := hide hsl
  have HR := hide hroofs
  have HF := hide hfind
  have HV := hide hsetv
  have HW := hide hW
  have HWs := hide hWs
  have HBD := hide hbd
  clear hW hWh hWb hbd hatW hat hok hsl hroofs hfind hsetv
  cases hh : houseHead h
  · have HNO := hide (houseOk_head hh)
    go_enter Tryz.func48, Tryz.ntmps48
    go_wp2_with (first
      | (go_at_call 57; rw [← HW.out]; refine (Gives.first (isName_any _ _ hnm)).mono ?_; rintro e w' ⟨rfl, y, rfl⟩)
      | (go_at_call 66; refine (Gives.after (Nat.le_refl _) (HR.out _ (After.below _))).mono ?_; rintro e w' ⟨rfl, y, rfl⟩))
    all_goals first
      | (go_ret; exact Gives.mk (congrArg Value.bool HNO.out.symm) (HBD.out _))
      | exact absurd (houseHead_iff.2 ⟨‹_›, ‹_›, ‹_›, ‹_›, by simp_all⟩) (by simp [hh])
  · obtain ⟨h1, h2, h3, h4, h5⟩ := houseHead_iff.1 hh
    have HYES := hide (fun (k : Nat) (hk : h.sets.l.length ≤ k) hu => houseOk_yes hh hk hu)
    have HNO := hide (fun (k : Nat) (s : SetD) hs hn => houseOk_no (h := h) (k := k) (s := s) hs hn)
    clear hh
    obtain ⟨r, hr⟩ : ∃ r, r = houseOk h := ⟨_, rfl⟩
    rw [← hr] at HYES HNO ⊢
    clear hr
    obtain ⟨name, height, ⟨A, cap, l⟩, roofs⟩ := h
    simp only at *
    go_enter Tryz.func48, Tryz.ntmps48
    go_wp2_with (first
      | (go_at_call 57; rw [← HW.out]; refine (Gives.first (isName_any _ _ hnm)).mono ?_; rintro e w' ⟨rfl, y, rfl⟩)
      | (go_at_call 66; refine (Gives.after (Nat.le_refl _) (HR.out _ (After.below _))).mono ?_; rintro e w' ⟨rfl, y, rfl⟩))
    go_loopw [34] (fun v wr => ∃ k : Nat, v = .int .i64 k ∧ k ≤ l.length ∧ Hid (UpTo (setAt l height) l k) ∧ ∃ x : After W.heap.size W, wr = x.val) (fun v _ => l.length - (intOf v).toNat)
    case atStart => exact ⟨0, rfl, Nat.zero_le _, UpTo.zero _ _, _, rfl⟩
    case round =>
      obtain ⟨k, rfl, hk, hall, x, rfl⟩ := hrel
      by_cases hlt : k < l.length
      · obtain ⟨b, off, hA, hb, hcell⟩ := HSL.out.2.2 (show 0 < l.length by omega)
        simp only at hA
        subst hA
        have hx : l[k]? = some l[k] := List.getElem?_eq_getElem hlt
        have hmem : l[k] ∈ l := List.getElem_mem hlt
        have he := fun x : After W.heap.size W => SetD.elem hx hb hcell x
        have HX := hide hx
        have HM := hide hmem
        clear hcell hx hmem
        obtain ⟨W', hW', hWs', hWb', hWh'⟩ := boxed x.val (.cells #[.string l[k].name, .int .i64 l[k].depth, .int .i64 l[k].low, .int .i64 l[k].high, .int .i64 l[k].length, .slice l[k].lines.A l[k].lines.l.length l[k].lines.cap, .int .i64 l[k].pipe, .int .i64 l[k].arbor, .int .i64 l[k].purchase, .int .i64 l[k].most, .int .i64 l[k].brake, .slice l[k].items.A l[k].items.l.length l[k].items.cap, .slice l[k].bricks.A l[k].bricks.l.length l[k].bricks.cap] 26)
        have hcS := fun y : After W'.heap.size W' => SetD.boxed hWh' (by omega) y
        have hb2 : ∀ y : After W'.heap.size W', Below W.heap.size W y.val := fun y => x.below.trans ((hWb'.mono x.size).trans (y.below.mono (by have := x.size; omega)))
        have hcH := fun y : After W'.heap.size W' => hc ⟨y.val, hb2 y⟩
        simp only at hcH
        have HW' := hide hW'
        have HB2 := hide hb2
        clear hW' hWs' hWh' hWb' hb2
        cases hs : setOk l[k]
        · go_wp2_with (go_at_call 36; rw [← HW'.out]; refine (Gives.first (HV.out l[k] HM.out W' (HB2.out (After.refl _ _)))).mono ?_; rintro e w' ⟨rfl, y, rfl⟩)
          go_ret
          exact Gives.mk (congrArg Value.bool (HNO.out k l[k] HX.out (setAt_set hs)).symm) (HBD.out ⟨_, HB2.out _⟩)
        · by_cases hhi : height < l[k].high
          · go_wp2_with (go_at_call 36; rw [← HW'.out]; refine (Gives.first (HV.out l[k] HM.out W' (HB2.out (After.refl _ _)))).mono ?_; rintro e w' ⟨rfl, y, rfl⟩)
            go_ret
            exact Gives.mk (congrArg Value.bool (HNO.out k l[k] HX.out (setAt_high hhi)).symm) (HBD.out ⟨_, HB2.out _⟩)
          · cases hfi : (findSet l l[k].name != (k : Int))
            all_goals
              go_wp2_with (first
                | (go_at_call 36; rw [← HW'.out]; refine (Gives.first (HV.out l[k] HM.out W' (HB2.out (After.refl _ _)))).mono ?_; rintro e w' ⟨rfl, y, rfl⟩)
                | (go_at_call 67; refine (Gives.after (Nat.le_refl _) (HF.out _ _ (HB2.out _))).mono ?_; rintro e w' ⟨rfl, y, rfl⟩))
            · exact ⟨⟨k + 1, by go_num, by omega, hall.out.next HX.out (setAt_yes hs (by omega) hfi), ⟨_, HB2.out _⟩, rfl⟩, by simp [intOf]; omega⟩
            · go_ret
              exact Gives.mk (congrArg Value.bool (HNO.out k l[k] HX.out (setAt_not hfi)).symm) (HBD.out ⟨_, HB2.out _⟩)
      · go_wp2
        go_ret
        exact Gives.mk (congrArg Value.bool (HYES.out k (show l.length ≤ k by omega) hall.out).symm) (HBD.out _)
end Go.Proofs.YtcdkhlndohokcaaGreatDoor
