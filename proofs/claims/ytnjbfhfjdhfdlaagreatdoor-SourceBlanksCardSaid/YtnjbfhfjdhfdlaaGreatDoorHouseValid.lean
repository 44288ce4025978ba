/- house.Valid. -/
import Derived.Test.YtnjbfhfjdhfdlaaGreatDoorHouse
import Derived.Test.YtnjbfhfjdhfdlaaGreatDoorBattenValid
namespace Go.Proofs.YtnjbfhfjdhfdlaaGreatDoor
open Go.RowKit

set_option maxHeartbeats 4000000 in
set_option maxRecDepth 100000 in
theorem houseValid_any (h : HouseD) (hok : h.ok) (w : World) (B : Nat) (hB : B ≤ w.heap.size) (hat : HouseD.at_ w B h) :
    Calls Tryz.prog 14 #[.agg #[.string h.name, .int .i64 h.height, .slice h.sets.A h.sets.l.length h.sets.cap, .slice h.roofs.A h.roofs.l.length h.roofs.cap]] w (Gives w (.bool (houseOk h))) := by
  obtain ⟨W, hW, hWs, hWb, hWh⟩ := boxed w (.cells #[.string h.name, .int .i64 h.height, .slice h.sets.A h.sets.l.length h.sets.cap, .slice h.roofs.A h.roofs.l.length h.roofs.cap] 25)
  have hc := fun y : After W.heap.size W => HouseD.boxed hWh (by omega) y
  have hbd : ∀ y : After W.heap.size W, Below w.heap.size w y.val := fun y => hWb.trans (y.below.mono (by omega))
  have hatW : HouseD.at_ W W.heap.size h := hat.to (hWb.mono hB) (by omega)
  have hnm := hok.name
  have hroofs : ∀ v : World, Below W.heap.size W v → Calls Tryz.prog 41 #[.slice h.roofs.A h.roofs.l.length h.roofs.cap] v (Gives v (.bool (roofsOk h.roofs.l))) := fun v hv => gridValid_any _ _ _ hok.roofs v W.heap.size hv.size (hatW.roofs.to hv (Nat.le_refl _))
  have hfind : ∀ (nm : ByteArray) (v : World), Below W.heap.size W v → Calls Tryz.prog 43 #[.agg #[.string h.name, .int .i64 h.height, .slice h.sets.A h.sets.l.length h.sets.cap, .slice h.roofs.A h.roofs.l.length h.roofs.cap], .string nm] v (Gives v (.int .i64 (findSet h.sets.l nm))) := fun nm v hv => find_any h nm v W.heap.size hv.size (hatW.to hv (Nat.le_refl _))
  have hsetv : ∀ (s : SetD), s ∈ h.sets.l → ∀ v : World, Below W.heap.size W v → Calls Tryz.prog 42 #[.agg #[.string s.name, .int .i64 s.depth, .int .i64 s.low, .int .i64 s.high, .int .i64 s.length, .slice s.lines.A s.lines.l.length s.lines.cap, .int .i64 s.pipe, .int .i64 s.arbor, .int .i64 s.purchase, .int .i64 s.most, .int .i64 s.brake, .slice s.items.A s.items.l.length s.items.cap, .slice s.bricks.A s.bricks.l.length s.bricks.cap]] v (Gives v (.bool (setOk s))) := fun s hs v hv => battenValid_any s (hok.sets s hs) v W.heap.size hv.size ((hatW.each s hs).to hv (Nat.le_refl _))
  have hm : h.sets.cap ≤ 9223372036854775807 := hat.sets.2.1
  have hlc : h.sets.l.length ≤ h.sets.cap := hat.sets.1
  have hsl := hatW.sets
  have HSL := hide hsl
  have HR := hide hroofs
  have HF := hide hfind
  have HV := hide hsetv
  have HW := hide hW
  have HWs := hide hWs
  have HBD := hide hbd
  clear hW hWh hWb hbd hatW hat hok hsl hroofs hfind hsetv
  cases hh : houseHead h
  · have HNO := hide (houseOk_head hh)
    go_enter Tryz.func14, Tryz.ntmps14
    go_wp2_with (first
      | (go_at_call 35; rw [← HW.out]; refine (Gives.first (isName_any _ _ hnm)).mono ?_; rintro e w' ⟨rfl, y, rfl⟩)
      | (go_at_call 41; refine (Gives.after (Nat.le_refl _) (HR.out _ (After.below _))).mono ?_; rintro e w' ⟨rfl, y, rfl⟩))
    all_goals first
      | (go_ret; exact Gives.mk (congrArg Value.bool HNO.out.symm) (HBD.out _))
      | exact absurd (houseHead_iff.2 ⟨‹_›, ‹_›, ‹_›, ‹_›, by simp_all⟩) (by simp [hh])
  · obtain ⟨h1, h2, h3, h4, h5⟩ := houseHead_iff.1 hh
    have HYES := hide (fun (k : Nat) (hk : h.sets.l.length ≤ k) hu => houseOk_yes hh hk hu)
    have HNO := hide (fun (k : Nat) (s : SetD) hs hn => houseOk_no (h := h) (k := k) (s := s) hs hn)
    clear hh
    obtain ⟨r, hr⟩ : ∃ r, r = houseOk h := ⟨_, rfl⟩
    rw [← hr] at HYES HNO ⊢
    clear hr
    obtain ⟨name, height, ⟨A, cap, l⟩, roofs⟩ := h
    simp only at *
    go_enter Tryz.func14, Tryz.ntmps14
    go_wp2_with (first
      | (go_at_call 35; rw [← HW.out]; refine (Gives.first (isName_any _ _ hnm)).mono ?_; rintro e w' ⟨rfl, y, rfl⟩)
      | (go_at_call 41; refine (Gives.after (Nat.le_refl _) (HR.out _ (After.below _))).mono ?_; rintro e w' ⟨rfl, y, rfl⟩))
    go_loopw [34] (fun v wr => ∃ k : Nat, v = .int .i64 k ∧ k ≤ l.length ∧ Hid (UpTo (setAt l height) l k) ∧ ∃ x : After W.heap.size W, wr = x.val) (fun v _ => l.length - (intOf v).toNat)
    case atStart => exact ⟨0, rfl, Nat.zero_le _, UpTo.zero _ _, _, rfl⟩
    case round =>
      obtain ⟨k, rfl, hk, hall, x, rfl⟩ := hrel
      by_cases hlt : k < l.length
      · obtain ⟨b, off, hA, hb, hcell⟩ := HSL.out.2.2 (show 0 < l.length by omega)
        simp only at hA
        subst hA
        have hx : l[k]? = some l[k] := List.getElem?_eq_getElem hlt
        have hmem : l[k] ∈ l := List.getElem_mem hlt
        have he := fun x : After W.heap.size W => SetD.elem hx hb hcell x
        have HX := hide hx
        have HM := hide hmem
        clear hcell hx hmem
        obtain ⟨W', hW', hWs', hWb', hWh'⟩ := boxed x.val (.cells #[.string l[k].name, .int .i64 l[k].depth, .int .i64 l[k].low, .int .i64 l[k].high, .int .i64 l[k].length, .slice l[k].lines.A l[k].lines.l.length l[k].lines.cap, .int .i64 l[k].pipe, .int .i64 l[k].arbor, .int .i64 l[k].purchase, .int .i64 l[k].most, .int .i64 l[k].brake, .slice l[k].items.A l[k].items.l.length l[k].items.cap, .slice l[k].bricks.A l[k].bricks.l.length l[k].bricks.cap] 63)
        have hcS := fun y : After W'.heap.size W' => SetD.boxed hWh' (by omega) y
        have hb2 : ∀ y : After W'.heap.size W', Below W.heap.size W y.val := fun y => x.below.trans ((hWb'.mono x.size).trans (y.below.mono (by have := x.size; omega)))
        have hcH := fun y : After W'.heap.size W' => hc ⟨y.val, hb2 y⟩
        simp only at hcH
        have HW' := hide hW'
        have HB2 := hide hb2
        clear hW' hWs' hWh' hWb' hb2
        cases hs : setOk l[k]
        · go_wp2_with (go_at_call 42; rw [← HW'.out]; refine (Gives.first (HV.out l[k] HM.out W' (HB2.out (After.refl _ _)))).mono ?_; rintro e w' ⟨rfl, y, rfl⟩)
          go_ret
          exact Gives.mk (congrArg Value.bool (HNO.out k l[k] HX.out (setAt_set hs)).symm) (HBD.out ⟨_, HB2.out _⟩)
        · by_cases hhi : height < l[k].high
          · go_wp2_with (go_at_call 42; rw [← HW'.out]; refine (Gives.first (HV.out l[k] HM.out W' (HB2.out (After.refl _ _)))).mono ?_; rintro e w' ⟨rfl, y, rfl⟩)
            go_ret
            exact Gives.mk (congrArg Value.bool (HNO.out k l[k] HX.out (setAt_high hhi)).symm) (HBD.out ⟨_, HB2.out _⟩)
          · cases hfi : (findSet l l[k].name != (k : Int))
            all_goals
              go_wp2_with (first
                | (go_at_call 42; rw [← HW'.out]; refine (Gives.first (HV.out l[k] HM.out W' (HB2.out (After.refl _ _)))).mono ?_; rintro e w' ⟨rfl, y, rfl⟩)
                | (go_at_call 43; refine (Gives.after (Nat.le_refl _) (HF.out _ _ (HB2.out _))).mono ?_; rintro e w' ⟨rfl, y, rfl⟩))
            · exact ⟨⟨k + 1, by go_num, by omega, hall.out.next HX.out (setAt_yes hs (by omega) hfi), ⟨_, HB2.out _⟩, rfl⟩, by simp [intOf]; omega⟩
            · go_ret
              exact Gives.mk (congrArg Value.bool (HNO.out k l[k] HX.out (setAt_not hfi)).symm) (HBD.out ⟨_, HB2.out _⟩)
      · go_wp2
        go_ret
        exact Gives.mk (congrArg Value.bool (HYES.out k (show l.length ≤ k by omega) hall.out).symm) (HBD.out _)
end Go.Proofs.YtnjbfhfjdhfdlaaGreatDoor
