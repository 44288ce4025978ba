/- loftblockref30.Valid. -/
import Derived.Test.YtnjbfhfjdhfdlaaGreatDoorHouse
namespace Go.Proofs.YtnjbfhfjdhfdlaaGreatDoor
open Go.RowKit

set_option maxHeartbeats 4000000 in
set_option maxRecDepth 100000 in
theorem refHouse_any (h : HouseD) (hok : h.ok) (w : World) (B : Nat) (hB : B ≤ w.heap.size) (hat : HouseD.at_ w B h) :
    Calls Tryz.prog 32 #[.agg #[.string h.name, .int .i64 h.height, .slice h.sets.A h.sets.l.length h.sets.cap, .slice h.roofs.A h.roofs.l.length h.roofs.cap]] w (Gives w (.bool (houseOk h))) := by
  obtain ⟨W, hW, hWs, hWb, hWh⟩ := boxed w (.cells #[.string h.name, .int .i64 h.height, .slice h.sets.A h.sets.l.length h.sets.cap, .slice h.roofs.A h.roofs.l.length h.roofs.cap] 25)
  have hc := fun y : After W.heap.size W => HouseD.boxed hWh (by omega) y
  have hbd : ∀ y : After W.heap.size W, Below w.heap.size w y.val := fun y => hWb.trans (y.below.mono (by omega))
  have hatW : HouseD.at_ W W.heap.size h := hat.to (hWb.mono hB) (by omega)
  have hnm := hok.name
  have hroofs : ∀ v : World, Below W.heap.size W v → Calls Tryz.prog 58 #[.slice h.roofs.A h.roofs.l.length h.roofs.cap] v (Gives v (.bool (roofsOk h.roofs.l))) := fun v hv => ref19Valid_any _ _ _ hok.roofs v W.heap.size hv.size (hatW.roofs.to hv (Nat.le_refl _))
  have hfind : ∀ (nm : ByteArray) (v : World), Below W.heap.size W v → Calls Tryz.prog 60 #[.agg #[.string h.name, .int .i64 h.height, .slice h.sets.A h.sets.l.length h.sets.cap, .slice h.roofs.A h.roofs.l.length h.roofs.cap], .string nm] v (Gives v (.int .i64 (findSet h.sets.l nm))) := fun nm v hv => refFind_any h nm v W.heap.size hv.size (hatW.to hv (Nat.le_refl _))
  have hsetv : ∀ (s : SetD), s ∈ h.sets.l → ∀ v : World, Below W.heap.size W v → Calls Tryz.prog 59 #[.agg #[.string s.name, .int .i64 s.depth, .int .i64 s.low, .int .i64 s.high, .int .i64 s.length, .slice s.lines.A s.lines.l.length s.lines.cap, .int .i64 s.pipe, .int .i64 s.arbor, .int .i64 s.purchase, .int .i64 s.most, .int .i64 s.brake, .slice s.items.A s.items.l.length s.items.cap, .slice s.bricks.A s.bricks.l.length s.bricks.cap]] v (Gives v (.bool (setOk s))) := fun s hs v hv => refSet_any s (hok.sets s hs) v W.heap.size hv.size ((hatW.each s hs).to hv (Nat.le_refl _))
  have hm : h.sets.cap ≤ 9223372036854775807 := hat.sets.2.1
  have hlc : h.sets.l.length ≤ h.sets.cap := hat.sets.1
  have hsl := hatW.sets
  have HSL := hide hsl
  have HR := hide hroofs
  have HF := hide hfind
  have HV := hide hsetv
  have HW := hide hW
  have HWs := hide hWs
  have HBD := hide hbd
  clear hW hWh hWb hbd hatW hat hok hsl hroofs hfind hsetv
  cases hh : houseHead h
  · have HNO := hide (houseOk_head hh)
    go_enter Tryz.func32, Tryz.ntmps32
    go_wp2_with (first
      | (go_at_call 39; rw [← HW.out]; refine (Gives.first (refIsName_any _ _ hnm)).mono ?_; rintro e w' ⟨rfl, y, rfl⟩)
      | (go_at_call 58; refine (Gives.after (Nat.le_refl _) (HR.out _ (After.below _))).mono ?_; rintro e w' ⟨rfl, y, rfl⟩))
    all_goals first
      | (go_ret; exact Gives.mk (congrArg Value.bool HNO.out.symm) (HBD.out _))
      | exact absurd (houseHead_iff.2 ⟨‹_›, ‹_›, ‹_›, ‹_›, by simp_all⟩) (by simp [hh])
  · obtain ⟨h1, h2, h3, h4, h5⟩ := houseHead_iff.1 hh
    have HYES := hide (fun (k : Nat) (hk : h.sets.l.length ≤ k) hu => houseOk_yes hh hk hu)
    have HNO := hide (fun (k : Nat) (s : SetD) hs hn => houseOk_no (h := h) (k := k) (s := s) hs hn)
    clear hh
    obtain ⟨r, hr⟩ : ∃ r, r = houseOk h := ⟨_, rfl⟩
    rw [← hr] at HYES HNO ⊢
    clear hr
    obtain ⟨name, height, ⟨A, cap, l⟩, roofs⟩ := h
    simp only at *
    go_enter Tryz.func32, Tryz.ntmps32
    go_wp2_with (first
      | (go_at_call 39; rw [← HW.out]; refine (Gives.first (refIsName_any _ _ hnm)).mono ?_; rintro e w' ⟨rfl, y, rfl⟩)
      | (go_at_call 58; refine (Gives.after (Nat.le_refl _) (HR.out _ (After.below _))).mono ?_; rintro e w' ⟨rfl, y, rfl⟩))
    go_loopw [3] (fun v wr => ∃ k : Nat, v = .int .i64 k ∧ k ≤ l.length ∧ Hid (UpTo (setAt l height) l k) ∧ ∃ x : After W.heap.size W, wr = x.val) (fun v _ => l.length - (intOf v).toNat)
    case atStart => exact ⟨0, rfl, Nat.zero_le _, UpTo.zero _ _, _, rfl⟩
    case round =>
      obtain ⟨k, rfl, hk, hall, x, rfl⟩ := hrel
      by_cases hlt : k < l.length
      · obtain ⟨b, off, hA, hb, hcell⟩ := HSL.out.2.2 (show 0 < l.length by omega)
        simp only at hA
        subst hA
        have hx : l[k]? = some l[k] := List.getElem?_eq_getElem hlt
        have hmem : l[k] ∈ l := List.getElem_mem hlt
        have he := fun x : After W.heap.size W => SetD.elem hx hb hcell x
        have hin : (k : Int) < (l.length : Int) := by omega
        have hi0 : (0 : Int) ≤ (k : Int) := by omega
        have HX := hide hx
        have HM := hide hmem
        clear hcell hx hmem
        cases hs : setOk l[k]
        · go_wp2
          refine wp_region_after x (by kernel_rfl) (by kernel_rfl) ?_
          repeat (go_big_quiet_step ((go_at_call 59; exact Gives.after (Nat.le_refl _) (HV.out l[k] HM.out _ (After.below _)))))
          refine wpQuiet_nil ?_
          intro z
          go_wp2
          go_ret
          exact Gives.mk (congrArg Value.bool (HNO.out k l[k] HX.out (setAt_set hs)).symm) (HBD.out _)
        · by_cases hhi : height < l[k].high
          · go_wp2
            refine wp_region_after x (by kernel_rfl) (by kernel_rfl) ?_
            repeat (go_big_quiet_step ((go_at_call 59; exact Gives.after (Nat.le_refl _) (HV.out l[k] HM.out _ (After.below _)))))
            refine wpQuiet_nil ?_
            intro z
            go_wp2
            go_ret
            exact Gives.mk (congrArg Value.bool (HNO.out k l[k] HX.out (setAt_high hhi)).symm) (HBD.out _)
          · have hhi' : decide (height < l[k].high) = false := decide_eq_false hhi
            cases hfi : (findSet l l[k].name != (k : Int))
            all_goals
              go_wp2
              refine wp_region_after x (by kernel_rfl) (by kernel_rfl) ?_
              repeat (go_big_quiet_step ((first
                | (go_at_call 59; exact Gives.after (Nat.le_refl _) (HV.out l[k] HM.out _ (After.below _)))
                | (go_at_call 60; exact Gives.after (Nat.le_refl _) (HF.out _ _ (After.below _))))))
              refine wpQuiet_nil ?_
              intro z
              go_wp2
            · exact ⟨⟨k + 1, by go_num, by omega, hall.out.next HX.out (setAt_yes hs (by omega) hfi), _, rfl⟩, by simp [intOf]; omega⟩
            · go_ret
              exact Gives.mk (congrArg Value.bool (HNO.out k l[k] HX.out (setAt_not hfi)).symm) (HBD.out _)
      · go_wp2
        go_ret
        exact Gives.mk (congrArg Value.bool (HYES.out k (show l.length ≤ k by omega) hall.out).symm) (HBD.out _)
end Go.Proofs.YtnjbfhfjdhfdlaaGreatDoor
