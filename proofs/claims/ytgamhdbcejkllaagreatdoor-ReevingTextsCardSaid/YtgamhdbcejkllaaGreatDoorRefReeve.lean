/- loftblockref10.Valid and Small. -/
import Derived.Test.YtgamhdbcejkllaaGreatDoorReeveValid
namespace Go.Proofs.YtgamhdbcejkllaaGreatDoor
open Go.RowKit

theorem blockAt_cases {l : List BlockD} {k : Nat} {x : BlockD} : blockAt l k x = (isName x.name && ((findB l x.name == (k : Int)) && betweenB x.weight 0 16777216)) := by
  rw [blockAt, Bool.and_assoc]; congr 1
theorem ropeAt_cases {bl : List BlockD} {l : List RopeD} {k : Nat} {x : RopeD} : ropeAt bl l k x = (isName x.name && ((findR l x.name == (k : Int)) && (decide (findB bl x.name < 0) && ropeOk bl x))) := by
  rw [ropeAt, Bool.and_assoc, Bool.and_assoc]; congr 1

set_option maxRecDepth 100000 in
set_option maxHeartbeats 8000000 in
theorem refValidS_any (s : SysD) (hok : s.ok) (w : World) (B : Nat) (hB : B ≤ w.heap.size) (hat : SysD.at_ w B s) :
    Calls Tryz.prog 10 #[.agg #[.slice s.blocks.A s.blocks.l.length s.blocks.cap, .slice s.ropes.A s.ropes.l.length s.ropes.cap]] w (Gives w (.bool (sysOk s))) := by
  obtain ⟨W, hW, hWs, hWb, hWh⟩ := boxed w (.cells #[.slice s.blocks.A s.blocks.l.length s.blocks.cap, .slice s.ropes.A s.ropes.l.length s.ropes.cap] 25)
  have hc := fun y : After W.heap.size W => SysD.boxed hWh (by omega) y
  have hbd : ∀ y : After W.heap.size W, Below w.heap.size w y.val := fun y => hWb.trans (y.below.mono (by omega))
  have hatW : SysD.at_ W W.heap.size s := hat.to (hWb.mono hB) (by omega)
  have hrope := fun (v : World) (hv : Below W.heap.size W v) (r : RopeD) (hk : r.ok) (hr : r ∈ s.ropes.l) => refRope_any s r hk v W.heap.size hv.size (hatW.to hv (Nat.le_refl _)) (RopeD.at_.to (hatW.each r hr) hv (Nat.le_refl _))
  have hfb := fun (v : World) (hv : Below W.heap.size W v) (nm : ByteArray) => refFindB_any s nm v W.heap.size hv.size (hatW.to hv (Nat.le_refl _))
  have hfr := fun (v : World) (hv : Below W.heap.size W v) (nm : ByteArray) => refFindR_any s nm v W.heap.size hv.size (hatW.to hv (Nat.le_refl _))
  have HNH := hide (sysOk_head (s := s))
  have HNB := hide (fun (k : Nat) (x : BlockD) hx hn => sysOk_block (s := s) (k := k) (x := x) hx hn)
  have HNR := hide (fun (k : Nat) (x : RopeD) hx hn => sysOk_rope (s := s) (k := k) (x := x) hx hn)
  have HY := hide (fun (j k : Nat) h hj hb hk hr => sysOk_yes (s := s) (j := j) (k := k) h hj hb hk hr)
  have HHD := hide (sysHead_iff (s := s))
  obtain ⟨res, hres⟩ : ∃ res, res = sysOk s := ⟨_, rfl⟩
  rw [← hres] at HNH HNB HNR HY ⊢
  obtain ⟨hd, hhd⟩ : ∃ hd, hd = sysHead s := ⟨_, rfl⟩
  rw [← hhd] at HNH HY HHD
  have hlcb : s.blocks.l.length ≤ s.blocks.cap := hat.blocks.1
  have hmb : s.blocks.cap ≤ 9223372036854775807 := hat.blocks.2.1
  have hlcr : s.ropes.l.length ≤ s.ropes.cap := hat.ropes.1
  have hmr : s.ropes.cap ≤ 9223372036854775807 := hat.ropes.2.1
  have HSB := hide hatW.blocks
  have HSR := hide hatW.ropes
  have HRO := hide hrope
  have HFB := hide hfb
  have HFR := hide hfr
  have HW := hide hW
  have HWb := hide hWb
  have HBD := hide hbd
  have HOB := hide hok.blocks
  have HOR := hide hok.ropes
  clear hW hWs hWh hWb hbd hatW hat hok hrope hfb hfr hres hhd
  obtain ⟨⟨A, cap, l⟩, ⟨A', cap', l'⟩⟩ := s
  simp only at *
  by_cases hb1 : betweenB (l.length : Int) 1 6 = true ∧ betweenB (l'.length : Int) 1 6 = true
  · have HDT := hide (HHD.out.2 hb1)
    obtain ⟨hl1, hl6⟩ := betweenB_iff.1 hb1.1
    obtain ⟨hr1, hr6⟩ := betweenB_iff.1 hb1.2
    clear hb1
    have d1 : ¬ (l.length : Int) < 1 := by omega
    have d2 : ¬ 6 < (l.length : Int) := by omega
    have d3 : ¬ (l'.length : Int) < 1 := by omega
    have d4 : ¬ 6 < (l'.length : Int) := by omega
    go_enter Tryz.func10, Tryz.ntmps10
    go_wp2
    rw [← HW.out]
    go_loopw [3] (fun v wr => ∃ k : Nat, v = .int .i64 k ∧ k ≤ l.length ∧ Hid (UpTo (blockAt l) l k) ∧ ∃ x : After W.heap.size W, wr = x.val) (fun v _ => l.length - (intOf v).toNat)
    case atStart => exact ⟨0, rfl, Nat.zero_le _, UpTo.zero _ _, After.refl _ _, rfl⟩
    case round =>
      obtain ⟨k, rfl, hk, hall, x, rfl⟩ := hrel
      by_cases hlt : k < l.length
      · obtain ⟨b, off, hA, hb, hcell⟩ := HSB.out.2.2 (show 0 < l.length by omega)
        simp only at hA
        subst hA
        have hx : l[k]? = some l[k] := List.getElem?_eq_getElem hlt
        have hnm := (HOB.out l[k] (List.getElem_mem hlt)).name
        have he := fun x : After W.heap.size W => BlockD.elem hx hb hcell x
        have HX := hide hx
        clear hcell hx
        obtain ⟨V, hV, hVs, hVb, hVh⟩ := boxed x.val (.cells #[.string l[k].name, .int .i64 l[k].weight] 50)
        have hc2 := fun y : After V.heap.size V => BlockD.boxed hVh (by omega) y
        have hbd2 : ∀ y : After V.heap.size V, Below W.heap.size W y.val := fun y => x.below.trans ((hVb.mono x.size).trans (y.below.mono (by have := x.size; omega)))
        have hcS2 := fun y : After V.heap.size V => hc ⟨y.val, hbd2 y⟩
        simp only at hcS2
        have HV := hide hV
        have HBD2 := hide hbd2
        clear hV hVs hVh hVb hbd2
        have HBA := hide (blockAt_cases (l := l) (k := k) (x := l[k]))
        obtain ⟨ba, hba⟩ : ∃ ba, ba = blockAt l k l[k] := ⟨_, rfl⟩
        rw [← hba] at HBA
        have HBAE := hide hba
        clear hba
        have hfs : ∀ f : Int, f = findB l l[k].name → True := fun _ _ => trivial
        clear hfs
        rcases Bool.eq_false_or_eq_true (isName l[k].name) with hi | hi
        · rcases Bool.eq_false_or_eq_true (findB l l[k].name != (k : Int)) with hf | hf
          · have HBF := hide (show ba = false by rw [HBA.out, Bool.and_eq_false_iff]; right; rw [Bool.and_eq_false_iff]; left; simpa using hf)
            clear HBA
            go_wp2_with (first
              | (go_at_call 25; rw [← HV.out]; refine (Gives.first (refIsName_any _ V hnm)).mono ?_; rintro e w' ⟨rfl, y, rfl⟩)
              | (go_at_call 26; refine (Gives.after (Nat.le_refl _) (HFB.out _ (HBD2.out _) _)).mono ?_; rintro e w' ⟨rfl, y2, rfl⟩))
            go_ret
            exact Gives.mk (congrArg Value.bool (HNB.out k l[k] HX.out (by rw [← HBAE.out]; exact HBF.out)).symm) (HBD.out ⟨_, HBD2.out _⟩)
          · have HBF := hide (show ba = betweenB l[k].weight 0 16777216 by rw [HBA.out, hi, show (findB l l[k].name == (k : Int)) = true by simpa using hf]; rfl)
            clear HBA
            go_wp2_with (first
              | (go_at_call 25; rw [← HV.out]; refine (Gives.first (refIsName_any _ V hnm)).mono ?_; rintro e w' ⟨rfl, y, rfl⟩)
              | (go_at_call 26; refine (Gives.after (Nat.le_refl _) (HFB.out _ (HBD2.out _) _)).mono ?_; rintro e w' ⟨rfl, y2, rfl⟩))
            all_goals first
              | (go_ret; exact Gives.mk (congrArg Value.bool (HNB.out k l[k] HX.out (by rw [← HBAE.out, HBF.out]; exact betweenB_false.2 (by omega))).symm) (HBD.out ⟨_, HBD2.out _⟩))
              | exact ⟨⟨k + 1, by go_num, by omega, hall.out.next HX.out (by rw [← HBAE.out, HBF.out]; exact betweenB_iff.2 (by omega)), ⟨_, HBD2.out _⟩, rfl⟩, by simp [intOf]; omega⟩
        · have HBF := hide (show ba = false by rw [HBA.out, hi]; rfl)
          clear HBA
          go_wp2_with (go_at_call 25; rw [← HV.out]; refine (Gives.first (refIsName_any _ V hnm)).mono ?_; rintro e w' ⟨rfl, y, rfl⟩)
          go_ret
          exact Gives.mk (congrArg Value.bool (HNB.out k l[k] HX.out (by rw [← HBAE.out]; exact HBF.out)).symm) (HBD.out ⟨_, HBD2.out _⟩)
      · have hkl : k = l.length := by omega
        subst hkl
        go_wp2
        go_loopw [5, 6] (fun u v wr => ∃ k' : Nat, v = .int .i64 k' ∧ u = .int .i64 ((hauls (l'.take k') : Nat) : Int) ∧ k' ≤ l'.length ∧ Hid (UpTo (ropeAt l l') l' k') ∧ ∃ x : After W.heap.size W, wr = x.val) (fun _ v _ => l'.length - (intOf v).toNat)
        case atStart => exact ⟨0, rfl, rfl, Nat.zero_le _, UpTo.zero _ _, _, rfl⟩
        case round =>
          obtain ⟨k', rfl, rfl, hk', hall', x', rfl⟩ := hrel
          by_cases hlt' : k' < l'.length
          · obtain ⟨b, off, hA, hb, hcell⟩ := HSR.out.2.2 (show 0 < l'.length by omega)
            simp only at hA
            subst hA
            have hx : l'[k']? = some l'[k'] := List.getElem?_eq_getElem hlt'
            have hmem := List.getElem_mem hlt'
            have hrok := HOR.out l'[k'] hmem
            have hnm := hrok.name
            have he := fun x : After W.heap.size W => RopeD.elem hx hb hcell x
            have HX := hide hx
            have HM := hide hmem
            clear hcell hx hmem
            obtain ⟨V, hV, hVs, hVb, hVh⟩ := boxed x'.val (.cells #[.string l'[k'].name, .slice l'[k'].holds.A l'[k'].holds.l.length l'[k'].holds.cap, .bool l'[k'].hauled] 53)
            have hc2 := fun y : After V.heap.size V => RopeD.boxed hVh (by omega) y
            have hbd2 : ∀ y : After V.heap.size V, Below W.heap.size W y.val := fun y => x'.below.trans ((hVb.mono x'.size).trans (y.below.mono (by have := x'.size; omega)))
            have hcS2 := fun y : After V.heap.size V => hc ⟨y.val, hbd2 y⟩
            simp only at hcS2
            have HV := hide hV
            have HBD2 := hide hbd2
            clear hV hVs hVh hVb hbd2
            have hhn := hauls_next HX.out
            have hhl := hauls_le l' k'
            have HHN := hide hhn
            clear hhn
            have HRA := hide (ropeAt_cases (bl := l) (l := l') (k := k') (x := l'[k']))
            obtain ⟨ra, hra⟩ : ∃ ra, ra = ropeAt l l' k' l'[k'] := ⟨_, rfl⟩
            rw [← hra] at HRA
            have HRAE := hide hra
            clear hra
            rcases Bool.eq_false_or_eq_true (isName l'[k'].name) with hi | hi
            · rcases Bool.eq_false_or_eq_true (findR l' l'[k'].name != (k' : Int)) with hf | hf
              · have HBF := hide (show ra = false by rw [HRA.out, Bool.and_eq_false_iff]; right; rw [Bool.and_eq_false_iff]; left; simpa using hf)
                clear HRA
                go_wp2_with (first
                  | (go_at_call 25; rw [← HV.out]; refine (Gives.first (refIsName_any _ V hnm)).mono ?_; rintro e w' ⟨rfl, y, rfl⟩)
                  | (go_at_call 27; refine (Gives.after (Nat.le_refl _) (HFR.out _ (HBD2.out _) _)).mono ?_; rintro e w' ⟨rfl, y2, rfl⟩)
                  | (go_at_call 26; refine (Gives.after (Nat.le_refl _) (HFB.out _ (HBD2.out _) _)).mono ?_; rintro e w' ⟨rfl, y3, rfl⟩)
                  | (go_at_call 28; refine (Gives.after (Nat.le_refl _) (HRO.out _ (HBD2.out _) l'[k'] hrok HM.out)).mono ?_; rintro e w' ⟨rfl, y4, rfl⟩))
                go_ret
                exact Gives.mk (congrArg Value.bool (HNR.out k' l'[k'] HX.out (by rw [← HRAE.out]; exact HBF.out)).symm) (HBD.out ⟨_, HBD2.out _⟩)
              · have hfe : (findR l' l'[k'].name == (k' : Int)) = true := by simpa using hf
                have HBF := hide (show ra = (decide (findB l l'[k'].name < 0) && ropeOk l l'[k']) by rw [HRA.out, hi, hfe]; rfl)
                clear HRA hfe
                by_cases hg : 0 ≤ findB l l'[k'].name
                · have HBG := hide (show ra = false by rw [HBF.out, decide_eq_false (by omega)]; rfl)
                  clear HBF
                  go_wp2_with (first
                  | (go_at_call 25; rw [← HV.out]; refine (Gives.first (refIsName_any _ V hnm)).mono ?_; rintro e w' ⟨rfl, y, rfl⟩)
                  | (go_at_call 27; refine (Gives.after (Nat.le_refl _) (HFR.out _ (HBD2.out _) _)).mono ?_; rintro e w' ⟨rfl, y2, rfl⟩)
                  | (go_at_call 26; refine (Gives.after (Nat.le_refl _) (HFB.out _ (HBD2.out _) _)).mono ?_; rintro e w' ⟨rfl, y3, rfl⟩)
                  | (go_at_call 28; refine (Gives.after (Nat.le_refl _) (HRO.out _ (HBD2.out _) l'[k'] hrok HM.out)).mono ?_; rintro e w' ⟨rfl, y4, rfl⟩))
                  go_ret
                  exact Gives.mk (congrArg Value.bool (HNR.out k' l'[k'] HX.out (by rw [← HRAE.out]; exact HBG.out)).symm) (HBD.out ⟨_, HBD2.out _⟩)
                · have hg2 : findB l l'[k'].name < 0 := by omega
                  have HBG := hide (show ra = ropeOk l l'[k'] by rw [HBF.out, decide_eq_true hg2]; rfl)
                  clear HBF
                  rcases Bool.eq_false_or_eq_true (ropeOk l l'[k']) with hw | hw
                  · have HU := hide (show (hauls (l'.take (k' + 1)) : Int) = (hauls (l'.take k') : Int) + (if l'[k'].hauled then 1 else 0) by rw [HHN.out]; cases l'[k'].hauled <;> simp)
                    rw [hw] at HBG
                    go_wp2_with (first
                  | (go_at_call 25; rw [← HV.out]; refine (Gives.first (refIsName_any _ V hnm)).mono ?_; rintro e w' ⟨rfl, y, rfl⟩)
                  | (go_at_call 27; refine (Gives.after (Nat.le_refl _) (HFR.out _ (HBD2.out _) _)).mono ?_; rintro e w' ⟨rfl, y2, rfl⟩)
                  | (go_at_call 26; refine (Gives.after (Nat.le_refl _) (HFB.out _ (HBD2.out _) _)).mono ?_; rintro e w' ⟨rfl, y3, rfl⟩)
                  | (go_at_call 28; refine (Gives.after (Nat.le_refl _) (HRO.out _ (HBD2.out _) l'[k'] hrok HM.out)).mono ?_; rintro e w' ⟨rfl, y4, rfl⟩))
                    all_goals
                      have hu1 := HU.out
                      refine ⟨⟨k' + 1, by go_num, ?_, by omega, hall'.out.next HX.out (by rw [← HRAE.out]; exact HBG.out), ⟨_, HBD2.out _⟩, rfl⟩, by simp [intOf]; omega⟩
                      rw [hu1]
                      simp_all
                  · rw [hw] at HBG
                    go_wp2_with (first
                  | (go_at_call 25; rw [← HV.out]; refine (Gives.first (refIsName_any _ V hnm)).mono ?_; rintro e w' ⟨rfl, y, rfl⟩)
                  | (go_at_call 27; refine (Gives.after (Nat.le_refl _) (HFR.out _ (HBD2.out _) _)).mono ?_; rintro e w' ⟨rfl, y2, rfl⟩)
                  | (go_at_call 26; refine (Gives.after (Nat.le_refl _) (HFB.out _ (HBD2.out _) _)).mono ?_; rintro e w' ⟨rfl, y3, rfl⟩)
                  | (go_at_call 28; refine (Gives.after (Nat.le_refl _) (HRO.out _ (HBD2.out _) l'[k'] hrok HM.out)).mono ?_; rintro e w' ⟨rfl, y4, rfl⟩))
                    go_ret
                    exact Gives.mk (congrArg Value.bool (HNR.out k' l'[k'] HX.out (by rw [← HRAE.out]; exact HBG.out)).symm) (HBD.out ⟨_, HBD2.out _⟩)
            · have HBF := hide (show ra = false by rw [HRA.out, hi]; rfl)
              clear HRA
              go_wp2_with (first
                  | (go_at_call 25; rw [← HV.out]; refine (Gives.first (refIsName_any _ V hnm)).mono ?_; rintro e w' ⟨rfl, y, rfl⟩)
                  | (go_at_call 27; refine (Gives.after (Nat.le_refl _) (HFR.out _ (HBD2.out _) _)).mono ?_; rintro e w' ⟨rfl, y2, rfl⟩)
                  | (go_at_call 26; refine (Gives.after (Nat.le_refl _) (HFB.out _ (HBD2.out _) _)).mono ?_; rintro e w' ⟨rfl, y3, rfl⟩)
                  | (go_at_call 28; refine (Gives.after (Nat.le_refl _) (HRO.out _ (HBD2.out _) l'[k'] hrok HM.out)).mono ?_; rintro e w' ⟨rfl, y4, rfl⟩))
              go_ret
              exact Gives.mk (congrArg Value.bool (HNR.out k' l'[k'] HX.out (by rw [← HRAE.out]; exact HBF.out)).symm) (HBD.out ⟨_, HBD2.out _⟩)
          · have hkl' : k' = l'.length := by omega
            subst hkl'
            rw [List.take_length]
            have HRES := hide (HY.out l.length l'.length HDT.out (Nat.le_refl _) hall.out (Nat.le_refl _) hall'.out)
            go_wp2
            go_ret
            exact Gives.mk (congrArg Value.bool (by rw [HRES.out, Bool.eq_iff_iff]; simp; omega)) (HBD.out _)
  · have HDF := hide (HNH.out (by rw [Bool.eq_false_iff]; intro h; exact hb1 (HHD.out.1 h)))
    rw [betweenB_iff, betweenB_iff] at hb1
    go_enter Tryz.func10, Tryz.ntmps10
    go_wp2
    all_goals first
      | (go_ret; rw [← HW.out]; exact Gives.mk (congrArg Value.bool HDF.out.symm) HWb.out)
      | (exfalso; omega)
end Go.Proofs.YtgamhdbcejkllaaGreatDoor
