/- loftblocklaw32.SectionPlaces: the walk of the law. -/
import Derived.Test.YtfpankbhfgcgaaaSecEx
namespace Go.Proofs.Ytfpankbhfgcgaaa
open Go.RowKit

set_option maxHeartbeats 4000000 in
set_option maxRecDepth 100000 in
theorem sectionPlaces_any (h : HouseD) (hok : h.ok) (nm : ByteArray) (z scale : Int) (w : World) (B : Nat) (hB : B ≤ w.heap.size) (hat : HouseD.at_ w B h) :
    Calls Try.prog 5 #[.agg #[.string h.name, .int .i64 h.height, .slice h.sets.A h.sets.l.length h.sets.cap, .slice h.roofs.A h.roofs.l.length h.roofs.cap], .string nm, .int .i64 z, .int .i64 scale] w (Gives w (.bool true)) := by
  obtain ⟨W, hW, hWs, hWb, hWh⟩ := boxed w (.cells #[.string h.name, .int .i64 h.height, .slice h.sets.A h.sets.l.length h.sets.cap, .slice h.roofs.A h.roofs.l.length h.roofs.cap] 25)
  have hc := fun y : After W.heap.size W => HouseD.boxed hWh (by omega) y
  have hbd : ∀ y : After W.heap.size W, Below w.heap.size w y.val := fun y => hWb.trans (y.below.mono (by omega))
  have hat0 : HouseD.at_ W W.heap.size h := hat.to (hWb.mono hB) (by omega)
  have hatW : ∀ y : After W.heap.size W, HouseD.at_ y.val W.heap.size h := fun y => hat0.to y.below (Nat.le_refl _)
  have KA := hide fun y : After W.heap.size W => Gives.after (x := y) (Nat.le_refl _) (awake32 y.val)
  have KL := hide fun y : After W.heap.size W => Gives.after (x := y) (Nat.le_refl _) (long_any h y.val W.heap.size y.size (hatW y))
  have KS := hide fun y : After W.heap.size W => Gives.after (x := y) (Nat.le_refl _) (secSize_any h hok scale y.val W.heap.size y.size (hatW y))
  have KR := hide fun y : After W.heap.size W => Gives.after (x := y) (Nat.le_refl _) (secRow_any h hok z scale y.val W.heap.size y.size (hatW y))
  have KC := hide fun y : After W.heap.size W => Gives.after (x := y) (Nat.le_refl _) (secCol_any h hok nm scale y.val W.heap.size y.size (hatW y))
  have KG := hide fun y : After W.heap.size W => Gives.after (x := y) (Nat.le_refl _) (refSecGiven_any h hok scale y.val W.heap.size y.size (hatW y))
  have KF := hide fun y : After W.heap.size W => Gives.after (x := y) (Nat.le_refl _) (refFind_any h nm y.val W.heap.size y.size (hatW y))
  have HW := hide hW
  have HBD := hide hbd
  have HAT := hide hatW
  have HA0 := hide hat0
  clear hW hWs hWh hWb hbd hat hatW hat0
  cases hsm : houseSmall h 8
  · go_enter Try.func5, Try.ntmps5
    go_wp2_with fail
    rw [← HW.out]
    refine (KA.out (After.refl _ W)).mono ?_
    rintro e w1 ⟨rfl, y1, rfl⟩
    go_wp2_with fail
    refine (KL.out y1).mono ?_
    rintro e w1 ⟨rfl, y2, rfl⟩
    go_wp2
    go_ret
    exact Gives.mk rfl (HBD.out _)
  · by_cases hnm : 60 < (nm.size : Int)
    · go_enter Try.func5, Try.ntmps5
      go_wp2_with fail
      rw [← HW.out]
      refine (KA.out (After.refl _ W)).mono ?_
      rintro e w1 ⟨rfl, y1, rfl⟩
      go_wp2_with fail
      refine (KL.out y1).mono ?_
      rintro e w1 ⟨rfl, y2, rfl⟩
      go_wp2
      go_ret
      exact Gives.mk rfl (HBD.out _)
    · by_cases h0 : secE h scale = 0
      · obtain ⟨hg, _⟩ := secE_zero h0
        obtain ⟨hh, hs1, hs2⟩ := givenE_zero hg
        obtain ⟨t1, t2⟩ := height_of_ok hh
        have e1 : secSizeE h scale = .tuple #[.int .i64 (secRows h scale), .int .i64 (secCols h scale), .int .i64 0] := by rw [secSizeE, if_pos h0]
        have e2 : secRowE h z scale = if 0 ≤ z ∧ z ≤ h.height then .tuple #[.int .i64 (h.height / scale - z / scale), .int .i64 0] else .tuple #[.int .i64 0, .int .i64 2] := by rw [secRowE, if_pos h0]
        have e3 : secColE h nm scale = if findSet h.sets.l nm < 0 then .tuple #[.int .i64 0, .int .i64 9] else .tuple #[.int .i64 (depthAt h.sets.l (findSet h.sets.l nm).toNat / scale), .int .i64 0] := by rw [secColE, if_pos h0]
        have KZ := hide fun y : After W.heap.size W => Gives.after (x := y) (Nat.le_refl _) (refSecSize_any h hh scale hs1 hs2 y.val W.heap.size y.size (HAT.out y))
        have KS' := KS.out
        rw [e1] at KS'
        have KG' := KG.out
        rw [h0] at KG'
        have KR' := KR.out
        rw [e2] at KR'
        have KC' := KC.out
        rw [e3] at KC'
        have hz := secSet_of_ok hh
        have hcols := HA0.out.sets
        clear e1 e2 e3 h0 hg hh KS KG KR KC
        generalize secRows h scale = RR at *
        generalize secCols h scale = CC at *
        have KS := hide KS'
        have KG := hide KG'
        by_cases hz1 : 0 ≤ z ∧ z ≤ h.height
        · obtain ⟨z0, z1⟩ := hz1
          simp only [if_pos (And.intro z0 z1)] at KR'
          have KRR := hide fun y : After W.heap.size W => Gives.after (x := y) (Nat.le_refl _) (refSecRow_any h (by omega) t2 z scale (by omega) (by omega) hs1 hs2 y.val)
          have KR := hide KR'
          by_cases hf : findSet h.sets.l nm < 0
          · simp only [if_pos hf] at KC'
            have KC := hide KC'
            clear KS' KG' KR' KC' hz hcols
            generalize findSet h.sets.l nm = fi at *
            generalize h.height / scale - z / scale = rw1 at *
            go_enter Try.func5, Try.ntmps5
            go_wp2_with fail
            rw [← HW.out]
            refine (KA.out (After.refl _ W)).mono ?_
            rintro e w1 ⟨rfl, y1, rfl⟩
            go_wp2_with (first
              | (go_at_call 16; refine (KL.out _).mono ?_; rintro e w2 ⟨rfl, y2, rfl⟩)
              | (go_at_call 22; refine (KS.out _).mono ?_; rintro e w2 ⟨rfl, y3, rfl⟩)
              | (go_at_call 23; refine (KR.out _).mono ?_; rintro e w2 ⟨rfl, y4, rfl⟩)
              | (go_at_call 24; refine (KC.out _).mono ?_; rintro e w2 ⟨rfl, y5, rfl⟩)
              | (go_at_call 19; refine (KG.out _).mono ?_; rintro e w2 ⟨rfl, y6, rfl⟩)
              | (go_at_call 25; refine (KZ.out _).mono ?_; rintro e w2 ⟨rfl, y7, rfl⟩)
              | (go_at_call 26; refine (KRR.out _).mono ?_; rintro e w2 ⟨rfl, y8, rfl⟩)
              | (go_at_call 27; refine (KF.out _).mono ?_; rintro e w2 ⟨rfl, y9, rfl⟩))
            go_ret
            exact Gives.mk (by simp) (HBD.out _)
          · obtain ⟨k, s, hk, hks, _⟩ := findSet_lt hf
            simp only [if_neg hf] at KC'
            rw [hk, Int.toNat_natCast, depthAt_of hks] at KC'
            have KC := hide KC'
            have KF' := KF.out
            rw [hk] at KF'
            have KF := hide KF'
            have hkl : k < h.sets.l.length := (List.getElem?_eq_some_iff.1 hks).1
            have hlc : h.sets.l.length ≤ h.sets.cap := hcols.1
            have hm : h.sets.cap ≤ 9223372036854775807 := hcols.2.1
            obtain ⟨b, off, hA, hbk, hcell⟩ := hcols.2.2 (by omega)
            have hdp : ∀ x : After W.heap.size W, x.val.cell? ⟨b, off + k * 13 + 1, none⟩ = some (.int .i64 s.depth) := fun x => (SetD.elem hks hbk hcell x).2.1
            have hsm := List.mem_of_getElem? hks
            have d0 := (hz s hsm).d0
            have d1 := (hz s hsm).d1
            obtain ⟨e0, e1⟩ := quo_bound d0 d1 hs1
            have k0 : (0 : Int) ≤ (k : Int) := by omega
            have k1 : (k : Int) < (h.sets.l.length : Int) := by omega
            clear KS' KG' KR' KC' KF' hz hcols hcell hks hk hsm hf HA0
            generalize h.height / scale - z / scale = rw1 at *
            obtain ⟨name, height, ⟨A, cap, l⟩, roofs⟩ := h
            simp only at *
            subst hA
            go_enter Try.func5, Try.ntmps5
            go_wp2_with fail
            rw [← HW.out]
            refine (KA.out (After.refl _ W)).mono ?_
            rintro e w1 ⟨rfl, y1, rfl⟩
            go_wp2_with (first
              | (go_at_call 16; refine (KL.out _).mono ?_; rintro e w2 ⟨rfl, y2, rfl⟩)
              | (go_at_call 22; refine (KS.out _).mono ?_; rintro e w2 ⟨rfl, y3, rfl⟩)
              | (go_at_call 23; refine (KR.out _).mono ?_; rintro e w2 ⟨rfl, y4, rfl⟩)
              | (go_at_call 24; refine (KC.out _).mono ?_; rintro e w2 ⟨rfl, y5, rfl⟩)
              | (go_at_call 19; refine (KG.out _).mono ?_; rintro e w2 ⟨rfl, y6, rfl⟩)
              | (go_at_call 25; refine (KZ.out _).mono ?_; rintro e w2 ⟨rfl, y7, rfl⟩)
              | (go_at_call 26; refine (KRR.out _).mono ?_; rintro e w2 ⟨rfl, y8, rfl⟩)
              | (go_at_call 27; refine (KF.out _).mono ?_; rintro e w2 ⟨rfl, y9, rfl⟩))
            go_ret
            exact Gives.mk (by simp) (HBD.out _)
        · simp only [if_neg hz1] at KR'
          have KR := hide KR'
          have hz' : z < 0 ∨ (¬ z < 0 ∧ h.height < z) := by omega
          clear hz1
          by_cases hf : findSet h.sets.l nm < 0
          · simp only [if_pos hf] at KC'
            have KC := hide KC'
            clear KS' KG' KR' KC' hz hcols
            generalize findSet h.sets.l nm = fi at *
            rcases hz' with hz | ⟨hz, hz2⟩
            all_goals
              go_enter Try.func5, Try.ntmps5
              go_wp2_with fail
              rw [← HW.out]
              refine (KA.out (After.refl _ W)).mono ?_
              rintro e w1 ⟨rfl, y1, rfl⟩
              go_wp2_with (first
                | (go_at_call 16; refine (KL.out _).mono ?_; rintro e w2 ⟨rfl, y2, rfl⟩)
                | (go_at_call 22; refine (KS.out _).mono ?_; rintro e w2 ⟨rfl, y3, rfl⟩)
                | (go_at_call 23; refine (KR.out _).mono ?_; rintro e w2 ⟨rfl, y4, rfl⟩)
                | (go_at_call 24; refine (KC.out _).mono ?_; rintro e w2 ⟨rfl, y5, rfl⟩)
                | (go_at_call 19; refine (KG.out _).mono ?_; rintro e w2 ⟨rfl, y6, rfl⟩)
                | (go_at_call 25; refine (KZ.out _).mono ?_; rintro e w2 ⟨rfl, y7, rfl⟩)
                | (go_at_call 27; refine (KF.out _).mono ?_; rintro e w2 ⟨rfl, y9, rfl⟩))
              go_ret
              exact Gives.mk (by simp) (HBD.out _)
          · obtain ⟨k, s, hk, hks, _⟩ := findSet_lt hf
            simp only [if_neg hf] at KC'
            rw [hk, Int.toNat_natCast, depthAt_of hks] at KC'
            have KC := hide KC'
            have KF' := KF.out
            rw [hk] at KF'
            have KF := hide KF'
            have hkl : k < h.sets.l.length := (List.getElem?_eq_some_iff.1 hks).1
            have hlc : h.sets.l.length ≤ h.sets.cap := hcols.1
            have hm : h.sets.cap ≤ 9223372036854775807 := hcols.2.1
            obtain ⟨b, off, hA, hbk, hcell⟩ := hcols.2.2 (by omega)
            have hdp : ∀ x : After W.heap.size W, x.val.cell? ⟨b, off + k * 13 + 1, none⟩ = some (.int .i64 s.depth) := fun x => (SetD.elem hks hbk hcell x).2.1
            have hsm := List.mem_of_getElem? hks
            have d0 := (hz s hsm).d0
            have d1 := (hz s hsm).d1
            obtain ⟨e0, e1⟩ := quo_bound d0 d1 hs1
            have k0 : (0 : Int) ≤ (k : Int) := by omega
            have k1 : (k : Int) < (h.sets.l.length : Int) := by omega
            clear KS' KG' KR' KC' KF' hz hcols hcell hks hk hsm hf HA0
            obtain ⟨name, height, ⟨A, cap, l⟩, roofs⟩ := h
            simp only at *
            subst hA
            rcases hz' with hz | ⟨hz, hz2⟩
            all_goals
              go_enter Try.func5, Try.ntmps5
              go_wp2_with fail
              rw [← HW.out]
              refine (KA.out (After.refl _ W)).mono ?_
              rintro e w1 ⟨rfl, y1, rfl⟩
              go_wp2_with (first
                | (go_at_call 16; refine (KL.out _).mono ?_; rintro e w2 ⟨rfl, y2, rfl⟩)
                | (go_at_call 22; refine (KS.out _).mono ?_; rintro e w2 ⟨rfl, y3, rfl⟩)
                | (go_at_call 23; refine (KR.out _).mono ?_; rintro e w2 ⟨rfl, y4, rfl⟩)
                | (go_at_call 24; refine (KC.out _).mono ?_; rintro e w2 ⟨rfl, y5, rfl⟩)
                | (go_at_call 19; refine (KG.out _).mono ?_; rintro e w2 ⟨rfl, y6, rfl⟩)
                | (go_at_call 25; refine (KZ.out _).mono ?_; rintro e w2 ⟨rfl, y7, rfl⟩)
                | (go_at_call 27; refine (KF.out _).mono ?_; rintro e w2 ⟨rfl, y9, rfl⟩))
              go_ret
              exact Gives.mk (by simp) (HBD.out _)
      · have e1 : secSizeE h scale = .tuple #[.int .i64 0, .int .i64 0, .int .i64 (secE h scale)] := by rw [secSizeE, if_neg h0]
        have e2 : secRowE h z scale = .tuple #[.int .i64 0, .int .i64 (secE h scale)] := by rw [secRowE, if_neg h0]
        have e3 : secColE h nm scale = .tuple #[.int .i64 0, .int .i64 (secE h scale)] := by rw [secColE, if_neg h0]
        have KS' := KS.out
        rw [e1] at KS'
        have KR' := KR.out
        rw [e2] at KR'
        have KC' := KC.out
        rw [e3] at KC'
        have KS := hide KS'
        have KR := hide KR'
        have KC := hide KC'
        have h1 : (secE h scale != 0) = true := by rw [bne_iff_ne]; exact h0
        clear e1 e2 e3 KS' KR' KC' h0 HA0 HAT
        generalize secE h scale = E at *
        go_enter Try.func5, Try.ntmps5
        go_wp2_with fail
        rw [← HW.out]
        refine (KA.out (After.refl _ W)).mono ?_
        rintro e w1 ⟨rfl, y1, rfl⟩
        go_wp2_with (first
          | (go_at_call 16; refine (KL.out _).mono ?_; rintro e w2 ⟨rfl, y2, rfl⟩)
          | (go_at_call 22; refine (KS.out _).mono ?_; rintro e w2 ⟨rfl, y3, rfl⟩)
          | (go_at_call 23; refine (KR.out _).mono ?_; rintro e w2 ⟨rfl, y4, rfl⟩)
          | (go_at_call 24; refine (KC.out _).mono ?_; rintro e w2 ⟨rfl, y5, rfl⟩)
          | (go_at_call 19; refine (KG.out _).mono ?_; rintro e w2 ⟨rfl, y6, rfl⟩))
        go_ret
        exact Gives.mk (by simp) (HBD.out _)
end Go.Proofs.Ytfpankbhfgcgaaa
