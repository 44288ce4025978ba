/- loftblocklaw10.ReevingTurned: the walk of the law. -/
import Derived.Test.YtgamhdbcejkllaaDoorReeveAwake
import Derived.Test.YtgamhdbcejkllaaDoorTurnMem
import Derived.Test.YtgamhdbcejkllaaDoorReeveMats
namespace Go.Proofs.YtgamhdbcejkllaaDoor
open Go.RowKit

theorem MatAt.grown {w w' : World} {n0 R C g : Nat} {f : Nat → Nat → Int} (h : MatAt n0 R C f w) (hg : w.grownBy w' (some g)) (hlt : g < n0) : MatAt n0 R C f w' := by
  have hz := h.size
  exact ⟨h.outer.of_block (hg.block _ (by omega) (by simp; omega)), fun r hr => (h.inner r hr).of_block (hg.block _ (by omega) (by simp; omega)), Nat.le_trans hz hg.size⟩
set_option maxRecDepth 100000 in
set_option maxHeartbeats 16000000 in
theorem reevingTurned_any (s : SysD) (hok : s.ok) (w : World) (ht : Tabs w) (B : Nat) (hB : B ≤ w.heap.size) (hat : SysD.at_ w B s) :
    Calls Tryd.prog 5 #[.agg #[.slice s.blocks.A s.blocks.l.length s.blocks.cap, .slice s.ropes.A s.ropes.l.length s.ropes.cap]] w (Gives w (.bool true)) := by
  obtain ⟨W, hW, hWs, hWb, hWh⟩ := boxed w (.cells #[.slice s.blocks.A s.blocks.l.length s.blocks.cap, .slice s.ropes.A s.ropes.l.length s.ropes.cap] 25)
  have hc := fun y : After W.heap.size W => SysD.boxed hWh (by omega) y
  have hbd : ∀ y : After W.heap.size W, Below w.heap.size w y.val := fun y => hWb.trans (y.below.mono (by omega))
  have hatW : ∀ v : World, Below W.heap.size W v → SysD.at_ v W.heap.size s := fun v hv => (hat.to (hWb.mono hB) (by omega)).to hv (Nat.le_refl _)
  have KA := hide (Gives.first (awake10 W (ht.below hWb)))
  have KR := hide fun y : After W.heap.size W => ready_any s hok y.val W.heap.size y.size (hatW y.val y.below)
  have HW := hide hW
  have HBD := hide hbd
  by_cases hv : sysOk s = true
  · obtain ⟨⟨hR1, hR6, hC1, hC6⟩, _, hrl⟩ := sysOk_parts hv
    have KC := hide fun y : After W.heap.size W => copy_any s hv y.val W.heap.size y.size (hatW y.val y.below)
    have KM := hide fun (v : World) (hv' : Below W.heap.size W v) => matrix_good s hok hv v W.heap.size hv'.size (hatW v hv')
    have HSY := hide (fun (t : SysD) (hb : t.blocks.l = s.blocks.l) (h : Turned s.ropes.l t.ropes.l) => And.intro (sysOk_turn hv hb h) (matF_turn (s := s) (t := t) hb h))
    have HOK := hide hok
    have HRL := hide (show ∀ r ∈ s.ropes.l, 2 ≤ r.holds.l.length ∧ r.holds.l.length ≤ 10 from fun r hr => ⟨(ropeOk_parts (ropeOk_of hv hr)).1, (ropeOk_parts (ropeOk_of hv hr)).2.1⟩)
    have HV := hide hv
    have hlcb : s.blocks.l.length ≤ s.blocks.cap := hat.blocks.1
    have hmb : s.blocks.cap ≤ 9223372036854775807 := hat.blocks.2.1
    have hlcr : s.ropes.l.length ≤ s.ropes.cap := hat.ropes.1
    have hmr : s.ropes.cap ≤ 9223372036854775807 := hat.ropes.2.1
    clear hW hWs hWh hWb hbd hat hatW ht hv hrl hok
    go_enter Tryd.func5, Tryd.ntmps5
    go_wp2_with fail
    rw [← HW.out]
    refine KA.out.mono ?_
    rintro e w1 ⟨rfl, y1, rfl⟩
    go_wp2_with fail
    refine (KR.out y1).mono ?_
    rintro e w1 ⟨b, _, rfl, hb⟩
    obtain ⟨y2, rfl⟩ := After.exists_iff (y1.below.trans (hb.mono y1.size))
    clear hb
    cases b
    · go_wp2
      go_ret
      exact Gives.mk rfl (HBD.out _)
    go_wp2_with fail
    refine (KC.out y2).mono ?_
    rintro e w3 ⟨t, rfl, hcp, hb3⟩
    have hW3 : Below W.heap.size W w3 := y2.below.trans (hb3.mono y2.size)
    have hy2 := y2.size
    obtain ⟨base, hbase⟩ : ∃ base, base = y2.val.heap.size := ⟨_, rfl⟩
    rw [← hbase] at hcp hy2
    clear hbase hb3
    obtain ⟨⟨TA, capb, tl⟩, ⟨RA, capr, trl⟩⟩ := t
    obtain ⟨hbl, ⟨gb, hTA, hgb, hblk⟩, ⟨hbc1, hbc2⟩, ⟨gr, G, H, hRA, hgr0, hrl, hrr, hhold, hinc⟩, hrc1, hrc2⟩ := hcp
    simp only at hbl hTA hbc1 hbc2 hRA hrl hrr hrc1 hrc2
    subst hbl hTA hRA hrl
    simp only [ropesC_length]
    obtain ⟨X, hX, hXs, hXb, hXh⟩ := boxed w3 (.cells #[.slice (some ⟨gb, 0, none⟩) s.blocks.l.length capb, .slice (some ⟨gr, 0, none⟩) s.ropes.l.length capr] 25)
    have hWX : Below W.heap.size W X := hW3.trans (hXb.mono hW3.size)
    have hcX := hc ⟨X, hWX⟩
    simp only at hcX
    have hL0 : LSt X G s.ropes.l 0 X := ⟨fun _ _ _ => rfl, rfl, rfl, rfl, Nat.le_refl _, fun p hp => by
      have e : turnL s.ropes.l 0 p = (fnOf s.ropes.l p).holds.l := by unfold turnL; simp
      rw [e]
      exact (hhold p hp).1.of_block (hXb.block _ (hhold p hp).1.lt)⟩
    have HL0 := hide hL0
    have hrX := hrr.of_block (hXb.block _ hrr.lt)
    have hbX := hblk.of_block (hXb.block _ hblk.lt)
    have hneR : ∀ p, p < s.ropes.l.length → gr ≠ G p := fun p hp => hrr.ne (hhold p hp).1 (by decide)
    have hneB : ∀ p, p < s.ropes.l.length → gb ≠ G p := fun p hp => hblk.ne (hhold p hp).1 (by decide)
    have hneT : ∀ p, p < s.ropes.l.length → w3.heap.size ≠ G p := fun p hp => by have := (hhold p hp).1.lt; omega
    have hGB : ∀ p, p < s.ropes.l.length → W.heap.size ≤ G p := fun p hp => by have := (hhold p hp).2.1; omega
    have hgbT : gb < w3.heap.size := hblk.lt
    have hgrT : gr < w3.heap.size := hrr.lt
    have hgbr : gb ≠ gr := hblk.ne hrr (by decide)
    have hgrl := hrX.lt
    have hgbl := hbX.lt
    have HRX := hide hrX
    have HBX := hide hbX
    have HNR := hide hneR
    have HNB := hide hneB
    have HNT := hide hneT
    have HGB := hide hGB
    have HHC := hide (fun p hp => (hhold p hp).2.2)
    have HINC := hide hinc
    have HXH := hide hXh
    have HX := hide hX
    have HWX := hide hWX
    have hXW := hWX.size
    obtain ⟨T, hT⟩ : ∃ T, T = w3.heap.size := ⟨_, rfl⟩
    rw [← hT] at HNT HXH hgbT hgrT
    have HT := hide hT
    clear hL0 hrX hbX hneR hneB hneT hGB hinc hXh hX hWX hrr hblk hhold hT
    go_wp2
    rw [← HX.out, ← HT.out]
    go_loopw [5, 26] (fun _ v wr => ∃ k : Nat, v = .int .i64 k ∧ k ≤ s.ropes.l.length ∧ Hid (LSt X G s.ropes.l k wr)) (fun _ v _ => s.ropes.l.length - (intOf v).toNat)
    case atStart => exact ⟨0, rfl, Nat.zero_le _, HL0⟩
    case round =>
      obtain ⟨k, rfl, hk, st⟩ := hrel
      obtain ⟨Y, hYe⟩ : ∃ Y, Y = wr := ⟨_, rfl⟩
      subst hYe
      by_cases hkt : k < s.ropes.l.length
      · have hkx : s.ropes.l[k]? = some s.ropes.l[k] := List.getElem?_eq_getElem hkt
        obtain ⟨hh2, hh10⟩ := HRL.out _ (List.getElem_mem hkt)
        have hcap := HHC.out k hkt
        have hrow := HRX.out.of_block (st.out.frame gr hgrl HNR.out)
        have e0 : fnOf (ropesC G H s.ropes.l s.ropes.l.length) k = ropeC G H s.ropes.l k := fnOf_get (ropesC_get _ _ _ hkt)
        have hfn := fnOf_get hkx
        have hrk := st.out.rows k hkt
        have e1 : turnL s.ropes.l k k = (fnOf s.ropes.l k).holds.l := by unfold turnL; simp
        rw [e1, hfn] at hrk
        rw [hfn] at hcap
        obtain ⟨r, hr⟩ : ∃ r, r = s.ropes.l[k] := ⟨_, rfl⟩
        rw [← hr] at hfn hh2 hh10 hcap hrk hkx
        have e2 : ropeC G H s.ropes.l k = ⟨r.name, ⟨some ⟨G k, 0, none⟩, H k, r.holds.l⟩, r.hauled⟩ := by rw [ropeC, hfn]
        have her : Y.cell? ⟨gr, k * 3, none⟩ = some (.string r.name) ∧ Y.cell? ⟨gr, k * 3 + 1, none⟩ = some (.slice (some ⟨G k, 0, none⟩) r.holds.l.length (H k)) ∧ Y.cell? ⟨gr, k * 3 + 2, none⟩ = some (.bool r.hauled) :=
          ⟨by simpa using hrow.cell (c := 0) hkt (by rw [e0, e2]; rfl), by simpa using hrow.cell (c := 1) hkt (by rw [e0, e2]; rfl), by simpa using hrow.cell (c := 2) hkt (by rw [e0, e2]; rfl)⟩
        obtain ⟨V, hV, hVs, hVb, hVh⟩ := boxed Y (.cells #[.string r.name, .slice (some ⟨G k, 0, none⟩) r.holds.l.length (H k), .bool r.hauled] 40)
        have hm := hcap.2
        unfold maxLen at hm
        have KREV := hide (reverseH_any (fnOf r.holds.l) r.holds.l.length (G k) (H k) (by omega) (by omega) hcap.1 (by omega) V (hrk.of_block (hVb.block _ hrk.lt)))
        have HSTV := hide (st.out.more hVb)
        have HV := hide hV
        have HKX := hide hkx
        clear hr hV hVb hVh hrow e0 hfn hrk e1 e2 hkx hcap hm
        rcases Bool.eq_false_or_eq_true r.hauled with hu | hu
        · have HU := hide hu
          go_wp2
          rw [← hu, ← HV.out]
          exact ⟨⟨k + 1, by go_num, by omega, hide (HSTV.out.keep HKX.out hu)⟩, by simp [intOf]; omega⟩
        · have HU := hide hu
          have hv2 := HV.out
          rw [hu] at hv2
          have HV2 := hide hv2
          clear hv2
          go_wp2_with (go_at_call 18; rw [← HV2.out]; refine KREV.out.mono ?_; rintro e z ⟨rfl, hzr, hzg, hzs⟩)
          exact ⟨⟨k + 1, by go_num, by omega, hide (HSTV.out.turn HKX.out HU.out HINC.out hzg hzr)⟩, by simp [intOf]; omega⟩
      · have hkl : k = s.ropes.l.length := by omega
        subst hkl
        have hTX : T < X.heap.size := by have := HT.out; omega
        have HA := hide (show SysD.at_ Y Y.heap.size ⟨⟨some ⟨gb, 0, none⟩, capb, s.blocks.l⟩, ⟨some ⟨gr, 0, none⟩, capr, turnsC G H s.ropes.l s.ropes.l.length⟩⟩ from by
          have hYs := st.out.size
          have hbY := HBX.out.of_block (st.out.frame gb hgbl HNB.out)
          have hrY := HRX.out.of_block (st.out.frame gr hgrl HNR.out)
          refine ⟨hbY.slAt hbc1 hbc2 (by omega), ?_, fun r hr => ?_⟩
          · refine RowFn.slAt (size := 3) (t := 40) (by
              rw [turnsC_length]
              obtain ⟨cur, a1, a2, a3⟩ := hrY
              refine ⟨cur, a1, a2, fun p hp c u hu => a3 p hp c u ?_⟩
              rw [fnOf_get (turnsC_get _ _ _ _ hp), turn_cells] at hu
              rw [fnOf_get (ropesC_get _ _ _ hp)]; exact hu) (by rw [turnsC_length]; exact hrc1) hrc2 (by omega)
          · obtain ⟨p, hp, e⟩ := List.getElem_of_mem hr
            rw [turnsC_length] at hp
            have e2 := turnsC_get G H s.ropes.l s.ropes.l.length hp
            rw [List.getElem?_eq_getElem (by rw [turnsC_length]; exact hp), e] at e2
            injection e2 with e2
            rw [e2]
            have h1 := st.out.rows p hp
            have h2 := HHC.out p hp
            exact RowFn.slAt h1 (by rw [turnL_length]; exact h2.1) h2.2 h1.lt)
        have HOK1 := hide (show SysD.ok ⟨⟨some ⟨gb, 0, none⟩, capb, s.blocks.l⟩, ⟨some ⟨gr, 0, none⟩, capr, turnsC G H s.ropes.l s.ropes.l.length⟩⟩ from by
          refine ⟨HOK.out.blocks, fun r hr => ?_⟩
          obtain ⟨p, hp, e⟩ := List.getElem_of_mem hr
          rw [turnsC_length] at hp
          have e2 := turnsC_get G H s.ropes.l s.ropes.l.length hp
          rw [List.getElem?_eq_getElem (by rw [turnsC_length]; exact hp), e] at e2
          injection e2 with e2
          rw [e2]
          have hx := fnOf_get (List.getElem?_eq_getElem hp)
          have h1 := HOK.out.ropes _ (List.getElem_mem hp)
          refine ⟨by simp only [turnC]; rw [hx]; exact h1.name, fun h hh => h1.holds h ?_⟩
          simp only [turnC, turnL] at hh
          rw [hx] at hh
          split at hh
          · exact List.mem_reverse.1 hh
          · exact hh)
        obtain ⟨t1, ht1⟩ : ∃ t1 : SysD, t1 = ⟨⟨some ⟨gb, 0, none⟩, capb, s.blocks.l⟩, ⟨some ⟨gr, 0, none⟩, capr, turnsC G H s.ropes.l s.ropes.l.length⟩⟩ := ⟨_, rfl⟩
        have HSY1 := hide (HSY.out t1 (by rw [ht1]) (by rw [ht1]; exact turnsC_turned _ _ _))
        rw [← ht1] at HA HOK1
        have hWY := HWX.out.trans (st.out.below hXW HGB.out)
        have hTY := (st.out.frame T hTX HNT.out).trans HXH.out
        have hYs := st.out.size
        have hbY := HBX.out.of_block (st.out.frame gb hgbl HNB.out)
        have hrY := HRX.out.of_block (st.out.frame gr hgrl HNR.out)
        have hTc := fun y : After Y.heap.size Y => two_cells ((y.below.block T (by omega)).trans hTY)
        have hcY := fun y : After Y.heap.size Y => hc ⟨y.val, hWY.trans (y.below.mono hWY.size)⟩
        simp only at hcY
        have HBY := hide hbY
        have HRT := hide (show RowFn Y gr 40 3 s.ropes.l.length RopeD.cells (fnOf (turnsC G H s.ropes.l s.ropes.l.length)) from by
          obtain ⟨cur, a1, a2, a3⟩ := hrY
          refine ⟨cur, a1, a2, fun p hp c u hu => a3 p hp c u ?_⟩
          rw [fnOf_get (turnsC_get _ _ _ _ hp), turn_cells] at hu
          rw [fnOf_get (ropesC_get _ _ _ hp)]; exact hu)
        have HTY := hide hTY
        have HWY := hide hWY
        have YR : Y = (After.refl Y.heap.size Y).val := rfl
        have hT0 := hTc (After.refl _ _)
        have hc0 := hcY (After.refl _ _)
        simp only [After.refl] at hT0 hc0
        clear hbY hrY hTY hWY hcX
        go_wp2_with fail
        refine (KM.out Y HWY.out).mono ?_
        rintro e Z1 ⟨n1, hn1, rfl, hP1, hb1⟩
        have hc1 := hcY ⟨Z1, hb1⟩
        have hT1 := hTc ⟨Z1, hb1⟩
        simp only at hc1 hT1
        have KM2 := matrix_good t1 HOK1.out HSY1.out.1 Z1 Y.heap.size hb1.size (HA.out.to hb1 (Nat.le_refl _))
        rw [ht1] at KM2
        simp only [turnsC_length] at KM2
        have KM2 := hide KM2
        go_wp2_with fail
        refine KM2.out.mono ?_
        rintro e Z2 ⟨n2, hn2, rfl, hP2, hb2⟩
        have hP2 : MatAt n2 s.blocks.l.length s.ropes.l.length (matF s.blocks.l s.ropes.l) Z2 := hP2.congr fun i k _ _ => by
          have := HSY1.out.2 i k
          rw [ht1] at this
          exact this
        have hP1 := hP1.below (hb2.mono hP1.size)
        have hYZ2 : Below Y.heap.size Y Z2 := hb1.trans (hb2.mono hb1.size)
        have hc2 := hcY ⟨Z2, hYZ2⟩
        have hT2 := hTc ⟨Z2, hYZ2⟩
        simp only at hc2 hT2
        have HP1 := hide hP1
        have HP2 := hide hP2
        have HYZ2 := hide hYZ2
        have hZ2s := hYZ2.size
        have hZ1s := hb1.size
        clear hP1 hP2 hc1 hT1 KM2 hb1 hb2
        have hcm1 := hbc2
        have hcm2 := hrc2
        unfold maxLen at hcm1 hcm2
        have hbZ2 := HBY.out.of_block (HYZ2.out.block gb HBY.out.lt)
        have hrZ2 := HRT.out.of_block (HYZ2.out.block gr HRT.out.lt)
        have hbl2 := hbZ2.lt
        have hrl2 := hrZ2.lt
        have hTZ2 : T < Z2.heap.size := by omega
        have hTb2 := (HYZ2.out.block T (by omega)).trans HTY.out
        go_wp2_with fail
        refine (reverseB_any (fnOf s.blocks.l) s.blocks.l.length gb capb (by omega) (by omega) hbc1 (by omega) Z2 hbZ2).mono ?_
        rintro e Z3 ⟨rfl, hb3, hg3, hs3⟩
        have hTb3 := (hg3.block T hTZ2 (by simp; omega)).trans hTb2
        have hrZ3 := hrZ2.of_block (hg3.block gr hrl2 (by simp; omega))
        have hW2 : Below W.heap.size W Z2 := HWY.out.trans (HYZ2.out.mono HWY.out.size)
        have hW3' : Below W.heap.size W Z3 := hW2.trans (Below.byMap hg3 (by omega) hW2.size)
        have hT3 := two_cells hTb3
        have hc3 := hc ⟨Z3, hW3'⟩
        simp only at hc3
        go_wp2_with fail
        refine (reverseR_any (fnOf (turnsC G H s.ropes.l s.ropes.l.length)) s.ropes.l.length gr capr (by omega) (by omega) hrc1 (by omega) Z3 hrZ3).mono ?_
        rintro e Z4 ⟨rfl, hr4, hg4, hs4⟩
        have hTb4 := (hg4.block T (by omega) (by simp; omega)).trans hTb3
        have hb4 := hb3.of_block (hg4.block gb hb3.lt (by simp; omega))
        have hW4 : Below W.heap.size W Z4 := hW3'.trans (Below.byMap hg4 (by omega) hW3'.size)
        have hT4 := two_cells hTb4
        have hc4 := hc ⟨Z4, hW4⟩
        simp only at hc4
        have hM1 := (HP1.out.grown hg3 (by omega)).grown hg4 (by omega)
        have hM2 := (HP2.out.grown hg3 (by omega)).grown hg4 (by omega)
        have hHR : ∀ p, p < s.ropes.l.length → RowFn Z4 (G p) 47 4 (turnL s.ropes.l s.ropes.l.length p).length HoldD.cells (fnOf (turnL s.ropes.l s.ropes.l.length p)) := fun p hp => by
          have h0 := st.out.rows p hp
          have h2 := h0.of_block (HYZ2.out.block _ h0.lt)
          have h3 := h2.of_block (hg3.block _ h2.lt (fun e => HNB.out p hp (by injection e with e; exact e.symm)))
          exact h3.of_block (hg4.block _ h3.lt (fun e => HNR.out p hp (by injection e with e; exact e.symm)))
        have hA2 : SysD.at_ Z4 Z4.heap.size ⟨⟨some ⟨gb, 0, none⟩, capb, s.blocks.l.reverse⟩, ⟨some ⟨gr, 0, none⟩, capr, (turnsC G H s.ropes.l s.ropes.l.length).reverse⟩⟩ := by
          refine ⟨RowFn.slAt (t := 37) (by rw [List.length_reverse]; exact hb4.congr fun p hp => (fnOf_rev _ hp).symm) (by rw [List.length_reverse]; exact hbc1) hbc2 (by omega), RowFn.slAt (t := 40) (by
            rw [List.length_reverse, turnsC_length]
            exact hr4.congr fun p hp => by rw [fnOf_rev _ (by rw [turnsC_length]; exact hp), turnsC_length]) (by rw [List.length_reverse, turnsC_length]; exact hrc1) hrc2 (by omega), fun r hr => ?_⟩
          obtain ⟨p, hp, e⟩ := List.getElem_of_mem (List.mem_reverse.1 hr)
          rw [turnsC_length] at hp
          have e2 := turnsC_get G H s.ropes.l s.ropes.l.length hp
          rw [List.getElem?_eq_getElem (by rw [turnsC_length]; exact hp), e] at e2
          injection e2 with e2
          rw [e2]
          exact RowFn.slAt (hHR p hp) (by rw [turnL_length]; exact (HHC.out p hp).1) (HHC.out p hp).2 (hHR p hp).lt
        obtain ⟨t2, ht2⟩ : ∃ t2 : SysD, t2 = ⟨⟨some ⟨gb, 0, none⟩, capb, s.blocks.l.reverse⟩, ⟨some ⟨gr, 0, none⟩, capr, (turnsC G H s.ropes.l s.ropes.l.length).reverse⟩⟩ := ⟨_, rfl⟩
        rw [← ht2] at hA2
        have hfb : t2.blocks.l = t1.blocks.l.reverse := by rw [ht1, ht2]
        have hfr : t2.ropes.l = t1.ropes.l.reverse := by rw [ht1, ht2]
        have hok2 : t2.ok := ⟨fun x hx => HOK1.out.blocks x (by rw [hfb] at hx; exact List.mem_reverse.1 hx), fun x hx => HOK1.out.ropes x (by rw [hfr] at hx; exact List.mem_reverse.1 hx)⟩
        have KM3 := matrix_good t2 hok2 (sysOk_flip HSY1.out.1 hfb hfr) Z4 Z4.heap.size (Nat.le_refl _) hA2
        have hF : ∀ i k, i < s.blocks.l.length → k < s.ropes.l.length → matF t2.blocks.l t2.ropes.l i k = matF s.blocks.l s.ropes.l (s.blocks.l.length - 1 - i) (s.ropes.l.length - 1 - k) := fun i k hi hk => by
          have h1 := matF_flip HSY1.out.1 hfb hfr (i := i) (k := k) (by rw [ht1]; exact hi) (by rw [ht1]; simp only [turnsC_length]; exact hk)
          rw [h1, HSY1.out.2]
          rw [ht1]; simp only [turnsC_length]
        have hlen1 : t2.blocks.l.length = s.blocks.l.length := by rw [ht2]; simp
        have hlen2 : t2.ropes.l.length = s.ropes.l.length := by rw [ht2]; simp [turnsC_length]
        rw [hlen1, hlen2] at KM3
        have HM1 := hide hM1
        have HM2 := hide hM2
        have HF := hide hF
        have HW4 := hide hW4
        rw [ht2] at KM3
        have KM3 := hide KM3
        clear hM1 hM2 hF hW4 hA2 hHR hr4 hg4 hb4 hb3 hg3 hrZ3 hW2 hW3' hbZ2 hrZ2 hTb2 hTb3 hfb hfr hok2
        go_wp2_with fail
        refine KM3.out.mono ?_
        rintro e Z5 ⟨n3, hn3, rfl, hP3, hb5⟩
        obtain ⟨F, hFe⟩ : ∃ F, F = matF s.blocks.l s.ropes.l := ⟨_, rfl⟩
        have hM3 : MatAt n3 s.blocks.l.length s.ropes.l.length (fun i k => F (s.blocks.l.length - 1 - i) (s.ropes.l.length - 1 - k)) Z5 := by
          rw [hFe]
          exact hP3.congr fun i k hi hk => by
            have := HF.out i k hi hk
            rw [ht2] at this
            exact this
        have hM1 := HM1.out.below (hb5.mono HM1.out.size)
        have hM2 := HM2.out.below (hb5.mono HM2.out.size)
        rw [← hFe] at hM1 hM2
        have hW5 : Below W.heap.size W Z5 := HW4.out.trans (hb5.mono HW4.out.size)
        have hc5 := fun y : After Z5.heap.size Z5 => hc ⟨y.val, hW5.trans (y.below.mono hW5.size)⟩
        simp only at hc5
        have HBD5 := hide fun y : After Z5.heap.size Z5 => HBD.out ⟨y.val, hW5.trans (y.below.mono hW5.size)⟩
        have hT5 := two_cells ((hb5.block T (by omega)).trans hTb4)
        have KSM := hide (Gives.first (same_any _ _ F _ _ (by omega) (by omega) Z5 hM1.rows hM2.rows))
        have HM1 := hide fun y : After Z5.heap.size Z5 => hM1.below (y.below.mono hM1.size)
        have HM3 := hide fun y : After Z5.heap.size Z5 => hM3.below (y.below.mono hM3.size)
        have hc50 := hc5 (After.refl _ _)
        simp only [After.refl] at hc50
        clear hP3 hM1 hM2 hM3 HM2 HF HW4 hFe hTb4 hT4 hc4 hb5 KM3
        go_wp2_with (go_at_call 21; refine KSM.out.mono ?_; rintro e z ⟨rfl, y, rfl⟩)
        have hc5' := hc5 y
        obtain ⟨U, hU⟩ : ∃ U, U = y.val := ⟨_, rfl⟩
        go_loopw [12, 13, 91] (fun _ _ v wr => ∃ i : Nat, v = .int .i64 i ∧ i ≤ s.blocks.l.length ∧ ∃ x : After Z5.heap.size Z5, wr = x.val) (fun _ _ v _ => s.blocks.l.length - (intOf v).toNat)
        case atStart => exact ⟨0, rfl, Nat.zero_le _, y, rfl⟩
        case round =>
          obtain ⟨i, rfl, hi, x, rfl⟩ := hrel
          have hcx := hc5 x
          by_cases hit : i < s.blocks.l.length
          · obtain ⟨j, hj⟩ : ∃ j : Nat, (s.blocks.l.length : Int) - 1 - (i : Int) = (j : Int) := ⟨s.blocks.l.length - 1 - i, by omega⟩
            have hjt : j < s.blocks.l.length := by omega
            have hji : s.blocks.l.length - 1 - j = i := by omega
            have hj0 : (0 : Int) ≤ (j : Int) := by omega
            have hj1 : (j : Int) < (s.blocks.l.length : Int) := by omega
            have hi0 : (0 : Int) ≤ (i : Int) := by omega
            have hi1 : (i : Int) < (s.blocks.l.length : Int) := by omega
            have hm1 := fun z : After Z5.heap.size Z5 => (HM1.out z).outerCell hit
            have hm3 := fun z : After Z5.heap.size Z5 => (HM3.out z).outerCell hjt
            have hm1x := hm1 x
            have hm3x := hm3 x
            go_wp2
            refine wp_region_after x (by kernel_rfl) (by kernel_rfl) ?_
            repeat (go_big_quiet_step (fail))
            refine wpQuiet_nil ?_
            intro y
            have hm1y := hm1 y
            clear hm1 hm3 hm1x hm3x hcx
            go_wp2
            go_loopw [14, 15, 126] (fun _ _ v wr => ∃ k : Nat, v = .int .i64 k ∧ k ≤ s.ropes.l.length ∧ ∃ x : After Z5.heap.size Z5, wr = x.val) (fun _ _ v _ => s.ropes.l.length - (intOf v).toNat)
            case atStart => exact ⟨0, rfl, Nat.zero_le _, y, rfl⟩
            case round =>
              obtain ⟨k, rfl, hk, x, rfl⟩ := hrel
              by_cases hkt : k < s.ropes.l.length
              · obtain ⟨l, hl⟩ : ∃ l : Nat, (s.ropes.l.length : Int) - 1 - (k : Int) = (l : Int) := ⟨s.ropes.l.length - 1 - k, by omega⟩
                have hlt : l < s.ropes.l.length := by omega
                have hlk : s.ropes.l.length - 1 - l = k := by omega
                have hl0 : (0 : Int) ≤ (l : Int) := by omega
                have hl1 : (l : Int) < (s.ropes.l.length : Int) := by omega
                have hk0 : (0 : Int) ≤ (k : Int) := by omega
                have hk1 : (k : Int) < (s.ropes.l.length : Int) := by omega
                have hc1x := (HM1.out x).cell hit hkt
                have hc3x := (HM3.out x).cell hjt hlt
                rw [hji, hlk] at hc3x
                go_wp2
                exact ⟨⟨k + 1, by go_num, by omega, x, rfl⟩, by simp [intOf]; omega⟩
              · go_wp2
                exact ⟨⟨i + 1, by go_num, by omega, x, rfl⟩, by simp [intOf]; omega⟩
          · go_wp2
            go_ret
            exact Gives.mk rfl (HBD5.out x)
  · have hv' : sysOk s = false := by simpa using hv
    clear hv
    clear hW hWs hWh hWb hbd hat hatW ht hok
    go_enter Tryd.func5, Tryd.ntmps5
    go_wp2_with fail
    rw [← HW.out]
    refine KA.out.mono ?_
    rintro e w1 ⟨rfl, y1, rfl⟩
    go_wp2_with fail
    refine (KR.out y1).mono ?_
    rintro e w1 ⟨b, hbv, rfl, hb⟩
    obtain ⟨y2, rfl⟩ := After.exists_iff (y1.below.trans (hb.mono y1.size))
    cases b
    · clear hb
      go_wp2
      go_ret
      exact Gives.mk rfl (HBD.out _)
    · exact absurd (hbv rfl) (by rw [hv']; simp)
end Go.Proofs.YtgamhdbcejkllaaDoor
