/- reeving.Text of a valid system: the walk. -/
import Derived.Test.YtgamhdbcejkllaaGreatDoorReeveText
namespace Go.Proofs.YtgamhdbcejkllaaGreatDoor
open Go.RowKit

set_option maxRecDepth 100000 in
set_option maxHeartbeats 8000000 in
theorem text_good (s : SysD) (hok : s.ok) (hv : sysOk s = true) (fit : TextFit s) (w : World) (ht : Tabs w) (B : Nat) (hB : B ≤ w.heap.size) (hat : SysD.at_ w B s) :
    Calls Tryz.prog 9 #[.agg #[.slice s.blocks.A s.blocks.l.length s.blocks.cap, .slice s.ropes.A s.ropes.l.length s.ropes.cap]] w (Gives w (.tuple #[.string ⟨(sysT s).toArray⟩, .int .i64 0])) := by
  obtain ⟨⟨hR1, hR6, hC1, hC6⟩, _, _⟩ := sysOk_parts hv
  obtain ⟨W, hW, hWs, hWb, hWh⟩ := boxed w (.cells #[.slice s.blocks.A s.blocks.l.length s.blocks.cap, .slice s.ropes.A s.ropes.l.length s.ropes.cap] 25)
  have hc := fun y : After W.heap.size W => SysD.boxed hWh (by omega) y
  have hatW : SysD.at_ W W.heap.size s := hat.to (hWb.mono hB) (by omega)
  have KV := hide (Gives.first (validS_any s hok W W.heap.size (Nat.le_refl _) hatW))
  rw [hv] at KV
  have htW : Tabs W := ht.below hWb
  have KT := hide fun (v : World) (hv : Below W.heap.size W v) => htW.below hv
  have e1 : ∀ m, (⟨(Lib.itoa m).toArray⟩ : ByteArray) = itoaB m := fun _ => rfl
  have hlr : ∀ r ∈ s.ropes.l, r.holds.l.length ≤ 10 ∧ SlAt W W.heap.size 4 HoldD.cells r.holds := fun r hr => ⟨(ropeOk_parts (ropeOk_of hv hr)).2.1, hatW.each r hr⟩
  have HLR := hide hlr
  have HOB := hide hok.blocks
  have HOR := hide hok.ropes
  have HFB := hide fit.blocks
  have HFR := hide fit.ropes
  have HFH := hide fit.holds
  have hlcb : s.blocks.l.length ≤ s.blocks.cap := hat.blocks.1
  have hmb : s.blocks.cap ≤ 9223372036854775807 := hat.blocks.2.1
  have hlcr : s.ropes.l.length ≤ s.ropes.cap := hat.ropes.1
  have hmr : s.ropes.cap ≤ 9223372036854775807 := hat.ropes.2.1
  have HSB := hide hatW.blocks
  have HSR := hide hatW.ropes
  have hcM := fun y : After W.heap.size W => hc ⟨_, (TSt.fresh W y.val y.below).bel⟩
  simp only at hcM
  have HW := hide hW
  have HWs := hide hWs
  have HWb := hide hWb
  obtain ⟨res, hres⟩ : ∃ res, res = sysT s := ⟨_, rfl⟩
  rw [← hres]
  have HRES := hide hres
  clear hW hWs hWh hWb hat hatW hv hok fit ht htW hlr hres
  obtain ⟨⟨A, cap, l⟩, ⟨A', cap', l'⟩⟩ := s
  simp only at *
  go_enter Tryz.func9, Tryz.ntmps9
  go_wp2_with (go_at_call 15; rw [← HW.out]; refine KV.out.mono ?_; rintro e w' ⟨rfl, y, rfl⟩)
  have hst := TSt.fresh W y.val y.below
  obtain ⟨b, hb⟩ : ∃ b, b = y.val.heap.size := ⟨_, rfl⟩
  rw [← hb] at hst ⊢
  generalize y.val.alloc (.cells #[.pointer none, .slice none 0 0] 68) = U at *
  clear hb hcM
  have HST := hide hst
  clear hst
  go_loopw [6, 20] (fun _ v wr => ∃ k : Nat, v = .int .i64 k ∧ k ≤ l.length ∧ Hid (TSt W b (blocksT (l.take k)) wr) ∧ (blocksT (l.take k)).length ≤ 100 * k) (fun _ v _ => l.length - (intOf v).toNat)
  case atStart => exact ⟨0, rfl, Nat.zero_le _, HST, by simp [blocksT]⟩
  case round =>
    obtain ⟨k, rfl, hk, st, hTl⟩ := hrel
    have hcx := hc ⟨wr, st.out.bel⟩
    simp only at hcx
    by_cases hlt : k < l.length
    · obtain ⟨bb, off, hA, hbb, hcell⟩ := HSB.out.2.2 (show 0 < l.length by omega)
      simp only at hA
      subst hA
      have hx : l[k]? = some l[k] := List.getElem?_eq_getElem hlt
      have hmem := List.getElem_mem hlt
      have hnm := HFB.out l[k] hmem
      have hwt := (HOB.out l[k] hmem).weight
      have he := BlockD.elem hx hbb hcell ⟨wr, st.out.bel⟩
      simp only at he
      have HNX := hide (show blocksT (l.take (k + 1)) = blocksT (l.take k) ++ (blockLn l[k]).data.toList from next_flat hx)
      have hls := blockLn_size hnm hwt
      have HLS := hide hls
      have hsz : (blockLn l[k]).data.toList.length = (blockLn l[k]).size := by rw [Array.length_toList]; rfl
      have HSZ := hide hsz
      obtain ⟨V, hV, hVs, hVb, hVh⟩ := boxed wr (.cells #[.string l[k].name, .int .i64 l[k].weight] 50)
      have hh := fun y : After V.heap.size V => BlockD.boxed hVh (by omega) y
      have KI := hide fun (y : After V.heap.size V) => Gives.after (x := y) (Nat.le_refl _) (itoa_any l[k].weight hwt y.val (KT.out y.val (st.out.bel.trans ((hVb.trans (y.below.mono (by omega))).mono st.out.bel.size))))
      simp only [e1] at KI
      have hs1 : (itoaB l[k].weight).size ≤ 21 := itoa_size _ hwt
      have KW := hide fun (y : After V.heap.size V) => write_any (st.out.more (hVb.trans (y.below.mono (by omega)))) (blockLn l[k]) (by omega)
      rw [← HNX.out] at KW
      have HV := hide hV
      clear hV hVs hVb hVh hcell hx hmem hls hsz
      unfold blockLn at KW
      go_wp2_with fail
      rw [← HV.out]
      refine wp_tail_first V.heap.size 9 (by kernel_rfl) (by kernel_rfl) ?_
      simp only [List.take_succ_cons, List.take_zero, List.drop_succ_cons, List.drop_zero]
      repeat (go_big_quiet_step ((go_at_call 22; exact KI.out _)))
      refine wpQuiet_nil ?_
      intro z
      go_wp2_with (go_at_call 21; refine (KW.out z).mono ?_; rintro e w3 ⟨rfl, hst3, _⟩)
      exact ⟨⟨k + 1, by go_num, by omega, hide hst3, by rw [HNX.out, List.length_append, HSZ.out]; have := HLS.out; omega⟩, by simp [intOf]; omega⟩
    · have hkl : k = l.length := by omega
      subst hkl
      rw [List.take_length] at st hTl
      go_wp2
      go_loopw [8, 38] (fun _ v wr => ∃ k' : Nat, v = .int .i64 k' ∧ k' ≤ l'.length ∧ Hid (TSt W b (blocksT l ++ ropesT (l'.take k')) wr) ∧ (blocksT l ++ ropesT (l'.take k')).length ≤ 600 + 2000 * k') (fun _ v _ => l'.length - (intOf v).toNat)
      case atStart => exact ⟨0, rfl, Nat.zero_le _, by simpa [ropesT] using st, by simp [ropesT]; omega⟩
      case round =>
        obtain ⟨k', rfl, hk', st', hTl'⟩ := hrel
        by_cases hlt' : k' < l'.length
        · obtain ⟨bb, off, hA, hbb, hcell⟩ := HSR.out.2.2 (show 0 < l'.length by omega)
          simp only at hA
          subst hA
          have hx : l'[k']? = some l'[k'] := List.getElem?_eq_getElem hlt'
          have hmem := List.getElem_mem hlt'
          have hnm := HFR.out l'[k'] hmem
          obtain ⟨hl10, hsl⟩ := HLR.out l'[k'] hmem
          have hho := (HOR.out l'[k'] hmem).holds
          have hhf := HFH.out l'[k'] hmem
          have he := RopeD.elem hx hbb hcell ⟨wr, st'.out.bel⟩
          simp only at he
          have HNX := hide (show ropesT (l'.take (k' + 1)) = ropesT (l'.take k') ++ ropeT l'[k'] from next_flat hx)
          obtain ⟨V, hV, hVs, hVb, hVh⟩ := boxed wr (.cells #[.string l'[k'].name, .slice l'[k'].holds.A l'[k'].holds.l.length l'[k'].holds.cap, .bool l'[k'].hauled] 53)
          have HHO := hide hho
          have HHF := hide hhf
          have HSL := hide hsl
          have HV := hide hV
          have HVH := hide hVh
          have stV := st'.out.more hVb
          have HSTV := hide stV
          clear hcell hx hmem hho hhf hsl hV hVb stV
          obtain ⟨r, hr⟩ : ∃ r, r = l'[k'] := ⟨_, rfl⟩
          rw [← hr] at HHO HHF HSL HV HVH HNX hnm hl10 he
          clear hr
          obtain ⟨rn, ⟨A2, cap2, l2⟩, rh⟩ := r
          simp only at HHO HHF HSL HV HVH hnm hl10 he
          have hlc2 := HSL.out.1
          have hm2 := HSL.out.2.1
          unfold maxLen at hm2
          simp only at hlc2
          obtain ⟨T0, hT0⟩ : ∃ T0, T0 = blocksT l ++ ropesT (l'.take k') := ⟨_, rfl⟩
          rw [← hT0] at HSTV hTl'
          have HT0 := hide hT0
          clear hT0 st'
          have hsh : ((⟨#[114, 111, 112, 101, 32]⟩ : ByteArray) ++ rn).size ≤ 25 := by rw [app_size]; have : (⟨#[114, 111, 112, 101, 32]⟩ : ByteArray).size = 5 := rfl; omega
          have hd1 : ∀ x : ByteArray, x.data.toList.length = x.size := fun x => by rw [Array.length_toList]; rfl
          have HD1 := hide hd1
          clear hd1
          rcases Bool.eq_false_or_eq_true rh with rfl | rfl
          · go_wp2_with fail
            rw [← HV.out]
            refine (write_any HSTV.out ((⟨#[114, 111, 112, 101, 32]⟩ : ByteArray) ++ rn) (by omega)).mono ?_
            rintro e w3 ⟨rfl, hst3, hkp⟩
            have hbx := hkp _ _ _ _ (by decide) (by decide) HVH.out
            have hbz := (Array.getElem?_eq_some_iff.1 hbx).1
            have hh3 := RopeD.boxed (r := ⟨rn, ⟨A2, cap2, l2⟩, _⟩) hbx hbz (After.refl w3.heap.size w3)
            simp only [After.refl] at hh3
            have HBX := hide hbx
            have HST3 := hide hst3
            have hl3 : (T0 ++ ((⟨#[114, 111, 112, 101, 32]⟩ : ByteArray) ++ rn).data.toList).length ≤ 625 + 2000 * k' := by rw [List.length_append, HD1.out]; omega
            clear hkp hbx hst3
            go_wp2_with fail
            refine (write_any HST3.out (⟨#[32, 104, 97, 117, 108, 101, 100]⟩ : ByteArray) (Nat.le_trans (Nat.add_le_add hl3 (show (⟨#[32, 104, 97, 117, 108, 101, 100]⟩ : ByteArray).size ≤ 7 by decide)) (by omega))).mono ?_
            rintro e w4 ⟨rfl, hst4, hkp⟩
            have hbx4 := hkp _ _ _ _ (by decide) (by decide) HBX.out
            have hbz4 := (Array.getElem?_eq_some_iff.1 hbx4).1
            have hh4 := RopeD.boxed (r := ⟨rn, ⟨A2, cap2, l2⟩, _⟩) hbx4 hbz4 (After.refl w4.heap.size w4)
            simp only [After.refl] at hh4
            have hl4 : (T0 ++ ((⟨#[114, 111, 112, 101, 32]⟩ : ByteArray) ++ rn).data.toList ++ (⟨#[32, 104, 97, 117, 108, 101, 100]⟩ : ByteArray).data.toList).length ≤ 640 + 2000 * k' := by
              rw [List.length_append, HD1.out (⟨#[32, 104, 97, 117, 108, 101, 100]⟩ : ByteArray)]; exact Nat.le_trans (Nat.add_le_add hl3 (show (⟨#[32, 104, 97, 117, 108, 101, 100]⟩ : ByteArray).size ≤ 7 by decide)) (by omega)
            obtain ⟨T1, hT1⟩ : ∃ T1, T1 = T0 ++ ((⟨#[114, 111, 112, 101, 32]⟩ : ByteArray) ++ rn).data.toList ++ (⟨#[32, 104, 97, 117, 108, 101, 100]⟩ : ByteArray).data.toList := ⟨_, rfl⟩
            rw [← hT1] at hst4 hl4
            have HT1 := hide hT1
            have HST4 := hide hst4
            clear hkp hbx4 hst4 hT1
            go_wp2
            clear hh4 hh3 he
            go_loopw [10, 11, 12, 13, 53] (fun _ _ _ _ v wr => ∃ j : Nat, v = .int .i64 j ∧ j ≤ l2.length ∧ Hid (TSt W b (T1 ++ holdsT (l2.take j)) wr) ∧ (T1 ++ holdsT (l2.take j)).length ≤ 640 + 2000 * k' + 100 * j) (fun _ _ _ _ v _ => l2.length - (intOf v).toNat)
            case atStart => exact ⟨0, rfl, Nat.zero_le _, by simpa [holdsT] using HST4, by simpa [holdsT] using hl4⟩
            case round =>
              obtain ⟨j, rfl, hj, st5, hTj⟩ := hrel
              by_cases hjt : j < l2.length
              · obtain ⟨b2, off2, hA2, hb2, hcell2⟩ := HSL.out.2.2 (show 0 < l2.length by omega)
                simp only at hA2
                subst hA2
                have hx2 : l2[j]? = some l2[j] := List.getElem?_eq_getElem hjt
                have hm3 := List.getElem_mem hjt
                have hok2 := HHO.out l2[j] hm3
                obtain ⟨hbs, hfr⟩ := HHF.out l2[j] hm3
                have he2 := HoldD.elem hx2 hb2 hcell2 ⟨wr, st5.out.bel⟩
                simp only at he2
                have HNX2 := hide (show holdsT (l2.take (j + 1)) = holdsT (l2.take j) ++ (holdT l2[j]).data.toList from next_flat hx2)
                have HLS := hide (holdT_size hbs hok2)
                obtain ⟨V2, hV2, hVs2, hVb2, hVh2⟩ := boxed wr (.cells #[.string l2[j].block, .int .i64 l2[j].pulls, .int .i64 l2[j].num, .int .i64 l2[j].den] 57)
                have hh2 := fun y : After V2.heap.size V2 => HoldD.boxed hVh2 (by omega) y
                have hb2V := hide fun (y : After V2.heap.size V2) => (st5.out.bel.trans ((hVb2.trans (y.below.mono (by omega))).mono st5.out.bel.size) : Below W.heap.size W y.val)
                have KI := hide fun (y : After V2.heap.size V2) => Gives.after (x := y) (Nat.le_refl _) (itoa_any l2[j].pulls hok2.pulls y.val (KT.out y.val (hb2V.out y)))
                simp only [e1] at KI
                have KR := hide (Gives.first (ratioText_any l2[j].num l2[j].den hok2.num hok2.den hfr V2 (KT.out V2 (hb2V.out (After.refl _ _)))))
                have hs1 : (itoaB l2[j].pulls).size ≤ 21 := itoa_size _ hok2.pulls
                have hs2 := fracT_size l2[j].num l2[j].den hok2.num hok2.den
                have KW := hide fun (y : After V2.heap.size V2) => write_any (st5.out.more (hVb2.trans (y.below.mono (by omega)))) (holdT l2[j]) (Nat.le_trans (Nat.add_le_add hTj HLS.out) (by omega))
                have HNXE := hide (show (T1 ++ holdsT (l2.take j)) ++ (holdT l2[j]).data.toList = T1 ++ holdsT (l2.take (j + 1)) by rw [HNX2.out, List.append_assoc])
                have HLEN := hide (show (T1 ++ holdsT (l2.take (j + 1))).length ≤ 640 + 2000 * k' + 100 * (j + 1) by
                  rw [← HNXE.out, List.length_append, HD1.out]; exact Nat.le_trans (Nat.add_le_add hTj HLS.out) (by omega))
                rw [HNXE.out] at KW
                have HV2 := hide hV2
                clear hV2 hVs2 hVb2 hVh2 hcell2 hx2 hm3 hok2 hfr
                rcases Bool.eq_false_or_eq_true (l2[j].block.toList.isEmpty) with hbe | hbe
                · have HTE := hide (show holdT l2[j] = (⟨#[32]⟩ : ByteArray) ++ ⟨#[45]⟩ ++ ⟨#[32]⟩ ++ itoaB l2[j].pulls ++ ⟨#[32]⟩ ++ fracT l2[j].num l2[j].den by rw [holdT, show atT l2[j] = ⟨#[45]⟩ by unfold atT; rw [hbe]; rfl])
                  rw [HTE.out] at KW
                  go_wp2_with (first
                    | (go_at_call 23; rw [← HV2.out]; refine KR.out.mono ?_; rintro e w' ⟨rfl, y2, rfl⟩)
                    | (go_at_call 22; refine (KI.out y2).mono ?_; rintro e w' ⟨rfl, y3, rfl⟩)
                    | (go_at_call 21; refine (KW.out y3).mono ?_; rintro e w6 ⟨rfl, hst6, _⟩))
                  exact ⟨⟨j + 1, by go_num, by omega, hide hst6, HLEN.out⟩, by simp [intOf]; omega⟩
                · have HTE := hide (show holdT l2[j] = (⟨#[32]⟩ : ByteArray) ++ l2[j].block ++ ⟨#[32]⟩ ++ itoaB l2[j].pulls ++ ⟨#[32]⟩ ++ fracT l2[j].num l2[j].den by rw [holdT, show atT l2[j] = l2[j].block by unfold atT; rw [hbe]; rfl])
                  rw [HTE.out] at KW
                  go_wp2_with (first
                    | (go_at_call 23; rw [← HV2.out]; refine KR.out.mono ?_; rintro e w' ⟨rfl, y2, rfl⟩)
                    | (go_at_call 22; refine (KI.out y2).mono ?_; rintro e w' ⟨rfl, y3, rfl⟩)
                    | (go_at_call 21; refine (KW.out y3).mono ?_; rintro e w6 ⟨rfl, hst6, _⟩))
                  exact ⟨⟨j + 1, by go_num, by omega, hide hst6, HLEN.out⟩, by simp [intOf]; omega⟩
              · have hjl : j = l2.length := by omega
                subst hjl
                rw [List.take_length] at st5 hTj
                have HEND := hide (show (T1 ++ holdsT l2) ++ [10] = blocksT l ++ ropesT (l'.take (k' + 1)) by
                  rw [HNX.out, HT1.out, HT0.out]; simp [ropeT, ropeHd, haulT])
                have hE2 : (blocksT l ++ ropesT (l'.take (k' + 1))).length ≤ 600 + 2000 * (k' + 1) := by
                  rw [← HEND.out, List.length_append]; simp only [List.length_cons, List.length_nil]; omega
                have KW := hide (write_any st5.out ⟨#[10]⟩ (Nat.le_trans (Nat.add_le_add hTj (show (⟨#[10]⟩ : ByteArray).size ≤ 1 by decide)) (by omega)))
                have e10 : (T1 ++ holdsT l2) ++ (⟨#[10]⟩ : ByteArray).data.toList = blocksT l ++ ropesT (l'.take (k' + 1)) := HEND.out
                rw [e10] at KW
                clear e10
                go_wp2_with (go_at_call 21; refine KW.out.mono ?_; rintro e w6 ⟨rfl, hst6, _⟩)
                exact ⟨⟨k' + 1, by go_num, by omega, hide hst6, hE2⟩, by simp [intOf]; omega⟩
          · go_wp2_with fail
            rw [← HV.out]
            refine (write_any HSTV.out ((⟨#[114, 111, 112, 101, 32]⟩ : ByteArray) ++ rn) (by omega)).mono ?_
            rintro e w3 ⟨rfl, hst3, hkp⟩
            have hbx := hkp _ _ _ _ (by decide) (by decide) HVH.out
            have hbz := (Array.getElem?_eq_some_iff.1 hbx).1
            have hh3 := RopeD.boxed (r := ⟨rn, ⟨A2, cap2, l2⟩, _⟩) hbx hbz (After.refl w3.heap.size w3)
            simp only [After.refl] at hh3
            have HBX := hide hbx
            have HST3 := hide hst3
            have hl3 : (T0 ++ ((⟨#[114, 111, 112, 101, 32]⟩ : ByteArray) ++ rn).data.toList).length ≤ 625 + 2000 * k' := by rw [List.length_append, HD1.out]; omega
            clear hkp hbx hst3
            go_wp2_with fail
            refine (write_any HST3.out (⟨#[32, 102, 105, 120, 101, 100]⟩ : ByteArray) (Nat.le_trans (Nat.add_le_add hl3 (show (⟨#[32, 102, 105, 120, 101, 100]⟩ : ByteArray).size ≤ 7 by decide)) (by omega))).mono ?_
            rintro e w4 ⟨rfl, hst4, hkp⟩
            have hbx4 := hkp _ _ _ _ (by decide) (by decide) HBX.out
            have hbz4 := (Array.getElem?_eq_some_iff.1 hbx4).1
            have hh4 := RopeD.boxed (r := ⟨rn, ⟨A2, cap2, l2⟩, _⟩) hbx4 hbz4 (After.refl w4.heap.size w4)
            simp only [After.refl] at hh4
            have hl4 : (T0 ++ ((⟨#[114, 111, 112, 101, 32]⟩ : ByteArray) ++ rn).data.toList ++ (⟨#[32, 102, 105, 120, 101, 100]⟩ : ByteArray).data.toList).length ≤ 640 + 2000 * k' := by
              rw [List.length_append, HD1.out (⟨#[32, 102, 105, 120, 101, 100]⟩ : ByteArray)]; exact Nat.le_trans (Nat.add_le_add hl3 (show (⟨#[32, 102, 105, 120, 101, 100]⟩ : ByteArray).size ≤ 7 by decide)) (by omega)
            obtain ⟨T1, hT1⟩ : ∃ T1, T1 = T0 ++ ((⟨#[114, 111, 112, 101, 32]⟩ : ByteArray) ++ rn).data.toList ++ (⟨#[32, 102, 105, 120, 101, 100]⟩ : ByteArray).data.toList := ⟨_, rfl⟩
            rw [← hT1] at hst4 hl4
            have HT1 := hide hT1
            have HST4 := hide hst4
            clear hkp hbx4 hst4 hT1
            go_wp2
            clear hh4 hh3 he
            go_loopw [10, 11, 12, 13, 53] (fun _ _ _ _ v wr => ∃ j : Nat, v = .int .i64 j ∧ j ≤ l2.length ∧ Hid (TSt W b (T1 ++ holdsT (l2.take j)) wr) ∧ (T1 ++ holdsT (l2.take j)).length ≤ 640 + 2000 * k' + 100 * j) (fun _ _ _ _ v _ => l2.length - (intOf v).toNat)
            case atStart => exact ⟨0, rfl, Nat.zero_le _, by simpa [holdsT] using HST4, by simpa [holdsT] using hl4⟩
            case round =>
              obtain ⟨j, rfl, hj, st5, hTj⟩ := hrel
              by_cases hjt : j < l2.length
              · obtain ⟨b2, off2, hA2, hb2, hcell2⟩ := HSL.out.2.2 (show 0 < l2.length by omega)
                simp only at hA2
                subst hA2
                have hx2 : l2[j]? = some l2[j] := List.getElem?_eq_getElem hjt
                have hm3 := List.getElem_mem hjt
                have hok2 := HHO.out l2[j] hm3
                obtain ⟨hbs, hfr⟩ := HHF.out l2[j] hm3
                have he2 := HoldD.elem hx2 hb2 hcell2 ⟨wr, st5.out.bel⟩
                simp only at he2
                have HNX2 := hide (show holdsT (l2.take (j + 1)) = holdsT (l2.take j) ++ (holdT l2[j]).data.toList from next_flat hx2)
                have HLS := hide (holdT_size hbs hok2)
                obtain ⟨V2, hV2, hVs2, hVb2, hVh2⟩ := boxed wr (.cells #[.string l2[j].block, .int .i64 l2[j].pulls, .int .i64 l2[j].num, .int .i64 l2[j].den] 57)
                have hh2 := fun y : After V2.heap.size V2 => HoldD.boxed hVh2 (by omega) y
                have hb2V := hide fun (y : After V2.heap.size V2) => (st5.out.bel.trans ((hVb2.trans (y.below.mono (by omega))).mono st5.out.bel.size) : Below W.heap.size W y.val)
                have KI := hide fun (y : After V2.heap.size V2) => Gives.after (x := y) (Nat.le_refl _) (itoa_any l2[j].pulls hok2.pulls y.val (KT.out y.val (hb2V.out y)))
                simp only [e1] at KI
                have KR := hide (Gives.first (ratioText_any l2[j].num l2[j].den hok2.num hok2.den hfr V2 (KT.out V2 (hb2V.out (After.refl _ _)))))
                have hs1 : (itoaB l2[j].pulls).size ≤ 21 := itoa_size _ hok2.pulls
                have hs2 := fracT_size l2[j].num l2[j].den hok2.num hok2.den
                have KW := hide fun (y : After V2.heap.size V2) => write_any (st5.out.more (hVb2.trans (y.below.mono (by omega)))) (holdT l2[j]) (Nat.le_trans (Nat.add_le_add hTj HLS.out) (by omega))
                have HNXE := hide (show (T1 ++ holdsT (l2.take j)) ++ (holdT l2[j]).data.toList = T1 ++ holdsT (l2.take (j + 1)) by rw [HNX2.out, List.append_assoc])
                have HLEN := hide (show (T1 ++ holdsT (l2.take (j + 1))).length ≤ 640 + 2000 * k' + 100 * (j + 1) by
                  rw [← HNXE.out, List.length_append, HD1.out]; exact Nat.le_trans (Nat.add_le_add hTj HLS.out) (by omega))
                rw [HNXE.out] at KW
                have HV2 := hide hV2
                clear hV2 hVs2 hVb2 hVh2 hcell2 hx2 hm3 hok2 hfr
                rcases Bool.eq_false_or_eq_true (l2[j].block.toList.isEmpty) with hbe | hbe
                · have HTE := hide (show holdT l2[j] = (⟨#[32]⟩ : ByteArray) ++ ⟨#[45]⟩ ++ ⟨#[32]⟩ ++ itoaB l2[j].pulls ++ ⟨#[32]⟩ ++ fracT l2[j].num l2[j].den by rw [holdT, show atT l2[j] = ⟨#[45]⟩ by unfold atT; rw [hbe]; rfl])
                  rw [HTE.out] at KW
                  go_wp2_with (first
                    | (go_at_call 23; rw [← HV2.out]; refine KR.out.mono ?_; rintro e w' ⟨rfl, y2, rfl⟩)
                    | (go_at_call 22; refine (KI.out y2).mono ?_; rintro e w' ⟨rfl, y3, rfl⟩)
                    | (go_at_call 21; refine (KW.out y3).mono ?_; rintro e w6 ⟨rfl, hst6, _⟩))
                  exact ⟨⟨j + 1, by go_num, by omega, hide hst6, HLEN.out⟩, by simp [intOf]; omega⟩
                · have HTE := hide (show holdT l2[j] = (⟨#[32]⟩ : ByteArray) ++ l2[j].block ++ ⟨#[32]⟩ ++ itoaB l2[j].pulls ++ ⟨#[32]⟩ ++ fracT l2[j].num l2[j].den by rw [holdT, show atT l2[j] = l2[j].block by unfold atT; rw [hbe]; rfl])
                  rw [HTE.out] at KW
                  go_wp2_with (first
                    | (go_at_call 23; rw [← HV2.out]; refine KR.out.mono ?_; rintro e w' ⟨rfl, y2, rfl⟩)
                    | (go_at_call 22; refine (KI.out y2).mono ?_; rintro e w' ⟨rfl, y3, rfl⟩)
                    | (go_at_call 21; refine (KW.out y3).mono ?_; rintro e w6 ⟨rfl, hst6, _⟩))
                  exact ⟨⟨j + 1, by go_num, by omega, hide hst6, HLEN.out⟩, by simp [intOf]; omega⟩
              · have hjl : j = l2.length := by omega
                subst hjl
                rw [List.take_length] at st5 hTj
                have HEND := hide (show (T1 ++ holdsT l2) ++ [10] = blocksT l ++ ropesT (l'.take (k' + 1)) by
                  rw [HNX.out, HT1.out, HT0.out]; simp [ropeT, ropeHd, haulT])
                have hE2 : (blocksT l ++ ropesT (l'.take (k' + 1))).length ≤ 600 + 2000 * (k' + 1) := by
                  rw [← HEND.out, List.length_append]; simp only [List.length_cons, List.length_nil]; omega
                have KW := hide (write_any st5.out ⟨#[10]⟩ (Nat.le_trans (Nat.add_le_add hTj (show (⟨#[10]⟩ : ByteArray).size ≤ 1 by decide)) (by omega)))
                have e10 : (T1 ++ holdsT l2) ++ (⟨#[10]⟩ : ByteArray).data.toList = blocksT l ++ ropesT (l'.take (k' + 1)) := HEND.out
                rw [e10] at KW
                clear e10
                go_wp2_with (go_at_call 21; refine KW.out.mono ?_; rintro e w6 ⟨rfl, hst6, _⟩)
                exact ⟨⟨k' + 1, by go_num, by omega, hide hst6, hE2⟩, by simp [intOf]; omega⟩
        · have hkl' : k' = l'.length := by omega
          subst hkl'
          rw [List.take_length] at st' hTl'
          have HTT := hide (show res = blocksT l ++ ropesT l' from HRES.out)
          go_wp2_with (go_at_call 24; refine (string_any b b _ wr st'.out.ib (Nat.le_of_lt st'.out.lt)).mono ?_; rintro e w7 ⟨rfl, hb7⟩)
          go_returns
          exact Gives.mk (by rw [HTT.out]; rfl) (HWb.out.trans (((st'.out.bel).trans (hb7.mono st'.out.le)).mono (by have := HWs.out; omega)))
end Go.Proofs.YtgamhdbcejkllaaGreatDoor
