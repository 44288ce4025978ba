/- loftblockref10.Text: the text of a valid system, by the reference. -/
import Derived.Test.YtgamhdbcejkllaaGreatDoorRefInt
import Derived.Test.YtgamhdbcejkllaaGreatDoorReeveNum
import Derived.Test.YtgamhdbcejkllaaGreatDoorReeveMat
namespace Go.Proofs.YtgamhdbcejkllaaGreatDoor
open Go.RowKit

theorem bs_plus (a b : ByteArray) : bs (a ++ b) = bs a ++ bs b := by rw [bs_data, bs_data, bs_data, ByteArray.data_append]; simp
theorem blk_sum (T : ByteArray) (b : BlockD) : bs (T ++ ⟨#[98, 108, 111, 99, 107, 32]⟩ ++ b.name ++ ⟨#[32]⟩ ++ numB b.weight ++ ⟨#[10]⟩) = bs T ++ (blockLn b).data.toList := by
  rw [← bs_data]
  simp only [blockLn, bs_plus, show numB b.weight = itoaB b.weight from rfl]
  simp
theorem rope_sum (T : ByteArray) (r : RopeD) : bs (T ++ ⟨#[114, 111, 112, 101, 32]⟩ ++ r.name) = bs T ++ (ropeHd r).data.toList := by
  rw [← bs_data]
  simp only [ropeHd, bs_plus]
  simp
theorem hold_sum (T : ByteArray) (h : HoldD) : bs (T ++ ⟨#[32]⟩ ++ atT h ++ ⟨#[32]⟩ ++ numB h.pulls ++ ⟨#[32]⟩ ++ fracT h.num h.den) = bs T ++ (holdT h).data.toList := by
  rw [← bs_data]
  simp only [holdT, bs_plus, show numB h.pulls = itoaB h.pulls from rfl]
  simp
theorem size_of {T : ByteArray} {l x : List UInt8} {n m : Nat} (h : bs T = l ++ x) (hl : l.length ≤ n) (hx : x.length ≤ m) : T.size ≤ n + m := by
  rw [← bs_length, h, List.length_append]; omega
theorem data_len (b : ByteArray) : b.data.toList.length = b.size := by rw [← bs_data, bs_length]
theorem fit_of_ok {s : SysD} (hv : sysOk s = true) : TextFit s := by
  have key : ∀ n : ByteArray, isNameL (bs n) = true → n.size ≤ 20 := fun n h => by
    simp only [isNameL, Bool.and_eq_true, decide_eq_true_eq] at h
    have h2 := h.1
    have h3 := bs_length n
    omega
  obtain ⟨h1, h2⟩ := sysFit hv
  refine ⟨fun b hb => key _ (h1 _ (List.mem_map_of_mem hb)).1, fun r hr => key _ (h2 _ (List.mem_map_of_mem hr)).name, fun r hr h hh => ?_⟩
  have h3 := (h2 _ (List.mem_map_of_mem hr)).holds _ (List.mem_map_of_mem hh)
  refine ⟨?_, h3.frac⟩
  rcases h3.block with h4 | h4
  · have h5 := bs_length h.block
    rw [show bs h.block = [] from h4] at h5
    simp at h5
    omega
  · exact key _ h4
set_option maxRecDepth 100000 in
set_option maxHeartbeats 8000000 in
theorem refText_any (s : SysD) (hok : s.ok) (hv : sysOk s = true) (w : World) (B : Nat) (hB : B ≤ w.heap.size) (hat : SysD.at_ w B s) :
    Calls Tryz.prog 11 #[.agg #[.slice s.blocks.A s.blocks.l.length s.blocks.cap, .slice s.ropes.A s.ropes.l.length s.ropes.cap]] w (Gives w (.string ⟨(sysT s).toArray⟩)) := by
  have fit := fit_of_ok hv
  obtain ⟨⟨hR1, hR6, hC1, hC6⟩, _, _⟩ := sysOk_parts hv
  obtain ⟨W, hW, hWs, hWb, hWh⟩ := boxed w (.cells #[.slice s.blocks.A s.blocks.l.length s.blocks.cap, .slice s.ropes.A s.ropes.l.length s.ropes.cap] 25)
  have hc := fun y : After W.heap.size W => SysD.boxed hWh (by omega) y
  have hatW : SysD.at_ W W.heap.size s := hat.to (hWb.mono hB) (by omega)
  have hlr : ∀ r ∈ s.ropes.l, r.holds.l.length ≤ 10 ∧ SlAt W W.heap.size 4 HoldD.cells r.holds := fun r hr => ⟨(ropeOk_parts (ropeOk_of hv hr)).2.1, hatW.each r hr⟩
  have HLR := hide hlr
  have HOB := hide hok.blocks
  have HOR := hide hok.ropes
  have HFB := hide fit.blocks
  have HFR := hide fit.ropes
  have HFH := hide fit.holds
  have hlcb : s.blocks.l.length ≤ s.blocks.cap := hat.blocks.1
  have hmb : s.blocks.cap ≤ 9223372036854775807 := hat.blocks.2.1
  have hlcr : s.ropes.l.length ≤ s.ropes.cap := hat.ropes.1
  have hmr : s.ropes.cap ≤ 9223372036854775807 := hat.ropes.2.1
  have HSB := hide hatW.blocks
  have HSR := hide hatW.ropes
  have HW := hide hW
  have HWB := hide fun y : After W.heap.size W => hWb.trans (y.below.mono (by omega))
  obtain ⟨res, hres⟩ : ∃ res, res = sysT s := ⟨_, rfl⟩
  rw [← hres]
  have HRES := hide (show res = blocksT s.blocks.l ++ ropesT s.ropes.l from hres)
  have KD := hide fun (V : World) (m : Int) (hm : I64 m) (y : After V.heap.size V) => Gives.after (x := y) (Nat.le_refl _) (refDecimal_any m hm y.val)
  have KT := hide fun (V : World) (n d : Int) (hn : I64 n) (hd : I64 d) (hd0 : 0 ≤ d) (y : After V.heap.size V) => Gives.after (x := y) (Nat.le_refl _) (refFracText_any n d hn hd hd0 y.val)
  clear hW hWs hWh hWb hat hatW hv hok fit hlr hres
  obtain ⟨⟨A, cap, l⟩, ⟨A', cap', l'⟩⟩ := s
  simp only at *
  go_enter Tryz.func11, Tryz.ntmps11
  go_wp2_with fail
  rw [← HW.out]
  go_loopw [3, 4] (fun t v wr => ∃ (k : Nat) (T : ByteArray), t = .string T ∧ v = .int .i64 k ∧ k ≤ l.length ∧ T.size ≤ 100 * k ∧ Hid (bs T = blocksT (l.take k)) ∧ ∃ y : After W.heap.size W, wr = y.val) (fun _ v _ => l.length - (intOf v).toNat)
  case atStart => exact ⟨0, ⟨#[]⟩, rfl, rfl, Nat.zero_le _, Nat.le_refl _, hide (by simp [blocksT]; exact toList_nil rfl), After.refl _ _, rfl⟩
  case round =>
    obtain ⟨k, T, rfl, rfl, hk, hTs, hT, y, rfl⟩ := hrel
    by_cases hlt : k < l.length
    · obtain ⟨bb, off, hA, hbb, hcell⟩ := HSB.out.2.2 (show 0 < l.length by omega)
      simp only at hA
      subst hA
      have hx : l[k]? = some l[k] := List.getElem?_eq_getElem hlt
      have hm : l[k] ∈ l := List.getElem_mem hlt
      have he := BlockD.elem hx hbb hcell
      have hnm := HFB.out _ hm
      have hwt := (HOB.out _ hm).weight
      have HLN := hide (blockLn_size hnm hwt)
      have HNF := hide (next_flat (f := fun b => (blockLn b).data.toList) hx)
      have hnb := numB_size _ hwt
      obtain ⟨b, hb⟩ : ∃ b, b = l[k] := ⟨_, rfl⟩
      rw [← hb] at he hnm hwt HLN HNF hnb
      have HBS := hide (blk_sum T b)
      have HWT := hide hwt
      have hk0 : (0 : Int) ≤ (k : Int) := by omega
      have hk1 : (k : Int) < (l.length : Int) := by omega
      have s1 : (⟨#[98, 108, 111, 99, 107, 32]⟩ : ByteArray).size = 6 := rfl
      have s2 : (⟨#[32]⟩ : ByteArray).size = 1 := rfl
      have s3 : (⟨#[10]⟩ : ByteArray).size = 1 := rfl
      clear hx hm hb hwt hcell
      have hcy := hc y
      have hey := he y
      go_upto_region 5 with fail
      refine wp_region_after y (by kernel_rfl) (by kernel_rfl) ?_
      repeat (go_big_quiet_step ((go_at_call 29; exact KD.out W _ HWT.out _)))
      refine wpQuiet_nil ?_
      intro z
      have hsz := size_of (n := 100 * k) (m := 100) (x := (blockLn b).data.toList) (HBS.out.trans (by rw [hT.out])) (by rw [← hT.out, bs_length]; exact hTs) (by rw [data_len]; exact HLN.out)
      have HN := hide (HBS.out.trans (by rw [hT.out] : _ = blocksT (l.take k) ++ (blockLn b).data.toList))
      obtain ⟨N, hN⟩ : ∃ N, N = T ++ ⟨#[98, 108, 111, 99, 107, 32]⟩ ++ b.name ++ ⟨#[32]⟩ ++ numB b.weight ++ ⟨#[10]⟩ := ⟨_, rfl⟩
      rw [← hN] at HN hsz ⊢
      have HNX := hide (show bs N = blocksT (l.take (k + 1)) by rw [HN.out, blocksT, blocksT, HNF.out])
      clear hN
      go_wp2_with fail
      exact ⟨⟨k + 1, N, rfl, by go_num, by omega, by omega, HNX, z, rfl⟩, by simp [intOf]; omega⟩
    · obtain rfl : k = l.length := by omega
      rw [List.take_length] at hT
      have HRS := hide (show bs T = blocksT l ++ ropesT (l'.take 0) by rw [hT.out]; simp [ropesT])
      have hcy := hc y
      clear hT
      go_wp2_with fail
      go_loopw [3, 5, 6, 7, 8] (fun t v _ _ _ wr => ∃ (k : Nat) (T : ByteArray), t = .string T ∧ v = .int .i64 k ∧ k ≤ l'.length ∧ T.size ≤ 600 + 2000 * k ∧ Hid (bs T = blocksT l ++ ropesT (l'.take k)) ∧ ∃ y : After W.heap.size W, wr = y.val) (fun _ v _ _ _ _ => l'.length - (intOf v).toNat)
      case atStart => exact ⟨0, T, rfl, rfl, Nat.zero_le _, by omega, HRS, y, rfl⟩
      case round =>
        obtain ⟨k, T, rfl, rfl, hk, hTs2, hT2, y, rfl⟩ := hrel
        have hcy := hc y
        by_cases hlt2 : k < l'.length
        · obtain ⟨bb, off, hA, hbb, hcell⟩ := HSR.out.2.2 (show 0 < l'.length by omega)
          simp only at hA
          subst hA
          have hx : l'[k]? = some l'[k] := List.getElem?_eq_getElem hlt2
          have hm : l'[k] ∈ l' := List.getElem_mem hlt2
          have he := RopeD.elem hx hbb hcell
          have hnm := HFR.out _ hm
          obtain ⟨hhl, hhs⟩ := HLR.out _ hm
          have HHO := hide (HOR.out _ hm).holds
          have HHF := hide (HFH.out _ hm)
          have HNF := hide (next_flat (f := ropeT) hx)
          obtain ⟨r, hr⟩ : ∃ r, r = l'[k] := ⟨_, rfl⟩
          rw [← hr] at he hnm hhl hhs HHO HHF HNF
          clear hx hm hr
          obtain ⟨rn, ⟨A2, cap2, l2⟩, rh⟩ := r
          simp only at hnm hhl
          have HHS := hide hhs
          have hk0 : (0 : Int) ≤ (k : Int) := by omega
          have hk1 : (k : Int) < (l'.length : Int) := by omega
          have s1 : (⟨#[114, 111, 112, 101, 32]⟩ : ByteArray).size = 5 := rfl
          have s2 : (⟨#[32]⟩ : ByteArray).size = 1 := rfl
          have s3 : (⟨#[10]⟩ : ByteArray).size = 1 := rfl
          have s4 : (⟨#[32, 104, 97, 117, 108, 101, 100]⟩ : ByteArray).size = 7 := rfl
          have s5 : (⟨#[32, 102, 105, 120, 101, 100]⟩ : ByteArray).size = 6 := rfl
          have s6 : (⟨#[32, 45]⟩ : ByteArray).size = 2 := rfl
          have hhc := hhs.1
          have hhm := hhs.2.1
          unfold maxLen at hhm
          have hey := he y
          have HRP := hide (rope_sum T ⟨rn, ⟨A2, cap2, l2⟩, rh⟩)
          simp only at hhc hhm
          obtain ⟨V, hV, hVs, hVb, hVh⟩ := boxed y.val (.cells #[.string rn, .slice A2 l2.length cap2, .bool rh] 53)
          have hyV : y.val.heap.size < V.heap.size := by omega
          have hrb := fun z : After V.heap.size V => RopeD.boxed (r := ⟨rn, ⟨A2, cap2, l2⟩, rh⟩) hVh hyV z
          obtain ⟨vb, hvb⟩ : ∃ b, b = y.val.heap.size := ⟨_, rfl⟩
          rw [← hvb] at hrb
          have HVB := hide hvb
          have HV := hide hV
          have HWV := hide (show Below W.heap.size W V from y.below.trans (hVb.mono y.size))
          have hWV := HWV.out.size
          have hrb0 := hrb (After.refl _ _)
          simp only [After.refl] at hrb0
          simp only at hrb hrb0 hey
          clear hhs hcell hV hVs hVb hVh hvb hyV he
          go_upto_region 10 with fail
          rw [← HV.out, ← HVB.out]
          clear hey hcy
          go_upto_if 53 with fail
          go_cut [3] (fun x wx => x = .string (T ++ ⟨#[114, 111, 112, 101, 32]⟩ ++ rn ++ haulT rh) ∧ wx = V)
          case first =>
            cases rh
            · skip
              go_wp2_with fail
              go_meet
              exact ⟨rfl, rfl⟩
            · skip
              go_wp2_with fail
              go_meet
              exact ⟨rfl, rfl⟩
          case rest =>
          obtain ⟨rfl, hwc⟩ := hcut
          subst hwc
          obtain ⟨T2, hT2e⟩ : ∃ T2, T2 = T ++ ⟨#[114, 111, 112, 101, 32]⟩ ++ rn ++ haulT rh := ⟨_, rfl⟩
          obtain ⟨PRE, hPRE⟩ : ∃ P, P = blocksT l ++ ropesT (l'.take k) ++ ((ropeHd ⟨rn, ⟨A2, cap2, l2⟩, rh⟩).data.toList ++ (haulT rh).data.toList) := ⟨_, rfl⟩
          have hb2 : bs T2 = PRE := by
            rw [hT2e, bs_plus, HRP.out, hT2.out, hPRE, bs_data (haulT rh)]
            simp only [List.append_assoc]
          have hs2 : T2.size ≤ 640 + 2000 * k := by
            rw [hT2e]
            simp only [app_size, s1]
            have : (haulT rh).size ≤ 7 := by cases rh <;> decide
            omega
          rw [← hT2e]
          have HB2 := hide (show bs T2 = PRE ++ holdsT (l2.take 0) by rw [hb2]; simp [holdsT])
          have HPRE := hide hPRE
          clear hT2e hb2 hPRE
          go_wp2_with fail
          go_loopw [3, 7, 8] (fun t v _ wr => ∃ (j : Nat) (T : ByteArray), t = .string T ∧ v = .int .i64 j ∧ j ≤ l2.length ∧ T.size ≤ 640 + 2000 * k + 100 * j ∧ Hid (bs T = PRE ++ holdsT (l2.take j)) ∧ ∃ y : After wc.heap.size wc, wr = y.val) (fun _ v _ _ => l2.length - (intOf v).toNat)
          case atStart => exact ⟨0, T2, rfl, rfl, Nat.zero_le _, by omega, HB2, After.refl _ _, rfl⟩
          case round =>
            obtain ⟨j, T3, rfl, rfl, hj, hTs3, hT3, z, rfl⟩ := hrel
            have hrz := hrb z
            by_cases hlt3 : j < l2.length
            · obtain ⟨b2, o2, hA2, hbb2, hcell2⟩ := HHS.out.2.2 (show 0 < l2.length by omega)
              simp only at hA2
              subst hA2
              have hx2 : l2[j]? = some l2[j] := List.getElem?_eq_getElem hlt3
              have hm2 : l2[j] ∈ l2 := List.getElem_mem hlt3
              have he2 := HoldD.elem hx2 hbb2 hcell2 ⟨z.val, HWV.out.trans (z.below.mono hWV)⟩
              have hho := HHO.out _ hm2
              obtain ⟨hnb2, hff⟩ := HHF.out _ hm2
              have HNF2 := hide (next_flat (f := fun h => (holdT h).data.toList) hx2)
              have HHZ := hide (holdT_size hnb2 hho)
              have hns := numB_size _ hho.pulls
              have hfs := fracT_size _ _ hho.num hho.den
              have has := atT_size hnb2
              obtain ⟨hd, hhd⟩ : ∃ h, h = l2[j] := ⟨_, rfl⟩
              rw [← hhd] at he2 hho hnb2 hff HNF2 HHZ hns hfs has
              simp only at he2
              have hden := (fracBound _ _ hff).2.1
              have hj0 : (0 : Int) ≤ (j : Int) := by omega
              have hj1 : (j : Int) < (l2.length : Int) := by omega
              obtain ⟨U, hU, hUs, hUb, hUh⟩ := boxed z.val (.cells #[.string hd.block, .int .i64 hd.pulls, .int .i64 hd.num, .int .i64 hd.den] 57)
              have hzU : z.val.heap.size < U.heap.size := by omega
              have hub := fun q : After U.heap.size U => HoldD.boxed hUh hzU q
              obtain ⟨ub, hub2⟩ : ∃ b, b = z.val.heap.size := ⟨_, rfl⟩
              rw [← hub2] at hub
              have HUB := hide hub2
              have HU := hide hU
              have HWU := hide (show Below wc.heap.size wc U from z.below.trans (hUb.mono z.size))
              have hub0 := hub (After.refl _ _)
              simp only [After.refl] at hub0
              obtain ⟨be, hbe⟩ : ∃ b, hd.block.toList.isEmpty = b := ⟨_, rfl⟩
              have HAT := hide (show atT hd = if be = true then ⟨#[45]⟩ else hd.block by rw [← hbe]; rfl)
              have HHO2 := hide hho
              have HHS2 := hide (hold_sum T3 hd)
              clear hx2 hm2 hhd hcell2 hU hUs hUb hUh hub2 hzU hff hho
              go_upto_region 18 with fail
              rw [← HU.out, ← HUB.out]
              clear he2 hrz
              go_upto_if 72 with fail
              go_cut [3] (fun x wx => x = .string (T3 ++ ⟨#[32]⟩ ++ atT hd) ∧ wx = U)
              case first =>
                cases be
                · go_wp2_with fail
                  go_meet
                  exact ⟨by rw [HAT.out]; rfl, rfl⟩
                · go_wp2_with fail
                  go_meet
                  exact ⟨by
                    have h9 : atT hd = ⟨#[45]⟩ := by rw [HAT.out]; rfl
                    rw [h9, ByteArray.append_assoc]; rfl, rfl⟩
              case rest =>
              obtain ⟨rfl, hwc2⟩ := hcut
              subst hwc2
              have hap : (T3 ++ ⟨#[32]⟩ ++ atT hd).size ≤ 661 + 2000 * k + 100 * j := by simp only [app_size, s2]; omega
              obtain ⟨N, hN⟩ : ∃ N, N = T3 ++ ⟨#[32]⟩ ++ atT hd := ⟨_, rfl⟩
              rw [← hN] at hap ⊢
              have hsz := size_of (n := 640 + 2000 * k + 100 * j) (m := 100) (x := (holdT hd).data.toList) (HHS2.out.trans (by rw [hT3.out])) (by rw [← hT3.out, bs_length]; exact hTs3) (by rw [data_len]; exact HHZ.out)
              have HN := hide (HHS2.out.trans (by rw [hT3.out] : _ = PRE ++ holdsT (l2.take j) ++ (holdT hd).data.toList))
              rw [← hN] at HN hsz
              clear hN hbe
              go_upto_region 21 with fail
              refine wp_region_first wc.heap.size (by kernel_rfl) (by kernel_rfl) ?_
              repeat (go_big_quiet_step (first | (go_at_call 29; exact KD.out wc _ HHO2.out.pulls _) | (go_at_call 30; exact KT.out wc _ _ HHO2.out.num HHO2.out.den (by omega) _)))
              refine wpQuiet_nil ?_
              intro q
              obtain ⟨M, hM⟩ : ∃ M, M = N ++ ⟨#[32]⟩ ++ numB hd.pulls ++ ⟨#[32]⟩ ++ fracT hd.num hd.den := ⟨_, rfl⟩
              rw [← hM] at HN hsz ⊢
              have HNX := hide (show bs M = PRE ++ holdsT (l2.take (j + 1)) by rw [HN.out, holdsT, holdsT, HNF2.out]; simp only [List.append_assoc])
              have HQ := hide (HWU.out.trans (q.below.mono HWU.out.size))
              clear hM
              go_wp2_with fail
              exact ⟨⟨j + 1, M, rfl, by go_num, by omega, by omega, HNX, ⟨q.val, HQ.out⟩, rfl⟩, by simp [intOf]; omega⟩
            · obtain rfl : j = l2.length := by omega
              rw [List.take_length] at hT3
              obtain ⟨M, hM⟩ : ∃ M, M = T3 ++ ⟨#[10]⟩ := ⟨_, rfl⟩
              have hMs : M.size ≤ 600 + 2000 * (k + 1) := by rw [hM, app_size, s3]; omega
              have HNX := hide (show bs M = blocksT l ++ ropesT (l'.take (k + 1)) by
                rw [hM, bs_plus, hT3.out, HPRE.out, ropesT, ropesT, HNF.out, ropeT, bs_data ⟨#[10]⟩]
                simp only [List.append_assoc])
              have HM := hide hM
              have HQ := hide (HWV.out.trans (z.below.mono hWV))
              clear hM
              go_wp2_with fail
              exact ⟨⟨k + 1, M, by rw [HM.out], by go_num, by omega, hMs, HNX, ⟨z.val, HQ.out⟩, rfl⟩, by simp [intOf]; omega⟩
        · obtain rfl : k = l'.length := by omega
          rw [List.take_length] at hT2
          have HFIN := hide (show T = ⟨res.toArray⟩ from bs_inj (by rw [hT2.out, bs_mk, HRES.out]))
          clear hT2
          go_wp2_with fail
          go_ret
          exact Gives.mk (by rw [← HFIN.out]; rfl) (HWB.out y)
end Go.Proofs.YtgamhdbcejkllaaGreatDoor
