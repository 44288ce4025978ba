/- gridplan.Legend of a right house: the walk. -/
import Derived.Test.YtliehhnnfpkciaaGreatDoorLegend
import Derived.Test.YtliehhnnfpkciaaGreatDoorSetOf
namespace Go.Proofs.YtliehhnnfpkciaaGreatDoor
open Go.RowKit

structure LineFit (s : SetD) : Prop where
  name : isName s.name = true
  depth : I64 s.depth
  lines : s.lines.l.length ≤ 10
  items : s.items.l.length ≤ 40
theorem lineFit_of {h : HouseD} (hok : h.ok) (hh : houseOk h = true) {s : SetD} (hs : s ∈ h.sets.l) : LineFit s := by
  have h2 := set_of_ok hh hs
  rw [setOk] at h2
  simp only [Bool.and_eq_true] at h2
  obtain ⟨⟨⟨⟨h3, h4⟩, _⟩, h6⟩, _⟩ := h2
  rw [setFirst] at h3
  simp only [Bool.and_eq_true] at h3
  rw [linesOk, Bool.and_eq_true, betweenB_iff] at h4
  rw [itemsOk, Bool.and_eq_true, decide_eq_true_eq] at h6
  exact ⟨h3.1.1.1.1.1, (hok.sets s hs).depth, by omega, h6.1⟩
structure BeamFit (b : RoofD) : Prop where
  name : isName b.name = true
  fro : I64 b.fro
  til : I64 b.til
theorem roofs_of_ok {h : HouseD} (hh : houseOk h = true) : roofsOk h.roofs.l = true := by
  rw [houseOk, Bool.and_eq_true] at hh
  exact (houseHead_iff.1 hh.1).2.2.2.2
theorem beamFit_of {h : HouseD} (hok : h.ok) (hh : houseOk h = true) {b : RoofD} (hb : b ∈ h.roofs.l) : BeamFit b := by
  have h2 := roofs_of_ok hh
  rw [roofsOk, Bool.and_eq_true] at h2
  obtain ⟨j, hj, e⟩ := List.getElem_of_mem hb
  have h3 := allIdx_iff.1 h2.2 j b (by rw [List.getElem?_eq_getElem hj, e])
  rw [roofAt, Bool.and_eq_true, roofFine] at h3
  simp only [Bool.and_eq_true] at h3
  exact ⟨by first | exact h3.1.1.1.1.1.1 | exact h3.1.1.1.1.1, (hok.roofs b hb).fro, (hok.roofs b hb).til⟩
theorem roofs_20 {h : HouseD} (hh : houseOk h = true) : h.roofs.l.length ≤ 20 := by
  have h2 := roofs_of_ok hh
  rw [roofsOk, Bool.and_eq_true, decide_eq_true_eq] at h2
  exact h2.1
set_option maxRecDepth 100000 in
set_option maxHeartbeats 8000000 in
theorem legend_good (h : HouseD) (hok : h.ok) (hh : houseOk h = true) (h20 : h.sets.l.length < 20) (w : World) (ht : Pow10 w) (B : Nat) (hB : B ≤ w.heap.size) (hat : HouseD.at_ w B h) :
    Calls Tryz.prog 14 #[.agg #[.string h.name, .int .i64 h.height, .slice h.sets.A h.sets.l.length h.sets.cap, .slice h.roofs.A h.roofs.l.length h.roofs.cap]] w (Gives w (.tuple #[.string ⟨(legT h.sets.l h.roofs.l).toArray⟩, .int .i64 0])) := by
  obtain ⟨W, hW, hWs, hWb, hWh⟩ := boxed w (.cells #[.string h.name, .int .i64 h.height, .slice h.sets.A h.sets.l.length h.sets.cap, .slice h.roofs.A h.roofs.l.length h.roofs.cap] 25)
  have hc := fun y : After W.heap.size W => HouseD.boxed hWh (by omega) y
  have hatW : HouseD.at_ W W.heap.size h := hat.to (hWb.mono hB) (by omega)
  have KV := hide (Gives.first (houseValid_any h hok W W.heap.size (Nat.le_refl _) hatW))
  rw [hh] at KV
  have KO := hide fun (y : World) (hy : Below W.heap.size W y) => order_good h hok hh h20 y W.heap.size hy.size (hatW.to hy (Nat.le_refl _))
  have htW : Pow10 W := ht.below hWb
  have KT := hide fun (v : World) (hv : Below W.heap.size W v) => htW.below hv
  have HLF := hide fun s (hs : s ∈ h.sets.l) => lineFit_of hok hh hs
  have HBF := hide fun s (hs : s ∈ h.roofs.l) => beamFit_of hok hh hs
  have hr20 := roofs_20 hh
  have HSB := hide hatW.sets
  have HSR := hide hatW.roofs
  have hlcb : h.sets.l.length ≤ h.sets.cap := hat.sets.1
  have hmb : h.sets.cap ≤ 9223372036854775807 := hat.sets.2.1
  have hlcr : h.roofs.l.length ≤ h.roofs.cap := hat.roofs.1
  have hmr : h.roofs.cap ≤ 9223372036854775807 := hat.roofs.2.1
  have hol := orderE_length (dep h.sets.l) h.sets.l.length
  have holt := fun i (hi : i ∈ orderE (dep h.sets.l) h.sets.l.length) => orderE_lt _ hi
  have hcM := fun y : After W.heap.size W => hc ⟨_, (TSt.fresh W y.val y.below).bel⟩
  simp only at hcM
  have HBD := hide fun y : After W.heap.size W => hWb.trans (y.below.mono (by omega))
  have HW := hide hW
  have HLEG := hide (show legT h.sets.l h.roofs.l = setsT h.sets.l (orderE (dep h.sets.l) h.sets.l.length) ++ beamsT h.roofs.l from rfl)
  have HRES : ∃ res, res = legT h.sets.l h.roofs.l := ⟨_, rfl⟩
  obtain ⟨res, hres⟩ := HRES
  rw [← hres] at HLEG ⊢
  clear hW hWh hWb hat hatW hh hok ht htW hres
  unfold Ordered at KO
  generalize orderE (dep h.sets.l) h.sets.l.length = o at *
  obtain ⟨name, height, ⟨A, cap, l⟩, ⟨A', cap', l'⟩⟩ := h
  simp only at *
  go_enter Tryz.func14, Tryz.ntmps14
  go_wp2_with (go_at_call 37; rw [← HW.out]; refine KV.out.mono ?_; rintro e w' ⟨rfl, y, rfl⟩)
  have hst := TSt.fresh W y.val y.below
  obtain ⟨b, hb⟩ : ∃ b, b = y.val.heap.size := ⟨_, rfl⟩
  rw [← hb] at hst ⊢
  generalize y.val.alloc (.cells #[.pointer none, .slice none 0 0] 58) = U at *
  have HST := hide hst
  have HOL := hide hol
  have HOT := hide holt
  clear hb hst hol holt hcM
  go_wp2_with fail
  refine (KO.out U HST.out.bel).mono ?_
  rintro e U2 ⟨OA, ocap, rfl, hoc1, hoc2, hbU, hnums⟩
  have hst2 := HST.out.more hbU
  have HNU := hide hnums
  have HST2 := hide hst2
  have hoc2' : ocap ≤ 9223372036854775807 := hoc2
  clear hbU hnums hst2 HST KO hoc2
  go_wp2
  have eg := enters_legend1
  go_loopw [9, 10, 24] (fun _ _ v wr => ∃ k : Nat, v = .int .i64 k ∧ k ≤ l.length ∧ Hid (TSt W b (setsT l (o.take k)) wr) ∧ (setsT l (o.take k)).length ≤ 201 * k ∧ Hid (0 < l.length → ∃ g, OA = some ⟨g, 0, none⟩ ∧ NumsIn wr g o)) (fun _ _ v _ => l.length - (intOf v).toNat)
  case atStart => exact ⟨0, rfl, Nat.zero_le _, HST2, by simp [setsT], HNU⟩
  case round =>
    clear HST2 HNU
    obtain ⟨k, rfl, hk, st, hTl, hnu⟩ := hrel
    have hcx := hc ⟨wr, st.out.bel⟩
    simp only at hcx
    by_cases hlt : k < l.length
    · obtain ⟨g, hgA, hnum⟩ := hnu.out (by omega)
      subst hgA
      obtain ⟨i, hxo⟩ : ∃ i, o[k]? = some i := ⟨_, List.getElem?_eq_getElem (show k < o.length by rw [HOL.out]; exact hlt)⟩
      have hlo : i < l.length := HOT.out _ (List.mem_of_getElem? hxo)
      have hcn := hnum.cell hxo
      obtain ⟨bb, off, hA, hbb, hcell⟩ := HSB.out.2.2 (show 0 < l.length by omega)
      simp only at hA
      subst hA
      have hx : l[i]? = some l[i] := List.getElem?_eq_getElem hlo
      have hmem := List.getElem_mem hlo
      have hlf := HLF.out l[i] hmem
      have he := SetD.elem hx hbb hcell ⟨wr, st.out.bel⟩
      simp only at he
      have HNX := hide (show setsT l (o.take (k + 1)) = setsT l (o.take k) ++ (setLn l[i] ++ [10]) from by rw [setsT, flat_next hxo, setLnAt_of hx]; rfl)
      have hls := setLn_size hlf.name hlf.depth (by have := hlf.lines; omega) (by have := hlf.items; omega)
      have hjn := setLn_join l[i]
      have hd := hlf.depth
      have hl10 := hlf.lines
      have hi40 := hlf.items
      generalize l[i] = s at *
      obtain ⟨V, hV, hVs, hVb, hVh⟩ := boxed wr (.cells #[.string s.name, .int .i64 s.depth, .int .i64 s.low, .int .i64 s.high, .int .i64 s.length, .slice s.lines.A s.lines.l.length s.lines.cap, .int .i64 s.pipe, .int .i64 s.arbor, .int .i64 s.purchase, .int .i64 s.most, .int .i64 s.brake, .slice s.items.A s.items.l.length s.items.cap, .slice s.bricks.A s.bricks.l.length s.bricks.cap] 49)
      have hh := fun y : After V.heap.size V => SetD.boxed (s := s) hVh (by omega) y
      have hVw : ∀ y : After V.heap.size V, Below wr.heap.size wr y.val := fun y => hVb.trans (y.below.mono (by omega))
      have KI := hide fun (n : Int) (hn : I64 n) (y : After V.heap.size V) => Gives.after (x := y) (Nat.le_refl _) (itoa10_any n hn y.val (KT.out y.val (st.out.bel.trans ((hVw y).mono st.out.bel.size))))
      have KL := hide fun (y : After V.heap.size V) => line_any (st.out.more ((hVw y).alloc (by have := hVb.size; have := y.size; omega) (.cells #[.string s.name, .string ⟨#[97, 116]⟩, .string (numT s.depth), .string ⟨#[108, 105, 110, 101, 115]⟩, .string (numT s.lines.l.length), .string ⟨#[105, 116, 101, 109, 115]⟩, .string (numT s.items.l.length)] 9))) y.val.heap.size 7 [s.name, ⟨#[97, 116]⟩, numT s.depth, ⟨#[108, 105, 110, 101, 115]⟩, numT s.lines.l.length, ⟨#[105, 116, 101, 109, 115]⟩, numT s.items.l.length]
        (fun j t hj => by rw [Nat.zero_add, Lib.cell_of_heap (heap_alloc_new y.val _)]; match j, hj with | 0, hj => (injection hj with hj; subst hj; rfl) | 1, hj => (injection hj with hj; subst hj; rfl) | 2, hj => (injection hj with hj; subst hj; rfl) | 3, hj => (injection hj with hj; subst hj; rfl) | 4, hj => (injection hj with hj; subst hj; rfl) | 5, hj => (injection hj with hj; subst hj; rfl) | 6, hj => (injection hj with hj; subst hj; rfl) | n + 7, hj => cases hj)
        (by simp) (by simp) (by simp) hjn hls (by omega)
      have HNN := hide (show ∀ (y : After V.heap.size V) (ob : Obj) (w' : World), KeepT (y.val.alloc ob) w' → NumsIn w' g o from fun y ob w' hk => hnum.block fun cs fr h1 => hk g cs 3 fr (by decide) (by decide) ((((hVw y).alloc (by have := hVb.size; have := y.size; omega) ob).block g (Array.getElem?_eq_some_iff.1 h1).1).trans h1))
      have HV := hide hV
      clear hV hVs hVb hVh hcell hx hmem hjn hnum hVw hxo hnu
      go_wp2_with fail
      rw [← HV.out]
      refine wp_move_tail V.heap.size 14 (Operand.tmp 5) (by kernel_rfl) (by kernel_rfl) rfl rfl (fun _ _ _ _ h => h) ?_
      simp only [List.take_succ_cons, List.take_zero, List.drop_succ_cons, List.drop_zero]
      go_simp
      repeat (go_big_quiet_step ((go_at_call 42; exact KI.out _ (by first | exact hd | exact ⟨by omega, by omega⟩) _)))
      refine wpQuiet_nil ?_
      intro z
      go_wp2_with fail
      refine (KL.out z).mono ?_
      rintro e w3 ⟨rfl, hs3, hk3⟩
      have HK3 := hide hk3
      rw [← HNX.out] at hs3
      have HS3 := hide hs3
      clear hk3 hs3
      go_wp2
      exact ⟨⟨k + 1, by go_num, by omega, HS3, by rw [HNX.out, List.length_append, List.length_append]; simp only [List.length_cons, List.length_nil]; omega, hide fun _ => ⟨g, rfl, HNN.out z _ _ HK3.out⟩⟩, by simp [intOf]; omega⟩
    · have hkl : k = l.length := by omega
      subst hkl
      have htk : o.take l.length = o := by rw [← HOL.out, List.take_length]
      rw [htk] at st hTl
      have HST := hide st.out
      clear htk st hnu
      go_wp2
      go_loopw [12, 53] (fun _ v wr => ∃ k : Nat, v = .int .i64 k ∧ k ≤ l'.length ∧ Hid (TSt W b (setsT l o ++ beamsT (l'.take k)) wr) ∧ (setsT l o ++ beamsT (l'.take k)).length ≤ 201 * (l.length + k)) (fun _ v _ => l'.length - (intOf v).toNat)
      case atStart => exact ⟨0, rfl, Nat.zero_le _, by simpa [beamsT] using HST, by simpa [beamsT] using hTl⟩
      case round =>
        clear HST hTl hcx
        obtain ⟨k, rfl, hk, st, hTl⟩ := hrel
        have hcx := hc ⟨wr, st.out.bel⟩
        simp only at hcx
        by_cases hlt' : k < l'.length
        · obtain ⟨bb, off, hA, hbb, hcell⟩ := HSR.out.2.2 (show 0 < l'.length by omega)
          simp only at hA
          subst hA
          have hx : l'[k]? = some l'[k] := List.getElem?_eq_getElem hlt'
          have hmem := List.getElem_mem hlt'
          have hlf := HBF.out l'[k] hmem
          have he := RoofD.elem hx hbb hcell ⟨wr, st.out.bel⟩
          simp only at he
          have HNX := hide (show beamsT (l'.take (k + 1)) = beamsT (l'.take k) ++ (beamLn l'[k] ++ [10]) from by rw [beamsT, flat_next hx]; rfl)
          have hls := beamLn_size hlf.name hlf.fro hlf.til
          have hjn := beamLn_join l'[k]
          have hf := hlf.fro
          have htl := hlf.til
          generalize l'[k] = s at *
          obtain ⟨V, hV, hVs, hVb, hVh⟩ := boxed wr (.cells #[.string s.name, .int .i64 s.fro, .int .i64 s.til, .int .i64 s.most] 79)
          have hh := fun y : After V.heap.size V => RoofD.boxed (i := s) hVh (by omega) y
          have hVw : ∀ y : After V.heap.size V, Below wr.heap.size wr y.val := fun y => hVb.trans (y.below.mono (by omega))
          have KI := hide fun (n : Int) (hn : I64 n) (y : After V.heap.size V) => Gives.after (x := y) (Nat.le_refl _) (itoa10_any n hn y.val (KT.out y.val (st.out.bel.trans ((hVw y).mono st.out.bel.size))))
          have KL := hide fun (y : After V.heap.size V) => line_any (st.out.more ((hVw y).alloc (by have := hVb.size; have := y.size; omega) (.cells #[.string ⟨#[98, 101, 97, 109]⟩, .string s.name, .string ⟨#[102, 114, 111, 109]⟩, .string (numT s.fro), .string ⟨#[116, 111]⟩, .string (numT s.til)] 9))) y.val.heap.size 6 [⟨#[98, 101, 97, 109]⟩, s.name, ⟨#[102, 114, 111, 109]⟩, numT s.fro, ⟨#[116, 111]⟩, numT s.til]
            (fun j t hj => by rw [Nat.zero_add, Lib.cell_of_heap (heap_alloc_new y.val _)]; match j, hj with | 0, hj => (injection hj with hj; subst hj; rfl) | 1, hj => (injection hj with hj; subst hj; rfl) | 2, hj => (injection hj with hj; subst hj; rfl) | 3, hj => (injection hj with hj; subst hj; rfl) | 4, hj => (injection hj with hj; subst hj; rfl) | 5, hj => (injection hj with hj; subst hj; rfl) | n + 6, hj => cases hj)
            (by simp) (by simp) (by simp) hjn hls (by omega)
          have HV := hide hV
          clear hV hVs hVb hVh hcell hx hmem hjn hVw
          go_wp2_with fail
          rw [← HV.out]
          refine wp_move_tail V.heap.size 9 (Operand.tmp 5) (by kernel_rfl) (by kernel_rfl) rfl rfl (fun _ _ _ _ h => h) ?_
          simp only [List.take_succ_cons, List.take_zero, List.drop_succ_cons, List.drop_zero]
          go_simp
          repeat (go_big_quiet_step ((go_at_call 42; exact KI.out _ (by first | exact hf | exact htl) _)))
          refine wpQuiet_nil ?_
          intro z
          go_wp2_with fail
          refine (KL.out z).mono ?_
          rintro e w3 ⟨rfl, hs3, hk3⟩
          rw [List.append_assoc, ← HNX.out] at hs3
          have HS3 := hide hs3
          clear hk3 hs3
          go_wp2
          exact ⟨⟨k + 1, by go_num, by omega, HS3, by rw [HNX.out, ← List.append_assoc, List.length_append (bs := beamLn s ++ [10])]; simp only [List.length_append, List.length_cons, List.length_nil] at hTl ⊢; omega⟩, by simp [intOf]; omega⟩
        · have hkl' : k = l'.length := by omega
          subst hkl'
          rw [List.take_length, ← HLEG.out] at st
          have KS := hide (string_any b b res wr st.out.ib (Nat.le_of_lt st.out.lt))
          have HST := hide st.out
          clear st
          go_wp2_with fail
          refine KS.out.mono ?_
          rintro e w4 ⟨rfl, hb4⟩
          have HB4 := hide (show Below W.heap.size W w4 from HST.out.bel.trans (hb4.mono HST.out.le))
          clear hb4
          go_wp2
          go_ret2
          exact Gives.mk rfl (HBD.out ⟨w4, HB4.out⟩)
end Go.Proofs.YtliehhnnfpkciaaGreatDoor
