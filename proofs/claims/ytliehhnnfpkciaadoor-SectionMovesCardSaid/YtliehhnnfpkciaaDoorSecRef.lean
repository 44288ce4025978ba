/- loftblockref32: Size, Given, Row, Trims. -/
import Derived.Test.YtliehhnnfpkciaaDoorSecSize
namespace Go.Proofs.YtliehhnnfpkciaaDoor
open Go.RowKit

set_option maxHeartbeats 4000000 in
theorem refSecSize_any (h : HouseD) (hh : houseOk h = true) (scale : Int) (hs1 : 1 ≤ scale) (hs2 : scale ≤ 1048576) (w : World) (B : Nat) (hB : B ≤ w.heap.size) (hat : HouseD.at_ w B h) :
    Calls Tryd.prog 79 #[.agg #[.string h.name, .int .i64 h.height, .slice h.sets.A h.sets.l.length h.sets.cap, .slice h.roofs.A h.roofs.l.length h.roofs.cap], .int .i64 scale] w (Gives w (.tuple #[.int .i64 (secRows h scale), .int .i64 (secCols h scale)])) := by
  obtain ⟨W, hW, hWs, hWb, hWh⟩ := boxed w (.cells #[.string h.name, .int .i64 h.height, .slice h.sets.A h.sets.l.length h.sets.cap, .slice h.roofs.A h.roofs.l.length h.roofs.cap] 25)
  have hc := fun y : After W.heap.size W => HouseD.boxed hWh (by omega) y
  have hbd : ∀ y : After W.heap.size W, Below w.heap.size w y.val := fun y => hWb.trans (y.below.mono (by omega))
  have hatW : HouseD.at_ W W.heap.size h := hat.to (hWb.mono hB) (by omega)
  obtain ⟨ht0, ht1⟩ := height_of_ok hh
  obtain ⟨q0, q1⟩ := quo_bound (show 0 ≤ h.height by omega) ht1 hs1
  have hz := secSet_of_ok hh
  have hlc : h.sets.l.length ≤ h.sets.cap := hat.sets.1
  have hm : h.sets.cap ≤ 9223372036854775807 := hat.sets.2.1
  have HSL := hide hatW.sets
  have HEA := hide hatW.each
  have HZ := hide hz
  have HFB := hide fun k => farTake_bound hz hs1 k
  have HW := hide hW
  have HBD := hide hbd
  have HRE := hide (show (Value.tuple #[.int .i64 (secRows h scale), .int .i64 (secCols h scale)]) = .tuple #[.int .i64 (h.height / scale + 1), .int .i64 (farTo h.sets.l scale + 1)] from rfl)
  rw [HRE.out]
  clear hW hWs hWh hWb hbd hat hatW hz hh HRE
  obtain ⟨name, height, ⟨A, cap, l⟩, roofs⟩ := h
  simp only at *
  go_enter Tryd.func79, Tryd.ntmps79
  go_wp2
  rw [← HW.out]
  go_loopw [6, 7, 8, 9] (fun f v _ _ wr => ∃ k : Nat, v = .int .i64 k ∧ k ≤ l.length ∧ f = .int .i64 (farTo (l.take k) scale) ∧ ∃ x : After W.heap.size W, wr = x.val) (fun _ v _ _ _ => l.length - (intOf v).toNat)
  case atStart => exact ⟨0, rfl, Nat.zero_le _, rfl, After.refl _ _, rfl⟩
  case round =>
    obtain ⟨k, rfl, hk, rfl, x, rfl⟩ := hrel
    by_cases hlt : k < l.length
    · obtain ⟨b, off, hA, hb, hcell⟩ := HSL.out.2.2 (show 0 < l.length by omega)
      simp only at hA
      subst hA
      have hx : l[k]? = some l[k] := List.getElem?_eq_getElem hlt
      have he := fun x : After W.heap.size W => SetD.elem hx hb hcell x
      have HZS := hide (HZ.out l[k] (List.getElem_mem hlt))
      have d0 := HZS.out.d0
      have d1 := HZS.out.d1
      obtain ⟨f0, f1⟩ := HFB.out k
      have HNX := hide (farTo_next scale hx)
      have HIT := hide ((HEA.out l[k] (List.getElem_mem hlt)).items)
      have HX := hide hx
      clear hcell hx
      obtain ⟨e0, e1⟩ := quo_bound d0 d1 hs1
      have HZI := hide fun i hi => (HZS.out.items i hi).2.1
      have HFI := hide fun (il : List ItemD) (m : Int) (h : ∀ i ∈ il, i ∈ l[k].items.l) (a : 0 ≤ m) (b : m ≤ 2097152) => farItems_bound (d := l[k].depth) d0 d1 hs1 il m (fun i hi => HZI.out i (h i hi)) a b
      have HFS := hide (show farSet scale (farTo (l.take k) scale) l[k] = l[k].items.l.foldl (farItem l[k].depth scale) (max (farTo (l.take k) scale) (l[k].depth / scale)) from rfl)
      have hic : l[k].items.l.length ≤ l[k].items.cap := HIT.out.1
      have hicm : l[k].items.cap ≤ 9223372036854775807 := HIT.out.2.1
      clear HZS
      generalize hfar : farTo (l.take k) scale = far at *
      clear hfar
      generalize l[k] = s at *
      obtain ⟨sname, depth, low, high, length, lines, pipe, arbor, purchase, most, brake, ⟨IA, icap, il⟩, bricks⟩ := s
      simp only at *
      obtain ⟨W', hW', hWs', hWb', hWh'⟩ := boxed x.val (.cells #[.string sname, .int .i64 depth, .int .i64 low, .int .i64 high, .int .i64 length, .slice lines.A lines.l.length lines.cap, .int .i64 pipe, .int .i64 arbor, .int .i64 purchase, .int .i64 most, .int .i64 brake, .slice IA il.length icap, .slice bricks.A bricks.l.length bricks.cap] 38)
      have hcS := fun y : After W'.heap.size W' => SetD.boxed (s := ⟨sname, depth, low, high, length, lines, pipe, arbor, purchase, most, brake, ⟨IA, icap, il⟩, bricks⟩) hWh' (by omega) y
      simp only at hcS
      have hb2 : ∀ y : After W'.heap.size W', Below W.heap.size W y.val := fun y => x.below.trans ((hWb'.mono x.size).trans (y.below.mono (by have := x.size; omega)))
      have HW' := hide hW'
      have HB2 := hide hb2
      have HIT' := hide (HIT.out.to (HB2.out (After.refl _ W')) (show W.heap.size ≤ W'.heap.size by have := x.size; omega))
      clear hW' hWs' hWh' hWb' hb2
      have K1 := hide fun y : After W'.heap.size W' => Gives.after (x := y) (Nat.le_refl _) (refDown_any depth scale (by omega) (by omega) hs1 hs2 y.val)
      go_wp2_with (go_at_call 108; rw [← HW'.out]; refine (K1.out (After.refl _ W')).mono ?_; rintro e w' ⟨rfl, y, rfl⟩)
      go_loopw [6, 9] (fun f v wr => ∃ j : Nat, v = .int .i64 j ∧ j ≤ il.length ∧ f = .int .i64 ((il.take j).foldl (farItem depth scale) (max far (depth / scale))) ∧ ∃ z : After W'.heap.size W', wr = z.val) (fun _ v _ => il.length - (intOf v).toNat)
      case atStart => exact ⟨0, rfl, Nat.zero_le _, rfl, _, rfl⟩
      case round =>
        obtain ⟨j, rfl, hj, rfl, z, rfl⟩ := hrel
        by_cases hjt : j < il.length
        · obtain ⟨b2, off2, hA2, hbb2, hcell2⟩ := HIT'.out.2.2 (show 0 < il.length by omega)
          simp only at hA2
          subst hA2
          have hx2 : il[j]? = some il[j] := List.getElem?_eq_getElem hjt
          have he2 : ∀ x : After W'.heap.size W', x.val.cell? ⟨b2, off2 + j * 7 + 5, none⟩ = some (.int .i64 il[j].front) := fun x => (ItemD.elem hx2 hbb2 hcell2 x).2.2.2.2.2.1
          obtain ⟨g0, g1⟩ := HZI.out il[j] (List.getElem_mem hjt)
          obtain ⟨t0, t1⟩ := HFI.out (il.take j) (max far (depth / scale)) (fun i hi => List.mem_of_mem_take hi) (by omega) (by omega)
          have HN2 := hide (farItems_next depth scale (max far (depth / scale)) hx2)
          clear hcell2 hx2
          have r0 : 0 ≤ (depth + il[j].front) / scale := Int.ediv_nonneg (by omega) (by omega)
          have r1 : (depth + il[j].front) / scale ≤ depth + il[j].front := Int.ediv_le_self _ (by omega)
          have K2 := hide fun y : After W'.heap.size W' => Gives.after (x := y) (Nat.le_refl _) (refDown_any (depth + il[j].front) scale (by omega) (by omega) hs1 hs2 y.val)
          have j0 : (0 : Int) ≤ (j : Int) := by omega
          have j1 : (j : Int) < (il.length : Int) := by omega
          generalize (il.take j).foldl (farItem depth scale) (max far (depth / scale)) = fj at *
          go_wp2_with fail
          refine wp_region_after z (by kernel_rfl) (by kernel_rfl) ?_
          repeat (go_big_quiet_step ((go_at_call 108; exact K2.out _)))
          refine wpQuiet_nil ?_
          intro y2
          go_wp2
          exact ⟨⟨j + 1, by go_num, by omega, by rw [HN2.out, farItem], _, rfl⟩, by simp [intOf]; omega⟩
        · have ej : j = il.length := by omega
          subst ej
          have HEQ := hide (show (il.take il.length).foldl (farItem depth scale) (max far (depth / scale)) = farTo (l.take (k + 1)) scale by rw [List.take_length, HNX.out, HFS.out])
          go_wp2
          exact ⟨⟨k + 1, by go_num, by omega, by rw [← HEQ.out], ⟨_, HB2.out _⟩, rfl⟩, by simp [intOf]; omega⟩
    · have ek : k = l.length := by omega
      subst ek
      obtain ⟨f0, f1⟩ := HFB.out l.length
      rw [List.take_length] at *
      go_wp2
      go_ret2
      exact Gives.mk rfl (HBD.out _)
set_option maxHeartbeats 1000000 in
theorem refSecGiven_any (h : HouseD) (hok : h.ok) (scale : Int) (w : World) (B : Nat) (hB : B ≤ w.heap.size) (hat : HouseD.at_ w B h) :
    Calls Tryd.prog 47 #[.agg #[.string h.name, .int .i64 h.height, .slice h.sets.A h.sets.l.length h.sets.cap, .slice h.roofs.A h.roofs.l.length h.roofs.cap], .int .i64 scale] w (Gives w (.int .i64 (secE h scale))) := by
  obtain ⟨W, hW, hWs, hWb, hWh⟩ := boxed w (.cells #[.string h.name, .int .i64 h.height, .slice h.sets.A h.sets.l.length h.sets.cap, .slice h.roofs.A h.roofs.l.length h.roofs.cap] 25)
  have hc := fun y : After W.heap.size W => HouseD.boxed hWh (by omega) y
  have hbd : ∀ y : After W.heap.size W, Below w.heap.size w y.val := fun y => hWb.trans (y.below.mono (by omega))
  have hatW : HouseD.at_ W W.heap.size h := hat.to (hWb.mono hB) (by omega)
  have hv := refHouse_any h hok W W.heap.size (Nat.le_refl _) hatW
  have HV := hide hv
  have HW := hide hW
  have HBD := hide hbd
  clear hW hWs hWh hWb hbd hat hok hv
  cases hh : houseOk h
  · have HE := hide (show secE h scale = 1 by simp [secE, hh])
    go_enter Tryd.func47, Tryd.ntmps47
    go_wp2_with (go_at_call 63; rw [← HW.out]; refine (Gives.first HV.out).mono ?_; rintro e w' ⟨rfl, y, rfl⟩)
    go_ret
    exact Gives.mk (congrArg (Value.int IntKind.i64) HE.out.symm) (HBD.out _)
  · by_cases hs : 1 ≤ scale ∧ scale ≤ 1048576
    · obtain ⟨hs1, hs2⟩ := hs
      have HE := hide (show secE h scale = (if secRows h scale ≤ 200 ∧ secCols h scale ≤ 200 then 0 else 4) by simp only [secE, hh, if_true]; rw [if_pos ⟨hs1, hs2⟩])
      have HZ := hide fun y : After W.heap.size W => Gives.after (x := y) (Nat.le_refl _) (refSecSize_any h hh scale hs1 hs2 y.val W.heap.size y.size (hatW.to y.below (Nat.le_refl _)))
      clear hatW
      generalize secRows h scale = R at *
      generalize secCols h scale = C at *
      by_cases hr : 200 < R
      · go_enter Tryd.func47, Tryd.ntmps47
        go_wp2_with (first
          | (go_at_call 63; rw [← HW.out]; refine (Gives.first HV.out).mono ?_; rintro e w' ⟨rfl, y, rfl⟩)
          | (go_at_call 79; refine (HZ.out _).mono ?_; rintro e w' ⟨rfl, y, rfl⟩))
        go_ret
        exact Gives.mk (congrArg (Value.int IntKind.i64) (show _ = secE h scale by rw [HE.out, if_neg (by omega)])) (HBD.out _)
      · by_cases hcc : 200 < C
        all_goals
          go_enter Tryd.func47, Tryd.ntmps47
          go_wp2_with (first
            | (go_at_call 63; rw [← HW.out]; refine (Gives.first HV.out).mono ?_; rintro e w' ⟨rfl, y, rfl⟩)
            | (go_at_call 79; refine (HZ.out _).mono ?_; rintro e w' ⟨rfl, y, rfl⟩))
          go_ret
          exact Gives.mk (congrArg (Value.int IntKind.i64) (show _ = secE h scale by rw [HE.out]; first | rw [if_neg (by omega)] | rw [if_pos (by omega)])) (HBD.out _)
    · have HE := hide (show secE h scale = 2 by simp only [secE, hh, if_true]; rw [if_neg hs])
      have hs' : scale < 1 ∨ 1048576 < scale := by omega
      clear hs
      rcases hs' with hs | hs
      all_goals
        go_enter Tryd.func47, Tryd.ntmps47
        go_wp2_with (go_at_call 63; rw [← HW.out]; refine (Gives.first HV.out).mono ?_; rintro e w' ⟨rfl, y, rfl⟩)
        go_ret
        exact Gives.mk (congrArg (Value.int IntKind.i64) HE.out.symm) (HBD.out _)
end Go.Proofs.YtliehhnnfpkciaaDoor
