/- loftblockref32.at: what the reference draws at a row and a column. -/
import Derived.Test.YtfpankbhfgcgaaaSecSpec
import Derived.Test.YtfpankbhfgcgaaaSecRef
namespace Go.Proofs.Ytfpankbhfgcgaaa
open Go.RowKit

theorem lineStep_no1 {l : List SetD} {tr : List Int} {scale H : Int} {r c k : Nat} {v : Int} (h : ¬ (c : Int) = (setN l k).depth / scale) : lineStep l tr scale H r c v k = v := by
  unfold lineStep filled; rw [if_neg (by omega)]
theorem lineStep_no2 {l : List SetD} {tr : List Int} {scale H : Int} {r c k : Nat} {v : Int} (h : ¬ (r : Int) < H - nth tr k / scale) : lineStep l tr scale H r c v k = v := by
  unfold lineStep filled; rw [if_neg (by omega)]
theorem lineStep_yes {l : List SetD} {tr : List Int} {scale H : Int} {r c k : Nat} {v : Int} (h1 : (c : Int) = (setN l k).depth / scale) (h2 : (r : Int) < H - nth tr k / scale) : lineStep l tr scale H r c v k = 124 := by
  unfold lineStep filled; rw [if_pos (by omega)]
theorem pipeStep_no1 {l : List SetD} {tr : List Int} {scale H : Int} {r c k : Nat} {v : Int} (h : ¬ (c : Int) = (setN l k).depth / scale) : pipeStep l tr scale H r c v k = v := by
  unfold pipeStep filled; rw [if_neg (by omega)]
theorem pipeStep_no2 {l : List SetD} {tr : List Int} {scale H : Int} {r c k : Nat} {v : Int} (h : ¬ (r : Int) = H - nth tr k / scale) : pipeStep l tr scale H r c v k = v := by
  unfold pipeStep filled; rw [if_neg (by omega)]
theorem pipeStep_yes {l : List SetD} {tr : List Int} {scale H : Int} {r c k : Nat} {v : Int} (h1 : (c : Int) = (setN l k).depth / scale) (h2 : (r : Int) = H - nth tr k / scale) : pipeStep l tr scale H r c v k = 43 := by
  unfold pipeStep filled; rw [if_pos (by omega)]
theorem item_ways (r c a b d e : Int) : ¬ a ≤ r ∨ (a ≤ r ∧ ¬ r ≤ b) ∨ (a ≤ r ∧ r ≤ b ∧ ¬ d ≤ c) ∨ (a ≤ r ∧ r ≤ b ∧ d ≤ c ∧ ¬ c ≤ e) ∨ (a ≤ r ∧ r ≤ b ∧ d ≤ c ∧ c ≤ e) := by omega
theorem itemStep_no {d t scale H : Int} {r c : Nat} {v : Int} {i : ItemD} (h : ¬ (H - t / scale ≤ (r : Int) ∧ (r : Int) ≤ H - (t - i.hang) / scale ∧ (d - i.back) / scale ≤ (c : Int) ∧ (c : Int) ≤ (d + i.front) / scale)) : itemStep d t scale H r c v i = v := by
  unfold itemStep filled; rw [if_neg (by omega)]
theorem itemStep_yes {d t scale H : Int} {r c : Nat} {v : Int} {i : ItemD} (h1 : H - t / scale ≤ (r : Int)) (h2 : (r : Int) ≤ H - (t - i.hang) / scale) (h3 : (d - i.back) / scale ≤ (c : Int)) (h4 : (c : Int) ≤ (d + i.front) / scale) : itemStep d t scale H r c v i = 35 := by
  unfold itemStep filled; rw [if_pos (by omega)]
set_option maxHeartbeats 8000000 in
set_option maxRecDepth 100000 in
theorem refAt_any (h : HouseD) (hh : houseOk h = true) (trims : Sl Int) (ht : trimsE h.sets.l trims.l = 0) (scale : Int) (hs1 : 1 ≤ scale) (hs2 : scale ≤ 1048576) (r c : Nat) (_ : r ≤ 400) (_ : c ≤ 400) (w : World) (B : Nat) (hB : B ≤ w.heap.size) (hat : HouseD.at_ w B h) (hatT : SlAt w B 1 intCells trims) :
    Calls Try.prog 45 #[.agg #[.string h.name, .int .i64 h.height, .slice h.sets.A h.sets.l.length h.sets.cap, .slice h.roofs.A h.roofs.l.length h.roofs.cap], .slice trims.A trims.l.length trims.cap, .int .i64 scale, .int .i64 (r : Int), .int .i64 (c : Int)] w (Gives w (.int .u8 (secCell h.sets.l trims.l scale (h.height / scale) r c))) := by
  obtain ⟨hlen, htk⟩ := trimsE_zero ht
  have hz := secSet_of_ok hh
  obtain ⟨ht0, ht1⟩ := height_of_ok hh
  obtain ⟨q0, q1⟩ := quo_bound (show 0 ≤ h.height by omega) ht1 hs1
  obtain ⟨W, hW, hWs, hWb, hWh⟩ := boxed w (.cells #[.string h.name, .int .i64 h.height, .slice h.sets.A h.sets.l.length h.sets.cap, .slice h.roofs.A h.roofs.l.length h.roofs.cap] 25)
  have hc := fun y : After W.heap.size W => HouseD.boxed hWh (by omega) y
  have hbd : ∀ y : After W.heap.size W, Below w.heap.size w y.val := fun y => hWb.trans (y.below.mono (by omega))
  have hatW : HouseD.at_ W W.heap.size h := hat.to (hWb.mono hB) (by omega)
  have hatTW : SlAt W W.heap.size 1 intCells trims := hatT.to (hWb.mono hB) (by omega)
  have KR : ∀ (u : World) (z : Int), -2097152 ≤ z → z ≤ 2097152 → Calls Try.prog 26 #[.agg #[.string h.name, .int .i64 h.height, .slice h.sets.A h.sets.l.length h.sets.cap, .slice h.roofs.A h.roofs.l.length h.roofs.cap], .int .i64 z, .int .i64 scale] u (Gives u (.int .i64 (h.height / scale - z / scale))) := fun u z h1 h2 => refSecRow_any h (by omega) ht1 z scale h1 h2 hs1 hs2 u
  have hlc : h.sets.l.length ≤ h.sets.cap := hat.sets.1
  have hm : h.sets.cap ≤ 9223372036854775807 := hat.sets.2.1
  have htc : trims.l.length ≤ trims.cap := hatT.1
  have htm : trims.cap ≤ 9223372036854775807 := hatT.2.1
  have HSL := hide hatW.sets
  have HEA := hide hatW.each
  have HTR := hide hatTW
  have HZ := hide hz
  have HTK := hide htk
  have HW := hide hW
  have HBD := hide hbd
  have HLN := hide hlen
  have HKR := hide KR
  clear hW hWs hWh hWb hbd hat hatW hatT hatTW ht hh hz htk hlen KR
  obtain ⟨name, height, ⟨A, cap, l⟩, roofs⟩ := h
  obtain ⟨TA, tcap, tr⟩ := trims
  simp only at *
  generalize hH : height / scale = H at *
  clear hH
  have HEND := hide (show secCell l tr scale H r c = pipesTo l tr scale H r c l.length from rfl)
  rw [HEND.out]
  have h00 : linesTo l tr scale H r c 0 = if r = 0 then 61 else 46 := rfl
  by_cases hr0 : r = 0
  all_goals
    (first | rw [if_pos hr0] at h00 | rw [if_neg hr0] at h00)
    have H00 := hide h00
    (first | have hreq : ((r : Int) == 0) = true := by simp; omega
           | have hreq : ((r : Int) == 0) = false := by simp; omega)
    clear h00 hr0
    go_enter Try.func45, Try.ntmps45
    go_wp2
    rw [← HW.out]
    go_loopw [11, 12] (fun o v wr => ∃ k : Nat, v = .int .i64 k ∧ k ≤ l.length ∧ o = .int .u8 (linesTo l tr scale H r c k) ∧ ∃ x : After W.heap.size W, wr = x.val) (fun _ v _ => l.length - (intOf v).toNat)
    case atStart => exact ⟨0, rfl, Nat.zero_le _, by rw [H00.out], After.refl _ _, rfl⟩
    case round =>
      clear H00
      obtain ⟨k, rfl, hk, rfl, x, rfl⟩ := hrel
      by_cases hlt : k < l.length
      · obtain ⟨b, off, hA, hbk, hcell⟩ := HSL.out.2.2 (show 0 < l.length by omega)
        obtain ⟨bt, offt, hTA, hbt, hcellt⟩ := HTR.out.2.2 (show 0 < tr.length by have := HLN.out; omega)
        simp only at hA hTA
        subst hA
        subst hTA
        have hx : l[k]? = some l[k] := List.getElem?_eq_getElem hlt
        have he := fun x : After W.heap.size W => (SetD.elem hx hbk hcell x).2.1
        have hkt : k < tr.length := by have := HLN.out; omega
        have hxt : tr[k]? = some (nth tr k) := nth_get hkt
        have htr := fun x : After W.heap.size W => intElem hxt hbt hcellt x
        have hok2 := HTK.out k hkt
        rw [trimOk, Bool.and_eq_true, setN_of hx, decide_eq_true_eq, decide_eq_true_eq] at hok2
        have hzs := HZ.out l[k] (List.getElem_mem hlt)
        have d0 := hzs.d0
        have d1 := hzs.d1
        have t0 : 0 ≤ nth tr k := Int.le_trans hzs.low hok2.1
        have t1 : nth tr k ≤ 1048576 := Int.le_trans hok2.2 hzs.high
        obtain ⟨e0, e1⟩ := quo_bound d0 d1 hs1
        obtain ⟨f0, f1⟩ := quo_bound t0 t1 hs1
        have kt0 : (0 : Int) ≤ (k : Int) := by omega
        have kt1 : (k : Int) < (tr.length : Int) := by omega
        have HSN := hide (setN_of hx)
        have HNX := hide (linesTo_next l tr scale H r c k)
        have KD := hide fun y : After W.heap.size W => Gives.after (x := y) (Nat.le_refl _) (refDown_any l[k].depth scale (by omega) (by omega) hs1 hs2 y.val)
        have KW := hide fun y : After W.heap.size W => Gives.after (x := y) (Nat.le_refl _) (HKR.out y.val (nth tr k) (by omega) (by omega))
        clear hcell hcellt hx hxt hok2 hzs
        generalize linesTo l tr scale H r c k = v at *
        have HLY := hide (fun (h1 : (c : Int) = (setN l k).depth / scale) (h2 : (r : Int) < H - nth tr k / scale) => lineStep_yes (v := v) h1 h2)
        have HLN2 := hide (fun (h2 : ¬ (r : Int) < H - nth tr k / scale) => lineStep_no2 (v := v) (c := c) (l := l) h2)
        generalize nth tr k = t at *
        by_cases hcd : (c : Int) = l[k].depth / scale
        · have hceq : ((c : Int) == l[k].depth / scale) = true := by simp; omega
          have HCD := hide hcd
          clear hcd
          by_cases hrt : (r : Int) < H - t / scale
          · have hrteq : decide ((r : Int) < H - t / scale) = true := by simp; omega
            have HST := hide (show linesTo l tr scale H r c (k + 1) = 124 by rw [HNX.out]; exact HLY.out (by rw [HSN.out]; exact HCD.out) hrt)
            go_wp2_with fail
            refine wp_region_after x (by kernel_rfl) (by kernel_rfl) ?_
            repeat (go_big_quiet_step (first | (go_at_call 47; exact KD.out _) | (go_at_call 26; exact KW.out _)))
            refine wpQuiet_nil ?_
            intro y
            go_wp2
            exact ⟨⟨k + 1, by go_num, by omega, by rw [HST.out], _, rfl⟩, by simp [intOf]; omega⟩
          · have hrteq : decide ((r : Int) < H - t / scale) = false := by simp; omega
            have HST := hide (show linesTo l tr scale H r c (k + 1) = v by rw [HNX.out]; exact HLN2.out hrt)
            go_wp2_with fail
            refine wp_region_after x (by kernel_rfl) (by kernel_rfl) ?_
            repeat (go_big_quiet_step (first | (go_at_call 47; exact KD.out _) | (go_at_call 26; exact KW.out _)))
            refine wpQuiet_nil ?_
            intro y
            go_wp2
            exact ⟨⟨k + 1, by go_num, by omega, by rw [HST.out], _, rfl⟩, by simp [intOf]; omega⟩
        · have hceq : ((c : Int) == l[k].depth / scale) = false := by simp; omega
          have HST := hide (show linesTo l tr scale H r c (k + 1) = v by rw [HNX.out]; exact lineStep_no1 (by rw [HSN.out]; exact hcd))
          go_wp2_with fail
          refine wp_region_after x (by kernel_rfl) (by kernel_rfl) ?_
          repeat (go_big_quiet_step (first | (go_at_call 47; exact KD.out _) | (go_at_call 26; exact KW.out _)))
          refine wpQuiet_nil ?_
          intro y
          go_wp2
          exact ⟨⟨k + 1, by go_num, by omega, by rw [HST.out], _, rfl⟩, by simp [intOf]; omega⟩
      · have ekl : k = l.length := by omega
        subst ekl
        go_wp2
        have HI0 := hide (show linesTo l tr scale H r c l.length = itemsTo l tr scale H r c 0 from rfl)
        go_loopw [11, 13] (fun o v wr => ∃ k : Nat, v = .int .i64 k ∧ k ≤ l.length ∧ o = .int .u8 (itemsTo l tr scale H r c k) ∧ ∃ x : After W.heap.size W, wr = x.val) (fun _ v _ => l.length - (intOf v).toNat)
        case atStart => exact ⟨0, rfl, Nat.zero_le _, by rw [HI0.out], _, rfl⟩
        case round =>
          clear HI0
          obtain ⟨k, rfl, hk, rfl, x, rfl⟩ := hrel
          by_cases hlt : k < l.length
          · obtain ⟨b, off, hA, hbk, hcell⟩ := HSL.out.2.2 (show 0 < l.length by omega)
            obtain ⟨bt, offt, hTA, hbt, hcellt⟩ := HTR.out.2.2 (show 0 < tr.length by have := HLN.out; omega)
            simp only at hA hTA
            subst hA
            subst hTA
            have hx : l[k]? = some l[k] := List.getElem?_eq_getElem hlt
            have he := fun x : After W.heap.size W => SetD.elem hx hbk hcell x
            have hkt : k < tr.length := by have := HLN.out; omega
            have hxt : tr[k]? = some (nth tr k) := nth_get hkt
            have htr := fun x : After W.heap.size W => intElem hxt hbt hcellt x
            have hok2 := HTK.out k hkt
            rw [trimOk, Bool.and_eq_true, setN_of hx, decide_eq_true_eq, decide_eq_true_eq] at hok2
            have hzs := HZ.out l[k] (List.getElem_mem hlt)
            have d0 := hzs.d0
            have d1 := hzs.d1
            have t0 : 0 ≤ nth tr k := Int.le_trans hzs.low hok2.1
            have t1 : nth tr k ≤ 1048576 := Int.le_trans hok2.2 hzs.high
            obtain ⟨e0, e1⟩ := quo_bound d0 d1 hs1
            obtain ⟨f0, f1⟩ := quo_bound t0 t1 hs1
            have kt0 : (0 : Int) ≤ (k : Int) := by omega
            have kt1 : (k : Int) < (tr.length : Int) := by omega
            have HX := hide hx
            have HIZ := hide hzs.items
            have HIT := hide (HEA.out l[k] (List.getElem_mem hlt)).items
            have HNX := hide (fun v : Int => show itemsStep l tr scale H r c v k = l[k].items.l.foldl (itemStep l[k].depth (nth tr k) scale H r c) v by rw [itemsStep, setN_of hx])
            have HNI := hide (itemsTo_next l tr scale H r c k)
            have hic : l[k].items.l.length ≤ l[k].items.cap := HIT.out.1
            have hicm : l[k].items.cap ≤ 9223372036854775807 := HIT.out.2.1
            have HTS := hide htr
            clear hcell hcellt hx hxt hok2 hzs HX htr
            generalize nth tr k = t at *
            generalize itemsTo l tr scale H r c k = v at *
            generalize l[k] = s at *
            obtain ⟨sname, depth, low, high, length, lines, pipe, arbor, purchase, most, brake, ⟨IA, icap, il⟩, bricks⟩ := s
            simp only at *
            obtain ⟨W', hW', hWs', hWb', hWh'⟩ := boxed x.val (.cells #[.string sname, .int .i64 depth, .int .i64 low, .int .i64 high, .int .i64 length, .slice lines.A lines.l.length lines.cap, .int .i64 pipe, .int .i64 arbor, .int .i64 purchase, .int .i64 most, .int .i64 brake, .slice IA il.length icap, .slice bricks.A bricks.l.length bricks.cap] 51)
            have hxy' : ∀ y : After W'.heap.size W', Below W.heap.size W y.val := fun y => x.below.trans ((hWb'.mono x.size).trans (y.below.mono (by have := x.size; omega)))
            have hcS := fun y : After W'.heap.size W' => SetD.boxed (s := ⟨sname, depth, low, high, length, lines, pipe, arbor, purchase, most, brake, ⟨IA, icap, il⟩, bricks⟩) hWh' (by omega) y
            simp only at hcS
            have HIT' := hide (HIT.out.to (hxy' (After.refl _ W')) (show W.heap.size ≤ W'.heap.size by have := x.size; omega))
            have HXY' := hide hxy'
            have HW' := hide hW'
            clear hW' hWs' hWh' hWb' hxy'
            go_wp2
            rw [← HW'.out]
            clear he
            go_loopw [11, 15] (fun o n wr => ∃ j : Nat, n = .int .i64 j ∧ j ≤ il.length ∧ o = .int .u8 ((il.take j).foldl (itemStep depth t scale H r c) v) ∧ ∃ y : After W'.heap.size W', wr = y.val) (fun _ n _ => il.length - (intOf n).toNat)
            case atStart => exact ⟨0, rfl, Nat.zero_le _, rfl, After.refl _ _, rfl⟩
            case round =>
              obtain ⟨j, rfl, hj, rfl, z, rfl⟩ := hrel
              by_cases hjt : j < il.length
              · obtain ⟨b2, off2, hA2, hb2, hcell2⟩ := HIT'.out.2.2 (show 0 < il.length by omega)
                simp only at hA2
                subst hA2
                have hx2 : il[j]? = some il[j] := List.getElem?_eq_getElem hjt
                have he2 := fun x : After W'.heap.size W' => ItemD.elem hx2 hb2 hcell2 x
                obtain ⟨⟨a0, a1⟩, ⟨b0, b1⟩, c0, c1⟩ := HIZ.out il[j] (List.getElem_mem hjt)
                have HN2 := hide (itemFold_next depth t scale H r c v hx2)
                clear hcell2 hx2
                obtain ⟨W3, hW3, hWs3, hWb3, hWh3⟩ := boxed z.val (.cells #[.string il[j].name, .int .i64 il[j].place, .int .i64 il[j].width, .int .i64 il[j].weight, .int .i64 il[j].hang, .int .i64 il[j].front, .int .i64 il[j].back] 79)
                have hcI := fun y : After W3.heap.size W3 => ItemD.boxed hWh3 (by omega) y
                have hzy : ∀ y : After W3.heap.size W3, Below W'.heap.size W' y.val := fun y => z.below.trans ((hWb3.mono z.size).trans (y.below.mono (by have := z.size; omega)))
                have hcS3 := fun y : After W3.heap.size W3 => hcS ⟨y.val, hzy y⟩
                have hxy : ∀ y : After W3.heap.size W3, Below W.heap.size W y.val := fun y => HXY'.out ⟨y.val, hzy y⟩
                have htS := fun y : After W3.heap.size W3 => HTS.out ⟨y.val, hxy y⟩
                have hc3 := fun y : After W3.heap.size W3 => hc ⟨y.val, hxy y⟩
                simp only at hcS3 htS hc3
                have KD := hide fun (y : After W3.heap.size W3) (n : Int) (h1 : -2097152 ≤ n) (h2 : n ≤ 2097152) => Gives.after (x := y) (Nat.le_refl _) (refDown_any n scale h1 h2 hs1 hs2 y.val)
                have KW := hide fun (y : After W3.heap.size W3) (n : Int) (h1 : -2097152 ≤ n) (h2 : n ≤ 2097152) => Gives.after (x := y) (Nat.le_refl _) (HKR.out y.val n h1 h2)
                obtain ⟨p0, p1⟩ := ediv_bd (z := t - il[j].hang) (by omega) (by omega) hs1
                obtain ⟨p2, p3⟩ := ediv_bd (z := depth - il[j].back) (by omega) (by omega) hs1
                have r0 : 0 ≤ (depth + il[j].front) / scale := Int.ediv_nonneg (by omega) (by omega)
                have r1 : (depth + il[j].front) / scale ≤ depth + il[j].front := Int.ediv_le_self _ (by omega)
                have HW3 := hide hW3
                have HZY := hide hzy
                clear hW3 hWs3 hWb3 hWh3 hzy hxy
                generalize hvj : (il.take j).foldl (itemStep depth t scale H r c) v = vj at *
                clear hvj
                rcases item_ways (r : Int) (c : Int) (H - t / scale) (H - (t - il[j].hang) / scale) ((depth - il[j].back) / scale) ((depth + il[j].front) / scale) with q | ⟨q1, q⟩ | ⟨q1, q2, q⟩ | ⟨q1, q2, q3, q⟩ | ⟨q1, q2, q3, q4⟩
                · have g1 : decide (H - t / scale ≤ (r : Int)) = false := by simp; omega
                  have HST := hide (show (il.take (j + 1)).foldl (itemStep depth t scale H r c) v = vj by rw [HN2.out]; exact itemStep_no (fun hh => q hh.1))
                  go_wp2_with fail
                  rw [← HW3.out]
                  refine wp_region_first W3.heap.size (by kernel_rfl) (by kernel_rfl) ?_
                  repeat (go_big_quiet_step (first | (go_at_call 47; exact KD.out _ _ (by omega) (by omega)) | (go_at_call 26; exact KW.out _ _ (by omega) (by omega))))
                  refine wpQuiet_nil ?_
                  intro y
                  go_wp2
                  exact ⟨⟨j + 1, by go_num, by omega, by rw [HST.out], ⟨_, HZY.out _⟩, rfl⟩, by simp [intOf]; omega⟩
                · have g1 : decide (H - t / scale ≤ (r : Int)) = true := by simp; omega
                  have g2 : decide ((r : Int) ≤ H - (t - il[j].hang) / scale) = false := by simp; omega
                  have HST := hide (show (il.take (j + 1)).foldl (itemStep depth t scale H r c) v = vj by rw [HN2.out]; exact itemStep_no (fun hh => q hh.2.1))
                  go_wp2_with fail
                  rw [← HW3.out]
                  refine wp_region_first W3.heap.size (by kernel_rfl) (by kernel_rfl) ?_
                  repeat (go_big_quiet_step (first | (go_at_call 47; exact KD.out _ _ (by omega) (by omega)) | (go_at_call 26; exact KW.out _ _ (by omega) (by omega))))
                  refine wpQuiet_nil ?_
                  intro y
                  go_wp2
                  exact ⟨⟨j + 1, by go_num, by omega, by rw [HST.out], ⟨_, HZY.out _⟩, rfl⟩, by simp [intOf]; omega⟩
                · have g1 : decide (H - t / scale ≤ (r : Int)) = true := by simp; omega
                  have g2 : decide ((r : Int) ≤ H - (t - il[j].hang) / scale) = true := by simp; omega
                  have g3 : decide ((depth - il[j].back) / scale ≤ (c : Int)) = false := by simp; omega
                  have HST := hide (show (il.take (j + 1)).foldl (itemStep depth t scale H r c) v = vj by rw [HN2.out]; exact itemStep_no (fun hh => q hh.2.2.1))
                  go_wp2_with fail
                  rw [← HW3.out]
                  refine wp_region_first W3.heap.size (by kernel_rfl) (by kernel_rfl) ?_
                  repeat (go_big_quiet_step (first | (go_at_call 47; exact KD.out _ _ (by omega) (by omega)) | (go_at_call 26; exact KW.out _ _ (by omega) (by omega))))
                  refine wpQuiet_nil ?_
                  intro y
                  go_wp2
                  exact ⟨⟨j + 1, by go_num, by omega, by rw [HST.out], ⟨_, HZY.out _⟩, rfl⟩, by simp [intOf]; omega⟩
                · have g1 : decide (H - t / scale ≤ (r : Int)) = true := by simp; omega
                  have g2 : decide ((r : Int) ≤ H - (t - il[j].hang) / scale) = true := by simp; omega
                  have g3 : decide ((depth - il[j].back) / scale ≤ (c : Int)) = true := by simp; omega
                  have g4 : decide ((c : Int) ≤ (depth + il[j].front) / scale) = false := by simp; omega
                  have HST := hide (show (il.take (j + 1)).foldl (itemStep depth t scale H r c) v = vj by rw [HN2.out]; exact itemStep_no (fun hh => q hh.2.2.2))
                  go_wp2_with fail
                  rw [← HW3.out]
                  refine wp_region_first W3.heap.size (by kernel_rfl) (by kernel_rfl) ?_
                  repeat (go_big_quiet_step (first | (go_at_call 47; exact KD.out _ _ (by omega) (by omega)) | (go_at_call 26; exact KW.out _ _ (by omega) (by omega))))
                  refine wpQuiet_nil ?_
                  intro y
                  go_wp2
                  exact ⟨⟨j + 1, by go_num, by omega, by rw [HST.out], ⟨_, HZY.out _⟩, rfl⟩, by simp [intOf]; omega⟩
                · have g1 : decide (H - t / scale ≤ (r : Int)) = true := by simp; omega
                  have g2 : decide ((r : Int) ≤ H - (t - il[j].hang) / scale) = true := by simp; omega
                  have g3 : decide ((depth - il[j].back) / scale ≤ (c : Int)) = true := by simp; omega
                  have g4 : decide ((c : Int) ≤ (depth + il[j].front) / scale) = true := by simp; omega
                  have HST := hide (show (il.take (j + 1)).foldl (itemStep depth t scale H r c) v = 35 by rw [HN2.out]; exact itemStep_yes q1 q2 q3 q4)
                  go_wp2_with fail
                  rw [← HW3.out]
                  refine wp_region_first W3.heap.size (by kernel_rfl) (by kernel_rfl) ?_
                  repeat (go_big_quiet_step (first | (go_at_call 47; exact KD.out _ _ (by omega) (by omega)) | (go_at_call 26; exact KW.out _ _ (by omega) (by omega))))
                  refine wpQuiet_nil ?_
                  intro y
                  go_wp2
                  exact ⟨⟨j + 1, by go_num, by omega, by rw [HST.out], ⟨_, HZY.out _⟩, rfl⟩, by simp [intOf]; omega⟩
              · have ej : j = il.length := by omega
                subst ej
                have HEQ := hide (show (il.take il.length).foldl (itemStep depth t scale H r c) v = itemsTo l tr scale H r c (k + 1) by rw [List.take_length, HNI.out, HNX.out])
                go_wp2
                exact ⟨⟨k + 1, by go_num, by omega, by rw [HEQ.out], ⟨_, HXY'.out _⟩, rfl⟩, by simp [intOf]; omega⟩
          · have ekl : k = l.length := by omega
            subst ekl
            have HP0 := hide (show itemsTo l tr scale H r c l.length = pipesTo l tr scale H r c 0 from rfl)
            go_wp2
            go_loopw [11, 17] (fun o v wr => ∃ k : Nat, v = .int .i64 k ∧ k ≤ l.length ∧ o = .int .u8 (pipesTo l tr scale H r c k) ∧ ∃ x : After W.heap.size W, wr = x.val) (fun _ v _ => l.length - (intOf v).toNat)
            case atStart => exact ⟨0, rfl, Nat.zero_le _, by rw [HP0.out], _, rfl⟩
            case round =>
              clear HP0
              obtain ⟨k, rfl, hk, rfl, x, rfl⟩ := hrel
              by_cases hlt : k < l.length
              · obtain ⟨b, off, hA, hbk, hcell⟩ := HSL.out.2.2 (show 0 < l.length by omega)
                obtain ⟨bt, offt, hTA, hbt, hcellt⟩ := HTR.out.2.2 (show 0 < tr.length by have := HLN.out; omega)
                simp only at hA hTA
                subst hA
                subst hTA
                have hx : l[k]? = some l[k] := List.getElem?_eq_getElem hlt
                have he := fun x : After W.heap.size W => (SetD.elem hx hbk hcell x).2.1
                have hkt : k < tr.length := by have := HLN.out; omega
                have hxt : tr[k]? = some (nth tr k) := nth_get hkt
                have htr := fun x : After W.heap.size W => intElem hxt hbt hcellt x
                have hok2 := HTK.out k hkt
                rw [trimOk, Bool.and_eq_true, setN_of hx, decide_eq_true_eq, decide_eq_true_eq] at hok2
                have hzs := HZ.out l[k] (List.getElem_mem hlt)
                have d0 := hzs.d0
                have d1 := hzs.d1
                have t0 : 0 ≤ nth tr k := Int.le_trans hzs.low hok2.1
                have t1 : nth tr k ≤ 1048576 := Int.le_trans hok2.2 hzs.high
                obtain ⟨e0, e1⟩ := quo_bound d0 d1 hs1
                obtain ⟨f0, f1⟩ := quo_bound t0 t1 hs1
                have kt0 : (0 : Int) ≤ (k : Int) := by omega
                have kt1 : (k : Int) < (tr.length : Int) := by omega
                have HSN := hide (setN_of hx)
                have HNX := hide (pipesTo_next l tr scale H r c k)
                have KD := hide fun y : After W.heap.size W => Gives.after (x := y) (Nat.le_refl _) (refDown_any l[k].depth scale (by omega) (by omega) hs1 hs2 y.val)
                have KW := hide fun y : After W.heap.size W => Gives.after (x := y) (Nat.le_refl _) (HKR.out y.val (nth tr k) (by omega) (by omega))
                clear hcell hcellt hx hxt hok2 hzs
                generalize pipesTo l tr scale H r c k = v at *
                have HLY := hide (fun (h1 : (c : Int) = (setN l k).depth / scale) (h2 : (r : Int) = H - nth tr k / scale) => pipeStep_yes (v := v) h1 h2)
                have HLN2 := hide (fun (h2 : ¬ (r : Int) = H - nth tr k / scale) => pipeStep_no2 (v := v) (c := c) (l := l) h2)
                generalize nth tr k = t at *
                by_cases hcd : (c : Int) = l[k].depth / scale
                · have hceq : ((c : Int) == l[k].depth / scale) = true := by simp; omega
                  have HCD := hide hcd
                  clear hcd
                  by_cases hrt : (r : Int) = H - t / scale
                  · have hrteq : ((r : Int) == H - t / scale) = true := by simp; omega
                    have HST := hide (show pipesTo l tr scale H r c (k + 1) = 43 by rw [HNX.out]; exact HLY.out (by rw [HSN.out]; exact HCD.out) hrt)
                    clear hrt
                    go_wp2_with fail
                    refine wp_region_after x (by kernel_rfl) (by kernel_rfl) ?_
                    repeat (go_big_quiet_step (first | (go_at_call 47; exact KD.out _) | (go_at_call 26; exact KW.out _)))
                    refine wpQuiet_nil ?_
                    intro y
                    go_wp2
                    exact ⟨⟨k + 1, by go_num, by omega, by rw [HST.out], _, rfl⟩, by simp [intOf]; omega⟩
                  · have hrteq : ((r : Int) == H - t / scale) = false := by simp; omega
                    have HST := hide (show pipesTo l tr scale H r c (k + 1) = v by rw [HNX.out]; exact HLN2.out hrt)
                    go_wp2_with fail
                    refine wp_region_after x (by kernel_rfl) (by kernel_rfl) ?_
                    repeat (go_big_quiet_step (first | (go_at_call 47; exact KD.out _) | (go_at_call 26; exact KW.out _)))
                    refine wpQuiet_nil ?_
                    intro y
                    go_wp2
                    exact ⟨⟨k + 1, by go_num, by omega, by rw [HST.out], _, rfl⟩, by simp [intOf]; omega⟩
                · have hceq : ((c : Int) == l[k].depth / scale) = false := by simp; omega
                  have HST := hide (show pipesTo l tr scale H r c (k + 1) = v by rw [HNX.out]; exact pipeStep_no1 (by rw [HSN.out]; exact hcd))
                  go_wp2_with fail
                  refine wp_region_after x (by kernel_rfl) (by kernel_rfl) ?_
                  repeat (go_big_quiet_step (first | (go_at_call 47; exact KD.out _) | (go_at_call 26; exact KW.out _)))
                  refine wpQuiet_nil ?_
                  intro y
                  go_wp2
                  exact ⟨⟨k + 1, by go_num, by omega, by rw [HST.out], _, rfl⟩, by simp [intOf]; omega⟩
              · have ekl : k = l.length := by omega
                subst ekl
                go_wp2
                go_ret
                exact Gives.mk rfl (HBD.out _)
end Go.Proofs.Ytfpankbhfgcgaaa
