/- loftblocklaw33.GridplanScales: the walk of the law. -/
import Derived.Test.YtliehhnnfpkciaaDoorPlanAt
import Derived.Test.YtliehhnnfpkciaaDoorPlanLines
import Derived.Test.YtliehhnnfpkciaaDoorPlanHalf
import Derived.Test.YtliehhnnfpkciaaDoorOwn
namespace Go.Proofs.YtliehhnnfpkciaaDoor
open Go.RowKit

theorem quarter_index (a b : Int) (t : Nat) (ht : t < 4) {p q : Nat} (hp : (p : Int) = if t < 2 then a else a + 1) (hq : (q : Int) = if t % 2 = 0 then b else b + 1) (w : World) :
    (Instr.index 44 (.agg #[.int .i64 a, .int .i64 b, .int .i64 a, .int .i64 (b + 1), .int .i64 (a + 1), .int .i64 b, .int .i64 (a + 1), .int .i64 (b + 1)]) (.int .i64 t)).run Tryd.prog w = .ok (.agg #[.int .i64 p, .int .i64 q]) w := by
  rw [hp, hq]
  obtain rfl | rfl | rfl | rfl : t = 0 ∨ t = 1 ∨ t = 2 ∨ t = 3 := by omega
  all_goals kernel_rfl
/-- the drawing at whatever scale: its text, or nothing and an error -/
theorem draw_either {h : HouseD} {W : World} (hok : h.ok) (hat : ∀ y : After W.heap.size W, HouseD.at_ y.val W.heap.size h) (scale : Int) :
    ∃ (T : ByteArray) (code : Int), (code = 0 ∨ T = ⟨#[]⟩) ∧ ∀ y : After W.heap.size W, Calls Tryd.prog 11 #[.agg #[.string h.name, .int .i64 h.height, .slice h.sets.A h.sets.l.length h.sets.cap, .slice h.roofs.A h.roofs.l.length h.roofs.cap], .int .i64 scale] y.val (Gives y.val (.tuple #[.string T, .int .i64 code])) := by
  by_cases hg : givenE h scale = 0 ∧ rowsTo h.sets.l scale ≤ 400 ∧ colsTo h.sets.l scale ≤ 400
  · obtain ⟨h0, h1, h2⟩ := hg
    have hR0 := rowsTo_nonneg h.sets.l scale
    have hC0 := colsTo_nonneg h.sets.l scale
    exact ⟨_, 0, Or.inl rfl, fun y => draw_good h hok scale h0 (rowsTo h.sets.l scale).toNat (colsTo h.sets.l scale).toNat (by omega) (by omega) (by omega) (by omega) y.val W.heap.size y.size (hat y)⟩
  · obtain ⟨code, _, h1⟩ := draw_not hok hg hat
    exact ⟨_, code, Or.inr rfl, h1⟩
theorem size_some (h : HouseD) (scale : Int) : ∃ a b c : Int, sizeE h scale = .tuple #[.int .i64 a, .int .i64 b, .int .i64 c] := by
  unfold sizeE
  split
  · exact ⟨_, _, _, rfl⟩
  · exact ⟨_, _, _, rfl⟩
set_option maxRecDepth 100000 in
set_option maxHeartbeats 8000000 in
theorem gridplanScales_any (h : HouseD) (hok : h.ok) (scale : Int) (w : World) (ht : Tabs w) (B : Nat) (hB : B ≤ w.heap.size) (hat : HouseD.at_ w B h) :
    Calls Tryd.prog 4 #[.agg #[.string h.name, .int .i64 h.height, .slice h.sets.A h.sets.l.length h.sets.cap, .slice h.roofs.A h.roofs.l.length h.roofs.cap], .int .i64 scale] w (Gives w (.bool true)) := by
  obtain ⟨W, hW, hWs, hWb, hWh⟩ := boxed w (.cells #[.string h.name, .int .i64 h.height, .slice h.sets.A h.sets.l.length h.sets.cap, .slice h.roofs.A h.roofs.l.length h.roofs.cap] 25)
  have hc := fun y : After W.heap.size W => HouseD.boxed hWh (by omega) y
  have hbd : ∀ y : After W.heap.size W, Below w.heap.size w y.val := fun y => hWb.trans (y.below.mono (by omega))
  have hatW : ∀ y : After W.heap.size W, HouseD.at_ y.val W.heap.size h := fun y => (hat.to (hWb.mono hB) (by omega)).to y.below (Nat.le_refl _)
  have HTW := hide (fun y : After W.heap.size W => (ht.below hWb).below y.below)
  have KA := hide fun y : After W.heap.size W => Gives.after (x := y) (Nat.le_refl _) (awake33 y.val)
  have KL := hide fun y : After W.heap.size W => Gives.after (x := y) (Nat.le_refl _) (large_any h y.val W.heap.size y.size (hatW y))
  have KC := hide fun y : After W.heap.size W => Gives.after (x := y) (Nat.le_refl _) (coarse_any h hok scale y.val W.heap.size y.size (hatW y))
  have KS := hide fun (y : After W.heap.size W) (s2 : Int) => Gives.after (x := y) (Nat.le_refl _) (planSize_any h hok s2 y.val W.heap.size y.size (hatW y))
  have HW := hide hW
  have HBD := hide hbd
  have HAT := hide hatW
  clear hW hWs hWh hWb hbd hat hatW ht
  cases hsm : houseSmall h 5
  · go_enter Tryd.func4, Tryd.ntmps4
    go_wp2_with fail
    rw [← HW.out]
    refine (KA.out (After.refl _ W)).mono ?_
    rintro e w1 ⟨rfl, y1, rfl⟩
    go_wp2_with fail
    refine (KL.out y1).mono ?_
    rintro e w1 ⟨rfl, y2, rfl⟩
    go_wp2
    go_ret
    exact Gives.mk rfl (HBD.out _)
  · cases hco : coarseB h scale
    · go_enter Tryd.func4, Tryd.ntmps4
      go_wp2_with fail
      rw [← HW.out]
      refine (KA.out (After.refl _ W)).mono ?_
      rintro e w1 ⟨rfl, y1, rfl⟩
      go_wp2_with fail
      refine (KL.out y1).mono ?_
      rintro e w1 ⟨rfl, y2, rfl⟩
      go_wp2_with fail
      refine (KC.out y2).mono ?_
      rintro e w1 ⟨rfl, y3, rfl⟩
      go_wp2
      go_ret
      exact Gives.mk rfl (HBD.out _)
    · by_cases hbig : scale ≤ 524288
      · by_cases hgood : givenE h scale = 0 ∧ rowsTo h.sets.l scale ≤ 400 ∧ colsTo h.sets.l scale ≤ 400
        · obtain ⟨h0, hR4, hC4⟩ := hgood
          obtain ⟨hh, hs1, hs2⟩ := givenE_zero h0
          have h02 : givenE h (2 * scale) = 0 := givenE_ok hh (by omega) (by omega)
          have hR0 := rowsTo_nonneg h.sets.l scale
          have hC0 := colsTo_nonneg h.sets.l scale
          have hR2 := rowsTo_two hs1 h.sets.l
          have hC2 := colsTo_two hs1 h.sets.l
          obtain ⟨r, hr⟩ : ∃ r : Nat, rowsTo h.sets.l scale = (r : Int) := ⟨(rowsTo h.sets.l scale).toNat, by omega⟩
          obtain ⟨c, hc⟩ : ∃ c : Nat, colsTo h.sets.l scale = (c : Int) := ⟨(colsTo h.sets.l scale).toNat, by omega⟩
          obtain ⟨u, hu⟩ : ∃ u : Nat, rowsTo h.sets.l (2 * scale) = (u : Int) := ⟨(rowsTo h.sets.l (2 * scale)).toNat, by omega⟩
          obtain ⟨v, hv⟩ : ∃ v : Nat, colsTo h.sets.l (2 * scale) = (v : Int) := ⟨(colsTo h.sets.l (2 * scale)).toNat, by omega⟩
          have hdb : decide (524288 < scale) = false := by simp; omega
          have hr4 : r ≤ 400 := by omega
          have hc4 : c ≤ 400 := by omega
          have hur1 : (r : Int) ≤ 2 * (u : Int) := by omega
          have hur2 : 2 * (u : Int) ≤ (r : Int) + 1 := by omega
          have hvc1 : (c : Int) ≤ 2 * (v : Int) := by omega
          have hvc2 : 2 * (v : Int) ≤ (c : Int) + 1 := by omega
          have hu4 : u ≤ 400 := by omega
          have hv4 : v ≤ 400 := by omega
          have KD := hide fun y : After W.heap.size W => Gives.after (x := y) (Nat.le_refl _) (draw_good h hok scale h0 r c hr hc hr4 hc4 y.val W.heap.size y.size (HAT.out y))
          have KD2 := hide fun y : After W.heap.size W => Gives.after (x := y) (Nat.le_refl _) (draw_good h hok (2 * scale) h02 u v hu hv hu4 hv4 y.val W.heap.size y.size (HAT.out y))
          have hsz := sized_of_ok hh
          have HDA := hide (dots_all hs1 (fun s hs => onPipe_of_ok (set_of_ok hh hs)) (fun s hs => by have := hsz s hs; omega) hr hc)
          have hse : sizeE h scale = .tuple #[.int .i64 (r : Int), .int .i64 (c : Int), .int .i64 0] := by rw [sizeE, if_pos h0, hr, hc]
          have hse2 : sizeE h (2 * scale) = .tuple #[.int .i64 (u : Int), .int .i64 (v : Int), .int .i64 0] := by rw [sizeE, if_pos h02, hu, hv]
          have KS1 := fun y : After W.heap.size W => KS.out y scale
          have KS2 := fun y : After W.heap.size W => KS.out y (2 * scale)
          rw [hse] at KS1
          rw [hse2] at KS2
          have KS1H := hide KS1
          have KS2H := hide KS2
          clear KS1 KS2
          have KLN := hide (lines_plan h.sets.l scale (C := c) (R := r) hc4 hr4)
          have KLN2 := hide (lines_plan h.sets.l (2 * scale) (C := v) (R := u) hv4 hu4)
          have HAR := hide (And.intro hur1 (And.intro hur2 (And.intro hvc1 hvc2)))
          have H400 := hide (And.intro hr4 (And.intro hc4 (And.intro hu4 hv4)))
          clear h0 h02 hr hc hu hv hR0 hC0 hR2 hC2 hR4 hC4 hh HAT hok KS hse hse2 hsz hur1 hur2 hvc1 hvc2 hr4 hc4 hu4 hv4
          generalize (⟨(planText h.sets.l scale c r).toArray⟩ : ByteArray) = T at *
          generalize (⟨(planText h.sets.l (2 * scale) v u).toArray⟩ : ByteArray) = T2 at *
          go_enter Tryd.func4, Tryd.ntmps4
          go_wp2_with fail
          rw [← HW.out]
          refine (KA.out (After.refl _ W)).mono ?_
          rintro e w1 ⟨rfl, y1, rfl⟩
          go_wp2_with fail
          refine (KL.out y1).mono ?_
          rintro e w1 ⟨rfl, y2, rfl⟩
          go_wp2_with fail
          refine (KC.out y2).mono ?_
          rintro e w1 ⟨rfl, y3, rfl⟩
          go_wp2_with fail
          refine (KD.out y3).mono ?_
          rintro e w1 ⟨rfl, y4, rfl⟩
          go_wp2_with fail
          refine (KD2.out y4).mono ?_
          rintro e w1 ⟨rfl, y5, rfl⟩
          go_wp2_with fail
          refine (KS1H.out y5).mono ?_
          rintro e w1 ⟨rfl, y6, rfl⟩
          go_wp2_with fail
          refine (KS2H.out y6).mono ?_
          rintro e w1 ⟨rfl, y7, rfl⟩
          obtain ⟨hur1, hur2, hvc1, hvc2⟩ := HAR.out
          obtain ⟨hr4, hc4, hu4, hv4⟩ := H400.out
          have g1 : decide (0 < (r : Int) - 2 * (u : Int)) = false := by simp; omega
          have g2 : decide (1 < 2 * (u : Int) - (r : Int)) = false := by simp; omega
          have g3 : decide (0 < (c : Int) - 2 * (v : Int)) = false := by simp; omega
          have g4 : decide (1 < 2 * (v : Int) - (c : Int)) = false := by simp; omega
          go_wp2_with fail
          refine (KLN.out y7.val (HTW.out y7)).mono ?_
          rintro e Y ⟨LA, n, rfl, hlr, hbY⟩
          have hTY := (HTW.out y7).below hbY
          go_wp2_with fail
          refine (KLN2.out Y hTY).mono ?_
          rintro e Z ⟨LB, m, rfl, hlr2, hbZ⟩
          have hlr := hlr.below hbZ
          have hYZ : Below y7.val.heap.size y7.val Z := hbY.trans (hbZ.mono hbY.size)
          have hWZ : Below W.heap.size W Z := y7.below.trans (hYZ.mono y7.size)
          have HBZ := hide (fun z : After Z.heap.size Z => HBD.out ⟨z.val, hWZ.trans (z.below.mono hWZ.size)⟩)
          have hnr : n = r := hlr.1
          have hmu : m = u := hlr2.1
          subst hnr hmu
          have HLR := hide hlr
          have HLR2 := hide hlr2
          clear hlr hlr2 hbY hbZ hYZ hTY
          go_wp2
          go_loopw [17, 133] (fun _ v' wr => ∃ j : Nat, v' = .int .i64 j ∧ j ≤ m ∧ ∃ x : After Z.heap.size Z, wr = x.val) (fun _ v' _ => m - (intOf v').toNat)
          case atStart => exact ⟨0, rfl, Nat.zero_le _, After.refl _ _, rfl⟩
          case round =>
            obtain ⟨j, rfl, hj, x, rfl⟩ := hrel
            by_cases hjt : j < m
            · obtain ⟨g2, hgB, row2, hrow2, hrsz2, hrb2⟩ := HLR2.out.row hjt
              subst hgB
              have hjm : (j : Int) < (m : Int) := by omega
              have hj0 : (0 : Int) ≤ (j : Int) := by omega
              have hrx := hrow2 x
              have hs2 : (((row2.size : Nat) : Int) != (v : Int)) = false := by rw [hrsz2]; simp
              have HRB2 := hide (show ∀ k, k < v → ∃ hlt : k < row2.size, row2[k] = markByte (marks h.sets.l (2 * scale) j k) from fun k hk => ⟨by omega, hrb2 k (by omega)⟩)
              have HROW2 := hide hrow2
              clear hrb2 hrsz2 hrow2
              go_wp2
              go_loopw [18, 19, 144] (fun _ _ v' wr => ∃ k : Nat, v' = .int .i64 k ∧ k ≤ v ∧ ∃ x : After Z.heap.size Z, wr = x.val) (fun _ _ v' _ => v - (intOf v').toNat)
              case atStart => exact ⟨0, rfl, Nat.zero_le _, x, rfl⟩
              case round =>
                obtain ⟨k, rfl, hk, x, rfl⟩ := hrel
                by_cases hkt : k < v
                · obtain ⟨hks, hkb⟩ := HRB2.out k hkt
                  have hk0 : (0 : Int) ≤ (k : Int) := by omega
                  have hkv : (k : Int) < (v : Int) := by omega
                  obtain ⟨j2, hj2⟩ : ∃ j2 : Nat, 2 * (j : Int) = (j2 : Int) := ⟨2 * j, by omega⟩
                  obtain ⟨k2, hk2⟩ : ∃ k2 : Nat, 2 * (k : Int) = (k2 : Int) := ⟨2 * k, by omega⟩
                  have hj24 : (j2 : Int) ≤ 1000 := by omega
                  have hk24 : (k2 : Int) ≤ 1000 := by omega
                  have HJ2 := hide (show j2 = 2 * j by omega)
                  have HK2 := hide (show k2 = 2 * k by omega)
                  have HKB := hide hkb
                  clear hkb hrx
                  go_wp2
                  go_loopw [19, 21, 172] (fun d _ v' wr => ∃ t : Nat, v' = .int .i64 t ∧ t ≤ 4 ∧ d = .bool (dotsTo h.sets.l scale n c j k t) ∧ ∃ x : After Z.heap.size Z, wr = x.val) (fun _ _ v' _ => 4 - (intOf v').toNat)
                  case atStart => exact ⟨0, rfl, Nat.zero_le _, rfl, x, rfl⟩
                  case round =>
                    obtain ⟨t, rfl, ht, rfl, x, rfl⟩ := hrel
                    by_cases htt : t < 4
                    · have e1 := HJ2.out
                      have e2 := HK2.out
                      obtain ⟨p, hpN⟩ : ∃ p : Nat, p = 2 * j + t / 2 := ⟨_, rfl⟩
                      obtain ⟨q, hqN⟩ : ∃ q : Nat, q = 2 * k + t % 2 := ⟨_, rfl⟩
                      have hqi := quarter_index (j2 : Int) (k2 : Int) t htt (p := p) (q := q) (by split <;> omega) (by split <;> omega)
                      have hp4 : p ≤ 1000 := by omega
                      have hq4 : q ≤ 1000 := by omega
                      have hp0 : (0 : Int) ≤ (p : Int) := by omega
                      have hq0 : (0 : Int) ≤ (q : Int) := by omega
                      have ht4 : (t : Int) < 4 := by omega
                      have HNX := hide (dotsTo_next h.sets.l scale n c j k t)
                      have HQI := hide (fun h1 h2 => quarter_in (l := h.sets.l) (n := scale) (r := n) (c := c) hpN hqN h1 h2)
                      have HQO := hide (fun h1 => quarter_out (l := h.sets.l) (n := scale) (r := n) (c := c) hpN hqN h1)
                      generalize dotsTo h.sets.l scale n c j k t = D at *
                      obtain ⟨U, hU, hUs, hUb, hUh⟩ := boxed x.val (.cells #[.int .i64 p, .int .i64 q] 43)
                      have hub := fun y : After U.heap.size U => two_cells ((y.below.block x.val.heap.size (by omega)).trans hUh)
                      have hZU : Below Z.heap.size Z U := x.below.trans (hUb.mono x.size)
                      have HUZ := hide (show ∀ y : After U.heap.size U, ∃ z : After Z.heap.size Z, y.val = z.val from fun y => ⟨⟨y.val, hZU.trans (y.below.mono hZU.size)⟩, rfl⟩)
                      have hu0 := hub (After.refl _ _)
                      simp only [After.refl] at hu0
                      have HU := hide hU
                      clear hpN hqN hUb hUh e1 e2
                      by_cases hpn : p < n
                      · have hpn' : (p : Int) < (n : Int) := by omega
                        by_cases hqc : q < c
                        · have hqc' : (q : Int) < (c : Int) := by omega
                          obtain ⟨g, hgA, row, hrow, hrsz, hrb⟩ := HLR.out.row hpn
                          subst hgA
                          have hru := fun y : After U.heap.size U => hrow ⟨y.val, hZU.trans (y.below.mono hZU.size)⟩
                          simp only at hru
                          have hqs : q < row.size := by omega
                          have hqs' : (q : Int) < (row.size : Int) := by omega
                          have hdq : decide (row.size ≤ q) = false := by simp; omega
                          have hbq := hrb q hqs
                          have HB := hide (markByte_dot (marks_bound h.sets.l scale p q).1 (marks_bound h.sets.l scale p q).2)
                          have HQ := hide (HQI.out hpn hqc)
                          clear hrow hrsz hrb
                          go_wp2
                          rw [← HU.out]
                          refine wp_region_first U.heap.size (by kernel_rfl) (by kernel_rfl) ?_
                          repeat (go_big_quiet_step (fail))
                          refine wpQuiet_nil ?_
                          intro y3
                          by_cases hm0 : marks h.sets.l scale p q = 0
                          · have hb : ((row[q].toNat : Int) == 46) = true := by rw [hbq, HB.out.2 hm0]; rfl
                            have HM0 := hide hm0
                            clear hbq hm0
                            cases D
                            all_goals
                              go_wp2
                              refine wp_region_after y3 (by kernel_rfl) (by kernel_rfl) ?_
                              repeat (go_big_quiet_step (fail))
                              refine wpQuiet_nil ?_
                              intro y4
                              go_wp2
                              exact ⟨⟨t + 1, by go_num, by omega, by rw [HNX.out, HQ.out, decide_eq_true HM0.out]; rfl, HUZ.out y4⟩, by simp [intOf]; omega⟩
                          · have hb : ((row[q].toNat : Int) == 46) = false := by
                              rw [hbq, beq_eq_false_iff_ne]
                              intro e
                              exact hm0 (HB.out.1 (UInt8.toNat_inj.1 (by simpa using Int.ofNat_inj.1 e)))
                            have HM0 := hide hm0
                            clear hbq hm0
                            cases D
                            all_goals
                              go_wp2
                              refine wp_region_after y3 (by kernel_rfl) (by kernel_rfl) ?_
                              repeat (go_big_quiet_step (fail))
                              refine wpQuiet_nil ?_
                              intro y4
                              go_wp2
                              exact ⟨⟨t + 1, by go_num, by omega, by rw [HNX.out, HQ.out, decide_eq_false HM0.out]; rfl, HUZ.out y4⟩, by simp [intOf]; omega⟩
                        · have hqc' : ¬ (q : Int) < (c : Int) := by omega
                          have HQ := hide (HQO.out (fun h => hqc h.2))
                          go_wp2
                          rw [← HU.out]
                          exact ⟨⟨t + 1, by go_num, by omega, by rw [HNX.out, HQ.out, Bool.and_true], HUZ.out (After.refl _ _)⟩, by simp [intOf]; omega⟩
                      · have hpn' : ¬ (p : Int) < (n : Int) := by omega
                        have HQ := hide (HQO.out (fun h => hpn h.1))
                        go_wp2
                        rw [← HU.out]
                        exact ⟨⟨t + 1, by go_num, by omega, by rw [HNX.out, HQ.out, Bool.and_true], HUZ.out (After.refl _ _)⟩, by simp [intOf]; omega⟩
                    · have ht4 : t = 4 := by omega
                      subst ht4
                      have h4 := HDA.out j k
                      have hrx := HROW2.out x
                      have hkb := HKB.out
                      have hmb := markByte_dot (marks_bound h.sets.l (2 * scale) j k).1 (marks_bound h.sets.l (2 * scale) j k).2
                      by_cases hm0 : marks h.sets.l (2 * scale) j k = 0
                      · rw [decide_eq_true hm0] at h4
                        have hb : ((row2[k].toNat : Int) == 46) = true := by rw [hkb, hmb.2 hm0]; rfl
                        rw [h4]
                        clear h4 hkb hmb hm0
                        go_wp2
                        exact ⟨⟨k + 1, by go_num, by omega, x, rfl⟩, by simp [intOf]; omega⟩
                      · rw [decide_eq_false hm0] at h4
                        have hb : ((row2[k].toNat : Int) == 46) = false := by
                          rw [hkb, beq_eq_false_iff_ne]
                          intro e
                          exact hm0 (hmb.1 (UInt8.toNat_inj.1 (by simpa using Int.ofNat_inj.1 e)))
                        rw [h4]
                        clear h4 hkb hmb hm0
                        go_wp2
                        exact ⟨⟨k + 1, by go_num, by omega, x, rfl⟩, by simp [intOf]; omega⟩
                · go_wp2
                  exact ⟨⟨j + 1, by go_num, by omega, x, rfl⟩, by simp [intOf]; omega⟩
            · go_wp2
              go_ret
              exact Gives.mk rfl (HBZ.out _)
        · obtain ⟨code, hcode, hKD⟩ : ∃ code : Int, (code != 0) = true ∧ ∀ y : After W.heap.size W, Calls Tryd.prog 11 #[.agg #[.string h.name, .int .i64 h.height, .slice h.sets.A h.sets.l.length h.sets.cap, .slice h.roofs.A h.roofs.l.length h.roofs.cap], .int .i64 scale] y.val (Gives y.val (.tuple #[.string ⟨#[]⟩, .int .i64 code])) := draw_not hok hgood HAT.out
          have KD := hide fun y : After W.heap.size W => Gives.after (x := y) (Nat.le_refl _) (hKD y)
          have KD2 := hide (fun s2 : Int => draw_either hok HAT.out s2)
          have HSS := hide (size_some h)
          have hcode2 : (code == 0) = false := by simpa using hcode
          clear hgood HAT hKD
          go_enter Tryd.func4, Tryd.ntmps4
          go_wp2_with fail
          rw [← HW.out]
          refine (KA.out (After.refl _ W)).mono ?_
          rintro e w1 ⟨rfl, y1, rfl⟩
          go_wp2_with fail
          refine (KL.out y1).mono ?_
          rintro e w1 ⟨rfl, y2, rfl⟩
          go_wp2_with fail
          refine (KC.out y2).mono ?_
          rintro e w1 ⟨rfl, y3, rfl⟩
          go_wp2_with fail
          refine (KD.out y3).mono ?_
          rintro e w1 ⟨rfl, y4, rfl⟩
          go_wp2_with fail
          obtain ⟨T2, code2, hor, hD2⟩ := KD2.out (wrap64 (2 * scale))
          refine (Gives.after (Nat.le_refl _) (hD2 y4)).mono ?_
          rintro e w1 ⟨rfl, y5, rfl⟩
          obtain ⟨a1, a2, a3, hse⟩ := HSS.out scale
          have ks := KS.out y5 scale
          rw [hse] at ks
          clear hse hD2
          go_wp2_with fail
          refine ks.mono ?_
          rintro e w1 ⟨rfl, y6, rfl⟩
          obtain ⟨b1, b2, b3, hse⟩ := HSS.out (wrap64 (2 * scale))
          have ks2 := KS.out y6 (wrap64 (2 * scale))
          rw [hse] at ks2
          clear hse ks
          go_wp2_with fail
          refine ks2.mono ?_
          rintro e w1 ⟨rfl, y7, rfl⟩
          clear ks2
          rcases hor with hor | hor
          all_goals
            subst hor
            go_wp2
            all_goals
              go_ret
              exact Gives.mk (by simp) (HBD.out _)
      · have hbig' : 524288 < scale := by omega
        go_enter Tryd.func4, Tryd.ntmps4
        go_wp2_with fail
        rw [← HW.out]
        refine (KA.out (After.refl _ W)).mono ?_
        rintro e w1 ⟨rfl, y1, rfl⟩
        go_wp2_with fail
        refine (KL.out y1).mono ?_
        rintro e w1 ⟨rfl, y2, rfl⟩
        go_wp2_with fail
        refine (KC.out y2).mono ?_
        rintro e w1 ⟨rfl, y3, rfl⟩
        go_wp2
        go_ret
        exact Gives.mk rfl (HBD.out _)
end Go.Proofs.YtliehhnnfpkciaaDoor
