/- loftblocklaw33.GridplanSeen: the walk of the law. -/
import Derived.Test.YtliehhnnfpkciaaDoorPlanAt
import Derived.Test.YtliehhnnfpkciaaDoorPlanLines
namespace Go.Proofs.YtliehhnnfpkciaaDoor
open Go.RowKit

set_option maxRecDepth 100000 in
set_option maxHeartbeats 8000000 in
theorem gridplanSeen_any (h : HouseD) (hok : h.ok) (scale : Int) (w : World) (ht : Tabs w) (B : Nat) (hB : B ≤ w.heap.size) (hat : HouseD.at_ w B h) :
    Calls Tryd.prog 3 #[.agg #[.string h.name, .int .i64 h.height, .slice h.sets.A h.sets.l.length h.sets.cap, .slice h.roofs.A h.roofs.l.length h.roofs.cap], .int .i64 scale] w (Gives w (.bool true)) := by
  obtain ⟨W, hW, hWs, hWb, hWh⟩ := boxed w (.cells #[.string h.name, .int .i64 h.height, .slice h.sets.A h.sets.l.length h.sets.cap, .slice h.roofs.A h.roofs.l.length h.roofs.cap] 25)
  have hc := fun y : After W.heap.size W => HouseD.boxed hWh (by omega) y
  have hbd : ∀ y : After W.heap.size W, Below w.heap.size w y.val := fun y => hWb.trans (y.below.mono (by omega))
  have hatW : ∀ y : After W.heap.size W, HouseD.at_ y.val W.heap.size h := fun y => (hat.to (hWb.mono hB) (by omega)).to y.below (Nat.le_refl _)
  have HTW := hide (fun y : After W.heap.size W => (ht.below hWb).below y.below)
  have KA := hide fun y : After W.heap.size W => Gives.after (x := y) (Nat.le_refl _) (awake33 y.val)
  have KL := hide fun y : After W.heap.size W => Gives.after (x := y) (Nat.le_refl _) (large_any h y.val W.heap.size y.size (hatW y))
  have KC := hide fun y : After W.heap.size W => Gives.after (x := y) (Nat.le_refl _) (coarse_any h hok scale y.val W.heap.size y.size (hatW y))
  have HW := hide hW
  have HBD := hide hbd
  have HAT := hide hatW
  clear hW hWs hWh hWb hbd hat hatW ht
  cases hsm : houseSmall h 5
  · go_enter Tryd.func3, Tryd.ntmps3
    go_wp2_with fail
    rw [← HW.out]
    refine (KA.out (After.refl _ W)).mono ?_
    rintro e w1 ⟨rfl, y1, rfl⟩
    go_wp2_with fail
    refine (KL.out y1).mono ?_
    rintro e w1 ⟨rfl, y2, rfl⟩
    go_wp2
    go_ret
    exact Gives.mk rfl (HBD.out _)
  · cases hco : coarseB h scale
    · go_enter Tryd.func3, Tryd.ntmps3
      go_wp2_with fail
      rw [← HW.out]
      refine (KA.out (After.refl _ W)).mono ?_
      rintro e w1 ⟨rfl, y1, rfl⟩
      go_wp2_with fail
      refine (KL.out y1).mono ?_
      rintro e w1 ⟨rfl, y2, rfl⟩
      go_wp2_with fail
      refine (KC.out y2).mono ?_
      rintro e w1 ⟨rfl, y3, rfl⟩
      go_wp2
      go_ret
      exact Gives.mk rfl (HBD.out _)
    · by_cases hgood : givenE h scale = 0 ∧ rowsTo h.sets.l scale ≤ 400 ∧ colsTo h.sets.l scale ≤ 400
      · obtain ⟨h0, hR4, hC4⟩ := hgood
        obtain ⟨hh, hs1, hs2⟩ := givenE_zero h0
        have hR0 := rowsTo_nonneg h.sets.l scale
        have hC0 := colsTo_nonneg h.sets.l scale
        obtain ⟨R, hR⟩ : ∃ R : Nat, rowsTo h.sets.l scale = (R : Int) := ⟨(rowsTo h.sets.l scale).toNat, by omega⟩
        obtain ⟨C, hC⟩ : ∃ C : Nat, colsTo h.sets.l scale = (C : Int) := ⟨(colsTo h.sets.l scale).toNat, by omega⟩
        have hR4 : R ≤ 400 := by omega
        have hC4 : C ≤ 400 := by omega
        have KD := hide fun y : After W.heap.size W => Gives.after (x := y) (Nat.le_refl _) (draw_good h hok scale h0 R C hR hC hR4 hC4 y.val W.heap.size y.size (HAT.out y))
        have HSZ := hide (sized_of_ok hh)
        have HPI := hide (fun s (hs : s ∈ h.sets.l) => onPipe_of_ok (set_of_ok hh hs))
        have HRW := hide (fun s (hs : s ∈ h.sets.l) => rowsTo_mem scale hs)
        have HCL := hide (fun s (hs : s ∈ h.sets.l) => colsTo_mem scale hs)
        rw [hR] at HRW
        rw [hC] at HCL
        have HSL := hide (HAT.out (After.refl _ W)).sets
        have HEA := hide (HAT.out (After.refl _ W)).each
        have hlc : h.sets.l.length ≤ h.sets.cap := (HAT.out (After.refl _ W)).sets.1
        have hm : h.sets.cap ≤ 9223372036854775807 := (HAT.out (After.refl _ W)).sets.2.1
        have KLN := hide (lines_plan h.sets.l scale (C := C) (R := R) hC4 hR4)
        simp only [After.refl] at HSL HEA
        clear h0 hR hC hR0 hC0 hh HAT hok
        obtain ⟨name, height, ⟨A, cap, l⟩, roofs⟩ := h
        simp only at *
        generalize (⟨(planText l scale C R).toArray⟩ : ByteArray) = T at *
        go_enter Tryd.func3, Tryd.ntmps3
        go_wp2_with fail
        rw [← HW.out]
        refine (KA.out (After.refl _ W)).mono ?_
        rintro e w1 ⟨rfl, y1, rfl⟩
        go_wp2_with fail
        refine (KL.out y1).mono ?_
        rintro e w1 ⟨rfl, y2, rfl⟩
        go_wp2_with fail
        refine (KC.out y2).mono ?_
        rintro e w1 ⟨rfl, y3, rfl⟩
        go_wp2_with fail
        refine (KD.out y3).mono ?_
        rintro e w1 ⟨rfl, y4, rfl⟩
        go_wp2_with fail
        refine (KLN.out y4.val (HTW.out y4)).mono ?_
        rintro e Z ⟨LA, n, rfl, hlr, hbZ⟩
        have hWZ : Below W.heap.size W Z := y4.below.trans (hbZ.mono y4.size)
        have hcZ := fun z : After Z.heap.size Z => hc ⟨z.val, hWZ.trans (z.below.mono hWZ.size)⟩
        simp only at hcZ
        have HBZ := hide (fun z : After Z.heap.size Z => HBD.out ⟨z.val, hWZ.trans (z.below.mono hWZ.size)⟩)
        have HWZ := hide hWZ
        have HLR := hide hlr
        have hnR : n = R := hlr.1
        subst hnR
        have hc0 := hcZ (After.refl _ _)
        simp only [After.refl] at hc0
        clear hlr hbZ
        go_wp2
        go_loopw [9, 10, 12, 13, 15, 16, 42, 57, 84] (fun _ _ _ _ _ _ v _ _ wr => ∃ k : Nat, v = .int .i64 k ∧ k ≤ l.length ∧ ∃ x : After Z.heap.size Z, wr = x.val) (fun _ _ _ _ _ _ v _ _ _ => l.length - (intOf v).toNat)
        case atStart => exact ⟨0, rfl, Nat.zero_le _, After.refl _ _, rfl⟩
        case round =>
          obtain ⟨k, rfl, hk, x, rfl⟩ := hrel
          by_cases hlt : k < l.length
          · have hx : l[k]? = some l[k] := List.getElem?_eq_getElem hlt
            obtain ⟨b, off, hA, hb, hcell⟩ := HSL.out.2.2 (show 0 < l.length by omega)
            simp only at hA
            subst hA
            have hmem := List.getElem_mem hlt
            have hWx : Below W.heap.size W x.val := HWZ.out.trans (x.below.mono HWZ.out.size)
            have he := SetD.elem hx hb hcell ⟨x.val, hWx⟩
            simp only at he
            have hea := HEA.out _ hmem
            obtain ⟨d0, d1, l0, l1⟩ := HSZ.out _ hmem
            obtain ⟨hpl, hpi⟩ := HPI.out _ hmem
            have hrw := HRW.out _ hmem
            have hcl := HCL.out _ hmem
            have hmm : ∃ t, t = l[k] ∧ t ∈ l := ⟨_, rfl, hmem⟩
            obtain ⟨t, ht, htm⟩ := hmm
            have hml := fun (r c : Nat) (p : Int) hr hp hc => mark_line (scale := scale) (r := r) (c := c) (p := p) hs1 htm hr hp hc
            have hmi := fun (r c : Nat) (i : ItemD) hr hi h1 h2 => mark_item (r := r) (c := c) (i := i) hs1 htm hr hi h1 h2
            rw [ht] at hml hmi
            clear htm ht t
            clear hx hcell hb hmem
            generalize l[k] = s at *
            obtain ⟨V, hV, hVs, hVb, hVh⟩ := boxed x.val (.cells #[.string s.name, .int .i64 s.depth, .int .i64 s.low, .int .i64 s.high, .int .i64 s.length, .slice s.lines.A s.lines.l.length s.lines.cap, .int .i64 s.pipe, .int .i64 s.arbor, .int .i64 s.purchase, .int .i64 s.most, .int .i64 s.brake, .slice s.items.A s.items.l.length s.items.cap, .slice s.bricks.A s.bricks.l.length s.bricks.cap] 38)
            have hbx := fun y : After V.heap.size V => SetD.boxed (s := s) hVh (by omega) y
            have hWV : Below W.heap.size W V := hWx.trans (hVb.mono hWx.size)
            have hZV : Below Z.heap.size Z V := x.below.trans (hVb.mono x.size)
            obtain ⟨q0, q1⟩ := quo_bound d0 d1 hs1
            obtain ⟨r, hr⟩ : ∃ r : Nat, s.depth / scale = (r : Int) := ⟨(s.depth / scale).toNat, by omega⟩
            have hrn : r < n := by omega
            obtain ⟨g, hgA, row, hrow, hrsz, hrb⟩ := HLR.out.row hrn
            subst hgA
            have hrowV := fun y : After V.heap.size V => hrow ⟨y.val, hZV.trans (y.below.mono hZV.size)⟩
            simp only at hrowV
            -- the bytes at lines and items
            have HLB := hide (show ∀ p ∈ s.lines.l, ∃ c : Nat, p / scale = (c : Int) ∧ ∃ hc : c < row.size, row[c] = 111 from fun p hp => by
              obtain ⟨p0, p1⟩ := hpl p hp
              obtain ⟨c0, _⟩ := quo_bound p0 (by omega) hs1
              have hle : p / scale ≤ s.length / scale := Int.ediv_le_ediv (by omega) p1
              obtain ⟨c, hce⟩ : ∃ c : Nat, p / scale = (c : Int) := ⟨(p / scale).toNat, by omega⟩
              have hcs : c < row.size := by omega
              exact ⟨c, hce, hcs, by rw [hrb c hcs]; exact hml r c p hr hp hce⟩)
            have HIB := hide (show ∀ i ∈ s.items.l, ∀ c : Nat, i.place / scale ≤ (c : Int) → (c : Int) ≤ (i.place + i.width - 1) / scale → ∃ hc : c < row.size, row[c] = 35 ∨ row[c] = 111 from fun i hi c h1 h2 => by
              obtain ⟨p0, p1, p2⟩ := hpi i hi
              have hle : (i.place + i.width - 1) / scale ≤ s.length / scale := Int.ediv_le_ediv (by omega) (by omega)
              have hcs : c < row.size := by omega
              exact ⟨hcs, by rw [hrb c hcs]; exact hmi r c i hr hi h1 h2⟩)
            have HPB := hide (show ∀ p ∈ s.lines.l, 0 ≤ p ∧ p ≤ 1048576 from fun p hp => by have := hpl p hp; omega)
            have HQB := hide (show ∀ i ∈ s.items.l, 0 ≤ i.place ∧ 1 ≤ i.width ∧ i.place + i.width ≤ 1048576 from fun i hi => by have := hpi i hi; omega)
            have hrn' : (r : Int) < (n : Int) := by omega
            have hr0 : (0 : Int) ≤ (r : Int) := by omega
            have hdn : decide (n ≤ r) = false := by simp; omega
            have hV0 := hbx (After.refl _ _)
            simp only [After.refl] at hV0
            have HV := hide hV
            have HHX := hide (show ∀ y : After V.heap.size V, ∃ z : After Z.heap.size Z, y.val = z.val from fun y => ⟨⟨y.val, hZV.trans (y.below.mono hZV.size)⟩, rfl⟩)
            have hlW : SlAt W W.heap.size 1 intCells s.lines := hea.lines
            have hiW : SlAt W W.heap.size 7 ItemD.cells s.items := hea.items
            have hcap1 : s.lines.l.length ≤ s.lines.cap := hlW.1
            have hcap2 : s.lines.cap ≤ 9223372036854775807 := hlW.2.1
            have hcap3 : s.items.l.length ≤ s.items.cap := hiW.1
            have hcap4 : s.items.cap ≤ 9223372036854775807 := hiW.2.1
            have HLW := hide hlW
            have HIW := hide hiW
            have HWV := hide hWV
            clear hea hpl hpi hrw hcl hml hmi hrow hrsz hrb hVb hZV hWx hlW hiW hWV hVh
            obtain ⟨nm, depth, low, high, len, ⟨LA, lcap, ll⟩, pipe, arbor, purchase, most, brake, ⟨IA, icap, il⟩, bricks⟩ := s
            simp only at *
            go_wp2
            rw [← HV.out]
            try rw [hr]
            have HRE := hide hr
            clear hr
            go_loopw [12, 13, 57] (fun _ _ v wr => ∃ j : Nat, v = .int .i64 j ∧ j ≤ ll.length ∧ ∃ y : After V.heap.size V, wr = y.val) (fun _ _ v _ => ll.length - (intOf v).toNat)
            case atStart => exact ⟨0, rfl, Nat.zero_le _, After.refl _ _, rfl⟩
            case round =>
              obtain ⟨j, rfl, hj, y, rfl⟩ := hrel
              have hby := hbx y
              have hry := hrowV y
              by_cases hjt : j < ll.length
              · obtain ⟨b2, o2, hA2, hb2, hcell2⟩ := HLW.out.2.2 (show 0 < ll.length by omega)
                simp only at hA2
                subst hA2
                have hxj : ll[j]? = some ll[j] := List.getElem?_eq_getElem hjt
                have hej := intElem hxj hb2 hcell2 ⟨y.val, HWV.out.trans (y.below.mono HWV.out.size)⟩
                simp only at hej
                obtain ⟨p0, p1⟩ := HPB.out _ (List.getElem_mem hjt)
                obtain ⟨c, hce, hcs, hcb⟩ := HLB.out _ (List.getElem_mem hjt)
                clear hcell2 hxj hb2
                generalize ll[j] = p at *
                have hd : ((row[c].toNat : Int) != 111) = false := by rw [hcb]; rfl
                have hc0 : (0 : Int) ≤ (c : Int) := by omega
                have hdc : decide (row.size ≤ c) = false := by simp; omega
                clear hcb
                go_wp2
                exact ⟨⟨j + 1, by go_num, by omega, y, rfl⟩, by simp [intOf]; omega⟩
              · go_wp2
                go_loopw [15, 16, 84] (fun _ _ v wr => ∃ j : Nat, v = .int .i64 j ∧ j ≤ il.length ∧ ∃ y : After V.heap.size V, wr = y.val) (fun _ _ v _ => il.length - (intOf v).toNat)
                case atStart => exact ⟨0, rfl, Nat.zero_le _, y, rfl⟩
                case round =>
                  obtain ⟨j, rfl, hj, y, rfl⟩ := hrel
                  by_cases hjt : j < il.length
                  · obtain ⟨b2, o2, hA2, hb2, hcell2⟩ := HIW.out.2.2 (show 0 < il.length by omega)
                    simp only at hA2
                    subst hA2
                    have hxj : il[j]? = some il[j] := List.getElem?_eq_getElem hjt
                    have hej := ItemD.elem hxj hb2 hcell2 ⟨y.val, HWV.out.trans (y.below.mono HWV.out.size)⟩
                    simp only at hej
                    obtain ⟨p0, p1, p2⟩ := HQB.out _ (List.getElem_mem hjt)
                    have hib := HIB.out _ (List.getElem_mem hjt)
                    clear hcell2 hxj hb2
                    generalize il[j] = i at *
                    obtain ⟨U, hU, hUs, hUb, hUh⟩ := boxed y.val (.cells #[.string i.name, .int .i64 i.place, .int .i64 i.width, .int .i64 i.weight, .int .i64 i.hang, .int .i64 i.front, .int .i64 i.back] 40)
                    have hix := fun u : After U.heap.size U => ItemD.boxed (i := i) hUh (by omega) u
                    have hVU : Below V.heap.size V U := y.below.trans (hUb.mono y.size)
                    have hrU := fun u : After U.heap.size U => hrowV ⟨u.val, hVU.trans (u.below.mono hVU.size)⟩
                    simp only at hrU
                    have HUV := hide (show ∀ u : After U.heap.size U, ∃ y : After V.heap.size V, u.val = y.val from fun u => ⟨⟨u.val, hVU.trans (u.below.mono hVU.size)⟩, rfl⟩)
                    obtain ⟨e0, e1⟩ := quo_bound (show 0 ≤ i.place by omega) (by omega) hs1
                    obtain ⟨f0, f1⟩ := quo_bound (show 0 ≤ i.place + i.width - 1 by omega) (by omega) hs1
                    obtain ⟨ca, hca⟩ : ∃ ca : Nat, i.place / scale = (ca : Int) := ⟨(i.place / scale).toNat, by omega⟩
                    obtain ⟨cz, hcz⟩ : ∃ cz : Nat, (i.place + i.width - 1) / scale = (cz : Int) := ⟨((i.place + i.width - 1) / scale).toNat, by omega⟩
                    have hle : i.place / scale ≤ (i.place + i.width - 1) / scale := Int.ediv_le_ediv (by omega) (by omega)
                    have hcaz : ca ≤ cz := by omega
                    rw [hca, hcz] at hib
                    have HIB2 := hide (show ∀ c : Nat, ca ≤ c → c ≤ cz → ∃ hc : c < row.size, row[c] = 35 ∨ row[c] = 111 from fun c h1 h2 => hib c (by omega) (by omega))
                    have HU := hide hU
                    have hi0 := hix (After.refl _ _)
                    simp only [After.refl] at hi0
                    clear hib hle hUh hVU hUb hV0 hby
                    go_wp2
                    rw [← HU.out]
                    try rw [hca]
                    have HCA := hide hca
                    clear hca
                    go_loopw [16] (fun v wr => ∃ c : Nat, v = .int .i64 c ∧ ca ≤ c ∧ c ≤ cz + 1 ∧ ∃ u : After U.heap.size U, wr = u.val) (fun v _ => cz + 1 - (intOf v).toNat)
                    case atStart => exact ⟨ca, rfl, Nat.le_refl _, by omega, After.refl _ _, rfl⟩
                    case round =>
                      obtain ⟨c, rfl, hc1, hc2, u, rfl⟩ := hrel
                      have hiu := hix u
                      have hru := hrU u
                      by_cases hct : c ≤ cz
                      · have hct' : (c : Int) ≤ (cz : Int) := by omega
                        obtain ⟨hcs, hcb⟩ := HIB2.out c hc1 hct
                        have hc0 : (0 : Int) ≤ (c : Int) := by omega
                        have hdc : decide (row.size ≤ c) = false := by simp; omega
                        rcases hcb with hcb | hcb
                        · have hd : ((row[c].toNat : Int) != 35) = false := by rw [hcb]; rfl
                          clear hcb
                          go_wp2
                          exact ⟨⟨c + 1, by go_num, by omega, by omega, u, rfl⟩, by simp [intOf]; omega⟩
                        · have hd : ((row[c].toNat : Int) != 111) = false := by rw [hcb]; rfl
                          have hd2 : ((row[c].toNat : Int) != 35) = true := by rw [hcb]; rfl
                          clear hcb
                          go_wp2
                          exact ⟨⟨c + 1, by go_num, by omega, by omega, u, rfl⟩, by simp [intOf]; omega⟩
                      · have hct' : ¬ (c : Int) ≤ (cz : Int) := by omega
                        go_wp2
                        exact ⟨⟨j + 1, by go_num, by omega, HUV.out u⟩, by simp [intOf]; omega⟩
                  · go_wp2
                    exact ⟨⟨k + 1, by go_num, by omega, HHX.out y⟩, by simp [intOf]; omega⟩
          · go_wp2
            go_ret
            exact Gives.mk rfl (HBZ.out _)
      · obtain ⟨code, hcode, hKD⟩ : ∃ code : Int, (code != 0) = true ∧ ∀ y : After W.heap.size W, Calls Tryd.prog 11 #[.agg #[.string h.name, .int .i64 h.height, .slice h.sets.A h.sets.l.length h.sets.cap, .slice h.roofs.A h.roofs.l.length h.roofs.cap], .int .i64 scale] y.val (Gives y.val (.tuple #[.string ⟨#[]⟩, .int .i64 code])) := draw_not hok hgood HAT.out
        have KD := hide fun y : After W.heap.size W => Gives.after (x := y) (Nat.le_refl _) (hKD y)
        clear hgood HAT hKD
        go_enter Tryd.func3, Tryd.ntmps3
        go_wp2_with fail
        rw [← HW.out]
        refine (KA.out (After.refl _ W)).mono ?_
        rintro e w1 ⟨rfl, y1, rfl⟩
        go_wp2_with fail
        refine (KL.out y1).mono ?_
        rintro e w1 ⟨rfl, y2, rfl⟩
        go_wp2_with fail
        refine (KC.out y2).mono ?_
        rintro e w1 ⟨rfl, y3, rfl⟩
        go_wp2_with fail
        refine (KD.out y3).mono ?_
        rintro e w1 ⟨rfl, y4, rfl⟩
        go_wp2
        go_ret
        exact Gives.mk (by simp) (HBD.out _)
end Go.Proofs.YtliehhnnfpkciaaDoor
