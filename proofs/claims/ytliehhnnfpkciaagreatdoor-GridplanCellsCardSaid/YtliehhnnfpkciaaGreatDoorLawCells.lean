/- loftblocklaw33.GridplanCells: the walk of the law. -/
import Derived.Test.YtliehhnnfpkciaaGreatDoorPlanAt
import Derived.Test.YtliehhnnfpkciaaGreatDoorPlanCell
import Derived.Test.YtliehhnnfpkciaaGreatDoorPlanLines
import Derived.Lib.OthersKept
namespace Go.Proofs.YtliehhnnfpkciaaGreatDoor
open Go.RowKit

theorem name_of_ok {s : SetD} (h : setOk s = true) : 0 < s.name.size := by
  rw [setOk] at h
  simp only [Bool.and_eq_true] at h
  have h1 := h.1.1.1.1
  rw [setFirst] at h1
  simp only [Bool.and_eq_true] at h1
  have h2 := h1.1.1.1.1.1
  refine Nat.pos_of_ne_zero fun h0 => ?_
  rw [isName_empty _ h0] at h2
  cases h2
/-- a cell's byte is plain -/
theorem markByte_ascii (m : Int) : (markByte m).toNat < 128 := by
  unfold markByte
  split
  · decide
  · split
    · decide
    · split <;> decide
theorem trim_any {s : ByteArray} (h : Lib.trimS s.data.toList [111, 35, 45, 46] = []) (hs : s.size ≤ 4000000000) (w : World) : Calls Tryz.prog 12 #[.string s, .string ⟨#[111, 35, 45, 46]⟩] w (Gives w (.string ⟨#[]⟩)) :=
  (Any.strings_Trim_laid Tryz.lays160 (by kernel_rfl) s ⟨#[111, 35, 45, 46]⟩ w (by omega) (by decide) (ascii_of_all (by decide))).mono fun e w' ⟨he, hw⟩ => ⟨by
    have h2 : Lib.trimS s.data.toList (⟨#[111, 35, 45, 46]⟩ : ByteArray).data.toList = [] := h
    rw [he, h2], hw⟩
set_option maxRecDepth 100000 in
set_option maxHeartbeats 8000000 in
theorem gridplanCells_any (h : HouseD) (hok : h.ok) (scale : Int) (w : World) (ht : Tabs w) (B : Nat) (hB : B ≤ w.heap.size) (hat : HouseD.at_ w B h) :
    Calls Tryz.prog 3 #[.agg #[.string h.name, .int .i64 h.height, .slice h.sets.A h.sets.l.length h.sets.cap, .slice h.roofs.A h.roofs.l.length h.roofs.cap], .int .i64 scale] w (Gives w (.bool true)) := by
  obtain ⟨W, hW, hWs, hWb, hWh⟩ := boxed w (.cells #[.string h.name, .int .i64 h.height, .slice h.sets.A h.sets.l.length h.sets.cap, .slice h.roofs.A h.roofs.l.length h.roofs.cap] 25)
  have hc := fun y : After W.heap.size W => HouseD.boxed hWh (by omega) y
  have hbd : ∀ y : After W.heap.size W, Below w.heap.size w y.val := fun y => hWb.trans (y.below.mono (by omega))
  have hatW : ∀ y : After W.heap.size W, HouseD.at_ y.val W.heap.size h := fun y => (hat.to (hWb.mono hB) (by omega)).to y.below (Nat.le_refl _)
  have HTW := hide (fun y : After W.heap.size W => (ht.below hWb).below y.below)
  have KA := hide fun y : After W.heap.size W => Gives.after (x := y) (Nat.le_refl _) (awake33 y.val)
  have KL := hide fun y : After W.heap.size W => Gives.after (x := y) (Nat.le_refl _) (large_any h y.val W.heap.size y.size (hatW y))
  have KC := hide fun y : After W.heap.size W => Gives.after (x := y) (Nat.le_refl _) (coarse_any h hok scale y.val W.heap.size y.size (hatW y))
  have KS := hide fun y : After W.heap.size W => Gives.after (x := y) (Nat.le_refl _) (planSize_any h hok scale y.val W.heap.size y.size (hatW y))
  have HW := hide hW
  have HBD := hide hbd
  have HAT := hide hatW
  clear hW hWs hWh hWb hbd hat hatW ht
  cases hsm : houseSmall h 5
  · go_enter Tryz.func3, Tryz.ntmps3
    go_wp2_with fail
    rw [← HW.out]
    refine (KA.out (After.refl _ W)).mono ?_
    rintro e w1 ⟨rfl, y1, rfl⟩
    go_wp2_with fail
    refine (KL.out y1).mono ?_
    rintro e w1 ⟨rfl, y2, rfl⟩
    go_wp2
    go_ret
    exact Gives.mk rfl (HBD.out _)
  · cases hco : coarseB h scale
    · go_enter Tryz.func3, Tryz.ntmps3
      go_wp2_with fail
      rw [← HW.out]
      refine (KA.out (After.refl _ W)).mono ?_
      rintro e w1 ⟨rfl, y1, rfl⟩
      go_wp2_with fail
      refine (KL.out y1).mono ?_
      rintro e w1 ⟨rfl, y2, rfl⟩
      go_wp2_with fail
      refine (KC.out y2).mono ?_
      rintro e w1 ⟨rfl, y3, rfl⟩
      go_wp2
      go_ret
      exact Gives.mk rfl (HBD.out _)
    · by_cases hgood : givenE h scale = 0 ∧ rowsTo h.sets.l scale ≤ 400 ∧ colsTo h.sets.l scale ≤ 400
      · obtain ⟨h0, hR4, hC4⟩ := hgood
        obtain ⟨hh, hs1, hs2⟩ := givenE_zero h0
        have hR0 := rowsTo_nonneg h.sets.l scale
        have hC0 := colsTo_nonneg h.sets.l scale
        obtain ⟨R, hR⟩ : ∃ R : Nat, rowsTo h.sets.l scale = (R : Int) := ⟨(rowsTo h.sets.l scale).toNat, by omega⟩
        obtain ⟨C, hC⟩ : ∃ C : Nat, colsTo h.sets.l scale = (C : Int) := ⟨(colsTo h.sets.l scale).toNat, by omega⟩
        have hR4 : R ≤ 400 := by omega
        have hC4 : C ≤ 400 := by omega
        have KD := hide fun y : After W.heap.size W => Gives.after (x := y) (Nat.le_refl _) (draw_good h hok scale h0 R C hR hC hR4 hC4 y.val W.heap.size y.size (HAT.out y))
        -- At at the cell (i, k)
        have KAT := hide fun (i k : Nat) (hi : i < R) (hk : k < C) (y : After W.heap.size W) => at_good h hok scale i k h0 (by omega) (by omega) (by omega) (by omega) (by omega) y.val W.heap.size y.size (HAT.out y)
        have HCE := hide (at_cell (l := h.sets.l) hs1 (fun s hs => onPipe_of_ok (set_of_ok hh hs)) (fun s hs => name_of_ok (set_of_ok hh hs)))
        have KLN := hide (lines_plan h.sets.l scale (C := C) (R := R) hC4 hR4)
        rw [sizeE, if_pos h0, hR, hC] at KS
        have HEMP := hide (fun h0 : R = 0 => show (⟨(planText h.sets.l scale C R).toArray⟩ : ByteArray).toList.isEmpty = true from by subst h0; exact List.isEmpty_iff.2 (toList_nil rfl))
        have hends : ∀ m, R = m + 1 → Lib.hasSuffix (planText h.sets.l scale C R) [10] = true := fun m e => by rw [e]; exact planText_ends _ _ _ _
        have HNEMP := hide (fun h0 : 0 < R => show (⟨(planText h.sets.l scale C R).toArray⟩ : ByteArray).toList.isEmpty = false from by
          obtain ⟨m, hm⟩ : ∃ m, R = m + 1 := ⟨R - 1, by omega⟩
          refine toList_isEmpty ?_
          have : (planText h.sets.l scale C R).length = R * (C + 1) := planText_length _ _ _ _
          have h2 : 1 ≤ R * (C + 1) := Nat.mul_le_mul h0 (show 1 ≤ C + 1 by omega)
          show 0 < (planText h.sets.l scale C R).toArray.size
          rw [List.size_toArray, this]; exact h2)
        have HSUF := hide (fun (h0 : 0 < R) (y : World) => show Calls Tryz.prog 11 #[.string ⟨(planText h.sets.l scale C R).toArray⟩, .string ⟨#[10]⟩] y (Gives y (.bool true)) from by
          obtain ⟨m, hm⟩ : ∃ m, R = m + 1 := ⟨R - 1, by omega⟩
          have hs := planText_small h.sets.l scale hC4 hR4
          have h1 := Tryz.strings_HasSuffix ⟨(planText h.sets.l scale C R).toArray⟩ ⟨#[10]⟩ y (by simp only [ByteArray.size, List.size_toArray]; omega)
          refine h1.mono fun e w' ⟨he, hw⟩ => ⟨?_, by rw [hw]; exact Below.refl _ _⟩
          rw [he]
          have h2 : Lib.hasSuffix (⟨(planText h.sets.l scale C R).toArray⟩ : ByteArray).data.toList (⟨#[10]⟩ : ByteArray).data.toList = true := hends m hm
          rw [h2])
        clear h0 hR hC hR0 hC0 hh HAT hok hends
        obtain ⟨name, height, ⟨A, cap, l⟩, roofs⟩ := h
        simp only at *
        generalize (⟨(planText l scale C R).toArray⟩ : ByteArray) = T at *
        -- the text: empty exactly if there is no row; it ends with an end of line
        go_enter Tryz.func3, Tryz.ntmps3
        go_wp2_with fail
        rw [← HW.out]
        refine (KA.out (After.refl _ W)).mono ?_
        rintro e w1 ⟨rfl, y1, rfl⟩
        go_wp2_with fail
        refine (KL.out y1).mono ?_
        rintro e w1 ⟨rfl, y2, rfl⟩
        go_wp2_with fail
        refine (KC.out y2).mono ?_
        rintro e w1 ⟨rfl, y3, rfl⟩
        go_wp2_with fail
        refine (KD.out y3).mono ?_
        rintro e w1 ⟨rfl, y4, rfl⟩
        go_wp2_with fail
        refine (KS.out y4).mono ?_
        rintro e w1 ⟨rfl, y5, rfl⟩
        go_wp2_with fail
        refine (KLN.out y5.val (HTW.out y5)).mono ?_
        rintro e Z ⟨LA, n, rfl, hlr, hbZ⟩
        have hWZ : Below W.heap.size W Z := y5.below.trans (hbZ.mono y5.size)
        have HBZ := hide (show ∀ z : After Z.heap.size Z, Below w.heap.size w z.val from fun z => HBD.out ⟨z.val, hWZ.trans (z.below.mono hWZ.size)⟩)
        have hcZ := fun z : After Z.heap.size Z => hc ⟨z.val, hWZ.trans (z.below.mono hWZ.size)⟩
        simp only at hcZ
        have HCZ := hide hcZ
        have HLR := hide hlr
        have hnR : n = R := hlr.1
        subst hnR
        have HAZ := hide (fun (i k : Nat) (hi : i < n) (hk : k < C) (z : World) (hz : Below Z.heap.size Z z) => KAT.out i k hi hk ⟨z, hWZ.trans (hz.mono hWZ.size)⟩)
        simp only at HAZ
        clear hlr hbZ hWZ hcZ
        rcases Nat.eq_zero_or_pos n with hn0 | hnp
        · have hemp : T.toList.isEmpty = true := HEMP.out hn0
          have HN0 := hide hn0
          clear hn0
          go_wp2
          go_loopw [11, 12, 13, 14, 15, 64] (fun _ _ _ _ _ v wr => v = .int .i64 0 ∧ ∃ x : After Z.heap.size Z, wr = x.val) (fun _ _ _ _ _ _ _ => 0)
          case atStart => exact ⟨rfl, After.refl _ _, rfl⟩
          case round =>
            obtain ⟨rfl, x, rfl⟩ := hrel
            have hlt : ¬ 0 < n := by have := HN0.out; omega
            go_wp2
            go_ret
            exact Gives.mk rfl (HBZ.out _)
        · have hemp : T.toList.isEmpty = false := HNEMP.out hnp
          have KHS := hide (HSUF.out hnp)
          go_wp2_with fail
          refine (Gives.after (x := After.refl _ Z) (Nat.le_refl _) (KHS.out Z)).mono ?_
          rintro e w1 ⟨rfl, x0, rfl⟩
          go_wp2
          go_loopw [11, 12, 13, 14, 15, 64] (fun _ _ _ _ _ v wr => ∃ k : Nat, v = .int .i64 k ∧ k ≤ n ∧ ∃ x : After Z.heap.size Z, wr = x.val) (fun _ _ _ _ _ v _ => n - (intOf v).toNat)
          case atStart => exact ⟨0, rfl, Nat.zero_le _, x0, rfl⟩
          case round =>
            obtain ⟨i, rfl, hi, x, rfl⟩ := hrel
            by_cases hlt : i < n
            · obtain ⟨g, hgA, row, hrow, hrsz, hrb⟩ := HLR.out.row hlt
              subst hgA
              have hrx := hrow x
              have hsz4 : row.size ≤ 400 := by omega
              have KTR := hide (trim_any (trim_row hrb) (by omega))
              have HRB := hide hrb
              have hrne : ((row.size : Int) != (C : Int)) = false := by rw [hrsz]; simp
              clear hrb hrow
              go_wp2_with fail
              refine (Gives.after (x := x) (Nat.le_refl _) (KTR.out x.val)).mono ?_
              rintro e w1 ⟨rfl, x2, rfl⟩
              obtain ⟨b, hb⟩ : ∃ b, b = x2.val.heap.size := ⟨_, rfl⟩
              have hZb : Z.heap.size ≤ b := by have := x2.size; omega
              have HIT := hide (show (x2.val.iter row 0).heap[b]? = some (.stringIter row 0) ∧ Below Z.heap.size Z (x2.val.iter row 0) from ⟨by rw [hb]; exact World.iter_heap x2.val row 0, x2.below.alloc x2.size _⟩)
              go_wp2
              rw [← hb]
              clear hb
              go_loopw [13, 14, 15] (fun _ _ _ wr => ∃ pos : Nat, pos ≤ row.size ∧ wr.heap[b]? = some (.stringIter row pos) ∧ Below Z.heap.size Z wr) (fun _ _ _ wr => row.size - wr.iterPos b)
              case atStart => exact ⟨0, Nat.zero_le _, HIT.out⟩
              case round =>
                clear HIT
                obtain ⟨pos, hp, hk, hbw⟩ := hrel
                have hblt : b < wr.heap.size := (Array.getElem?_eq_some_iff.1 hk).1
                by_cases hpt : pos < row.size
                · have hnext : ∀ ty, (Instr.next (.pointer (some ⟨b, 0, none⟩)) true ty).run Tryz.prog wr = _ := fun ty => Lib.run_next_ascii_at wr b row pos ty hk hpt (by rw [HRB.out pos hpt]; exact markByte_ascii _)
                  have hk2 := Lib.iterAt_heap wr b row pos (pos + 1) hk
                  have hbw2 := Lib.below_iterAt hbw (k := b) hZb row (pos + 1)
                  have hKA := HAZ.out i pos hlt (by omega) _ hbw2
                  have hcu := HCZ.out ⟨_, hbw2⟩
                  simp only at hcu
                  obtain ⟨U, hU⟩ : ∃ U, U = wr.iterAt b row (pos + 1) := ⟨_, rfl⟩
                  rw [← hU] at hk2 hbw2 hKA hcu hnext
                  have HBW2 := hide hbw2
                  have HK2 := hide hk2
                  have HK := hide hk
                  have hbU : b < U.heap.size := (Array.getElem?_eq_some_iff.1 hk2).1
                  have hdc : decide (row.size ≤ pos) = false := by simp; omega
                  have hi0 : (0 : Int) ≤ (pos : Int) := by omega
                  rcases HCE.out i pos with ⟨hm, hE⟩ | ⟨hm, nm, hnm, hE⟩
                  · have h46 : ((row[pos].toNat : Int) == 46) = true := by rw [HRB.out pos hpt, hm]; rfl
                    rw [hE] at hKA
                    have HKA := hide hKA
                    clear hU hbw2 hk2 hk hKA hm hE
                    go_wp2_with fail
                    refine HKA.out.mono ?_
                    rintro e w3 ⟨rfl, hb3⟩
                    have HR3 := hide (show w3.heap[b]? = some (.stringIter row (pos + 1)) ∧ Below Z.heap.size Z w3 from ⟨(hb3.block b hbU).trans HK2.out, HBW2.out.trans (hb3.mono HBW2.out.size)⟩)
                    clear hb3
                    go_wp2
                    exact ⟨⟨pos + 1, by omega, HR3.out⟩, by simp only [World.iterPos, HR3.out.1, HK.out]; omega⟩
                  · have h46 : ((row[pos].toNat : Int) == 46) = false := by
                      rw [HRB.out pos hpt, beq_eq_false_iff_ne]
                      intro e
                      have hb := marks_bound l scale i pos
                      refine hm ((markByte_dot hb.1 hb.2).1 (UInt8.toNat_inj.1 ?_))
                      have : (46 : UInt8).toNat = 46 := rfl
                      omega
                    have hne : nm.toList.isEmpty = false := toList_isEmpty hnm
                    rw [hE] at hKA
                    have HKA := hide hKA
                    clear hU hbw2 hk2 hk hKA hm hE
                    go_wp2_with fail
                    refine HKA.out.mono ?_
                    rintro e w3 ⟨rfl, hb3⟩
                    have HR3 := hide (show w3.heap[b]? = some (.stringIter row (pos + 1)) ∧ Below Z.heap.size Z w3 from ⟨(hb3.block b hbU).trans HK2.out, HBW2.out.trans (hb3.mono HBW2.out.size)⟩)
                    clear hb3
                    go_wp2
                    exact ⟨⟨pos + 1, by omega, HR3.out⟩, by simp only [World.iterPos, HR3.out.1, HK.out]; omega⟩
                · have hnext : ∀ ty, (Instr.next (.pointer (some ⟨b, 0, none⟩)) true ty).run Tryz.prog wr = _ := fun ty => Lib.run_next_end_at wr b row pos ty hk hpt
                  have HBW := hide hbw
                  clear hk hbw
                  go_wp2
                  exact ⟨⟨i + 1, by go_num, by omega, ⟨wr, HBW.out⟩, rfl⟩, by simp [intOf]; omega⟩
            · go_wp2
              go_ret
              exact Gives.mk rfl (HBZ.out _)
      · -- the drawing is refused: Size is called as well; then 'return s == ""'
        obtain ⟨code, hcode, hKD⟩ : ∃ code : Int, (code != 0) = true ∧ ∀ y : After W.heap.size W, Calls Tryz.prog 8 #[.agg #[.string h.name, .int .i64 h.height, .slice h.sets.A h.sets.l.length h.sets.cap, .slice h.roofs.A h.roofs.l.length h.roofs.cap], .int .i64 scale] y.val (Gives y.val (.tuple #[.string ⟨#[]⟩, .int .i64 code])) := draw_not hok hgood HAT.out
        have KD := hide fun y : After W.heap.size W => Gives.after (x := y) (Nat.le_refl _) (hKD y)
        rw [sizeE] at KS
        clear hgood HAT hKD
        by_cases h0 : givenE h scale = 0
        all_goals
          first | rw [if_pos h0] at KS | rw [if_neg h0] at KS
          clear h0
          go_enter Tryz.func3, Tryz.ntmps3
          go_wp2_with fail
          rw [← HW.out]
          refine (KA.out (After.refl _ W)).mono ?_
          rintro e w1 ⟨rfl, y1, rfl⟩
          go_wp2_with fail
          refine (KL.out y1).mono ?_
          rintro e w1 ⟨rfl, y2, rfl⟩
          go_wp2_with fail
          refine (KC.out y2).mono ?_
          rintro e w1 ⟨rfl, y3, rfl⟩
          go_wp2_with fail
          refine (KD.out y3).mono ?_
          rintro e w1 ⟨rfl, y4, rfl⟩
          go_wp2_with fail
          refine (KS.out y4).mono ?_
          rintro e w1 ⟨rfl, y5, rfl⟩
          go_wp2
          go_ret
          exact Gives.mk (by rfl) (HBD.out _)
end Go.Proofs.YtliehhnnfpkciaaGreatDoor
