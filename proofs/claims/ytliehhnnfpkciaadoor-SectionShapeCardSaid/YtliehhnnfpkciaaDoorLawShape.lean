/- loftblocklaw32.SectionShape: the walk of the law. -/
import Derived.Test.YtliehhnnfpkciaaDoorSecRight
import Derived.Test.YtliehhnnfpkciaaDoorSecLines
import Derived.Test.YtliehhnnfpkciaaDoorSecDraw
import Derived.Test.YtliehhnnfpkciaaDoorSecEx
import Derived.Test.YtliehhnnfpkciaaDoorCoarseLaw
import Derived.Lib.ConvBytes
import Derived.Lib.SmallJoins
namespace Go.Proofs.YtliehhnnfpkciaaDoor
open Go.RowKit

theorem farItems_ge (d scale : Int) : ∀ (l : List ItemD) (m : Int), m ≤ l.foldl (farItem d scale) m
  | [], m => Int.le_refl m
  | i :: l, m => Int.le_trans (by unfold farItem; omega) (farItems_ge d scale l (farItem d scale m i))
theorem farSet_ge (scale m : Int) (s : SetD) : m ≤ farSet scale m s ∧ s.depth / scale ≤ farSet scale m s := by
  have := farItems_ge s.depth scale s.items.l (max m (s.depth / scale))
  unfold farSet
  omega
theorem farFold_ge (scale : Int) : ∀ (l : List SetD) (m : Int), m ≤ l.foldl (farSet scale) m
  | [], m => Int.le_refl m
  | s :: l, m => Int.le_trans (farSet_ge scale m s).1 (farFold_ge scale l _)
theorem farFold_mem (scale : Int) {s : SetD} : ∀ (l : List SetD) (m : Int), s ∈ l → s.depth / scale ≤ l.foldl (farSet scale) m
  | t :: l, m, h => by
    rw [List.foldl_cons]
    rcases List.mem_cons.1 h with rfl | h
    · exact Int.le_trans (farSet_ge scale m s).2 (farFold_ge scale l _)
    · exact farFold_mem scale l _ h
theorem farTo_mem {l : List SetD} {s : SetD} (scale : Int) (h : s ∈ l) : s.depth / scale ≤ farTo l scale := farFold_mem scale l 0 h
theorem high_of_ok {h : HouseD} (hh : houseOk h = true) {k : Nat} {s : SetD} (hs : h.sets.l[k]? = some s) : s.high ≤ h.height := by
  rw [houseOk, Bool.and_eq_true] at hh
  have := allIdx_iff.1 hh.2 k s hs
  rw [setAt, Bool.and_eq_true, Bool.and_eq_true, decide_eq_true_eq] at this
  exact this.1.2
theorem sign_in (c : UInt8) (h : 0 ≤ Lib.indexByte (⟨#[46, 61, 124, 35, 43]⟩ : ByteArray).data.toList c) (w : World) : Calls Tryd.prog 22 #[.string ⟨#[46, 61, 124, 35, 43]⟩, .string ⟨#[c]⟩] w (Gives w (.bool true)) :=
  (Tryd.strings_Contains_one ⟨#[46, 61, 124, 35, 43]⟩ c w).mono fun e w' ⟨he, hw⟩ => ⟨by rw [he, decide_eq_true h], by rw [hw]; exact Below.refl _ _⟩
theorem plus_count (s : ByteArray) (w : World) : Calls Tryd.prog 23 #[.string s, .string ⟨#[43]⟩] w (Gives w (.int .i64 ((bs s).count 43 : Nat))) :=
  (Tryd.strings_Count_one s 43 w).mono fun e w' ⟨he, hw⟩ => ⟨by rw [he, ← bs_data]; rfl, by rw [hw]; exact Below.refl _ _⟩
/-- what a byte of row k is -/
theorem byte_sign {l : List SetD} {tr : List Int} {scale H : Int} {C k j : Nat} {s : ByteArray} (h : SecRowS l tr scale H C k s) (hj : j < s.size) : s[j] = 124 ∨ s[j] = 35 ∨ s[j] = 43 ∨ (k = 0 ∧ s[j] = 61) ∨ (k ≠ 0 ∧ s[j] = 46) := by
  rw [h.2.2 j hj]
  have h1 := secByte_toNat l tr scale H k j
  have h2 := secCell_sign l tr scale H k j
  have key : ∀ n : Nat, n < 256 → secCell l tr scale H k j = (n : Int) → secByte l tr scale H k j = UInt8.ofNat n := fun n hn e => UInt8.toNat_inj.1 (by
    rw [UInt8.toNat_ofNat']; omega)
  rcases h2 with h2 | h2 | h2 | ⟨h3, h2⟩ | ⟨h3, h2⟩
  · exact Or.inl (key 124 (by omega) h2)
  · exact Or.inr (Or.inl (key 35 (by omega) h2))
  · exact Or.inr (Or.inr (Or.inl (key 43 (by omega) h2)))
  · exact Or.inr (Or.inr (Or.inr (Or.inl ⟨h3, key 61 (by omega) h2⟩)))
  · exact Or.inr (Or.inr (Or.inr (Or.inr ⟨h3, key 46 (by omega) h2⟩)))
theorem byte_of_cell {l : List SetD} {tr : List Int} {scale H : Int} {C k j n : Nat} {s : ByteArray} (h : SecRowS l tr scale H C k s) (hj : j < s.size) (e : secCell l tr scale H k j = (n : Int)) : (s[j].toNat : Int) = (n : Int) := by
  rw [h.2.2 j hj, secByte_toNat, e]
set_option maxHeartbeats 8000000 in
set_option maxRecDepth 100000 in
theorem sectionShape_any (h : HouseD) (hok : h.ok) (trims : Sl Int) (scale : Int) (w : World) (ht : Tabs w) (B : Nat) (hB : B ≤ w.heap.size) (hat : HouseD.at_ w B h) (hatT : SlAt w B 1 intCells trims) :
    Calls Tryd.prog 7 #[.agg #[.string h.name, .int .i64 h.height, .slice h.sets.A h.sets.l.length h.sets.cap, .slice h.roofs.A h.roofs.l.length h.roofs.cap], .slice trims.A trims.l.length trims.cap, .int .i64 scale] w (Gives w (.bool true)) := by
  obtain ⟨W, hW, hWs, hWb, hWh⟩ := boxed w (.cells #[.string h.name, .int .i64 h.height, .slice h.sets.A h.sets.l.length h.sets.cap, .slice h.roofs.A h.roofs.l.length h.roofs.cap] 25)
  have hc := fun y : After W.heap.size W => HouseD.boxed hWh (by omega) y
  have hbd : ∀ y : After W.heap.size W, Below w.heap.size w y.val := fun y => hWb.trans (y.below.mono (by omega))
  have hatW : ∀ y : After W.heap.size W, HouseD.at_ y.val W.heap.size h := fun y => (hat.to (hWb.mono hB) (by omega)).to y.below (Nat.le_refl _)
  have hatTW : ∀ y : After W.heap.size W, SlAt y.val W.heap.size 1 intCells trims := fun y => (hatT.to (hWb.mono hB) (by omega)).to y.below (Nat.le_refl _)
  have HTW := hide (fun y : After W.heap.size W => (ht.below hWb).below y.below)
  have KA := hide fun y : After W.heap.size W => Gives.after (x := y) (Nat.le_refl _) (awake32 y.val)
  have KR := hide fun y : After W.heap.size W => Gives.after (x := y) (Nat.le_refl _) (right_any h hok trims scale y.val W.heap.size y.size (hatW y) (hatTW y))
  have hlc : h.sets.l.length ≤ h.sets.cap := (hatW (After.refl _ W)).sets.1
  have hm : h.sets.cap ≤ 9223372036854775807 := (hatW (After.refl _ W)).sets.2.1
  have HW := hide hW
  have HBD := hide hbd
  have HAT := hide hatW
  have HTT := hide hatTW
  clear hW hWs hWh hWb hbd hat hatW hatT hatTW ht
  cases hr : rightE h trims.l scale
  · rw [hr] at KR
    clear hr
    go_enter Tryd.func7, Tryd.ntmps7
    go_wp2_with fail
    rw [← HW.out]
    refine (KA.out (After.refl _ W)).mono ?_
    rintro e w1 ⟨rfl, y1, rfl⟩
    go_wp2_with fail
    refine (KR.out y1).mono ?_
    rintro e w1 ⟨rfl, y2, rfl⟩
    go_wp2
    go_ret
    exact Gives.mk rfl (HBD.out _)
  · obtain ⟨hsm, hl20, h0, hbg, htr⟩ := rightE_iff.1 hr
    rw [hr] at KR
    clear hr hsm hbg
    obtain ⟨hlen, htk⟩ := trimsE_zero htr
    obtain ⟨hg, _⟩ := secE_zero h0
    obtain ⟨hh, hs1, hs2⟩ := givenE_zero hg
    obtain ⟨R1, R2, C1, C2⟩ := rows_bound h0
    obtain ⟨R, hR⟩ : ∃ R : Nat, secRows h scale = (R : Int) := ⟨(secRows h scale).toNat, by omega⟩
    obtain ⟨C, hC⟩ : ∃ C : Nat, secCols h scale = (C : Int) := ⟨(secCols h scale).toNat, by omega⟩
    have hzs := secSet_of_ok hh
    have hH : h.height / scale = (R : Int) - 1 := by unfold secRows at hR; omega
    have hF : farTo h.sets.l scale = (C : Int) - 1 := by unfold secCols at hC; omega
    have KD := hide fun (y : After W.heap.size W) => Gives.after (x := y) (Nat.le_refl _) (secDraw_good h hok trims scale h0 htr R C hR hC y.val W.heap.size y.size (HAT.out y) (HTT.out y))
    have KZ := hide fun (y : After W.heap.size W) => Gives.after (x := y) (Nat.le_refl _) (secSize_any h hok scale y.val W.heap.size y.size (HAT.out y))
    rw [secSizeE, if_pos h0, hR, hC] at KZ
    -- row and column of set k
    have KROW := hide fun (k : Nat) (s : SetD) (hx : h.sets.l[k]? = some s) (y : World) (hy : Below W.heap.size W y) => show Calls Tryd.prog 24 #[.agg #[.string h.name, .int .i64 h.height, .slice h.sets.A h.sets.l.length h.sets.cap, .slice h.roofs.A h.roofs.l.length h.roofs.cap], .int .i64 (nth trims.l k), .int .i64 scale] y (Gives y (.tuple #[.int .i64 ((R : Int) - 1 - nth trims.l k / scale), .int .i64 0])) from by
      have h1 := secRow_any h hok (nth trims.l k) scale y W.heap.size hy.size (HAT.out ⟨y, hy⟩)
      have h2 := htk k (by rw [hlen]; exact (List.getElem?_eq_some_iff.1 hx).1)
      rw [trimOk, Bool.and_eq_true, decide_eq_true_eq, decide_eq_true_eq, setN_of hx] at h2
      have h3 := hzs s (List.mem_of_getElem? hx)
      have h4 := high_of_ok hh hx
      have h5 := h3.low
      rwa [secRowE, if_pos h0, if_pos (by omega), hH] at h1
    have KCOL := hide fun (k : Nat) (s : SetD) (hx : h.sets.l[k]? = some s) (y : World) (hy : Below W.heap.size W y) => show Calls Tryd.prog 25 #[.agg #[.string h.name, .int .i64 h.height, .slice h.sets.A h.sets.l.length h.sets.cap, .slice h.roofs.A h.roofs.l.length h.roofs.cap], .string s.name, .int .i64 scale] y (Gives y (.tuple #[.int .i64 (s.depth / scale), .int .i64 0])) from by
      have h1 := secCol_any h hok s.name scale y W.heap.size hy.size (HAT.out ⟨y, hy⟩)
      rwa [secColE, if_pos h0, find_self hh hx, if_neg (by omega), Int.toNat_natCast, depthAt_of hx] at h1
    have HGEO := hide fun (k : Nat) (s : SetD) (hx : h.sets.l[k]? = some s) => show ∃ r c : Nat, (R : Int) - 1 - nth trims.l k / scale = (r : Int) ∧ r < R ∧ s.depth / scale = (c : Int) ∧ c < C from by
      have h2 := htk k (by rw [hlen]; exact (List.getElem?_eq_some_iff.1 hx).1)
      rw [trimOk, Bool.and_eq_true, decide_eq_true_eq, decide_eq_true_eq, setN_of hx] at h2
      have h3 := hzs s (List.mem_of_getElem? hx)
      have h4 := high_of_ok hh hx
      have h5 := h3.low
      have h6 : 0 ≤ nth trims.l k / scale := Int.ediv_nonneg (by omega) (by omega)
      have h7 : nth trims.l k / scale ≤ h.height / scale := Int.ediv_le_ediv (by omega) (by omega)
      have h8 : 0 ≤ s.depth / scale := Int.ediv_nonneg h3.d0 (by omega)
      have h9 := farTo_mem scale (List.mem_of_getElem? hx)
      exact ⟨((R : Int) - 1 - nth trims.l k / scale).toNat, (s.depth / scale).toNat, by omega, by omega, by omega, by omega⟩
    have HSL := hide (HAT.out (After.refl _ W)).sets
    have HTR := hide (HTT.out (After.refl _ W))
    have hR1 : 1 ≤ R := by omega
    have hR2 : R ≤ 200 := by omega
    have hC1 : 1 ≤ C := by omega
    have hC2 : C ≤ 200 := by omega
    have HLN := hide hlen
    have hcT : trims.l.length ≤ trims.cap := (HTT.out (After.refl _ W)).1
    have hcm : trims.cap ≤ 9223372036854775807 := (HTT.out (After.refl _ W)).2.1
    have KLN := hide (secLines_any h.sets.l trims.l scale ((R : Int) - 1) hR1 hR2 hC2)
    have HPL := hide (plus_all h.sets.l trims.l scale ((R : Int) - 1) C R h.sets.l.length)
    simp only [After.refl] at HSL HTR
    clear htr htk hlen hzs hg hh h0 hR hC R1 R2 C1 C2 hH hF HAT HTT hok
    obtain ⟨name, height, ⟨A, cap, l⟩, roofs⟩ := h
    obtain ⟨TA, tcap, tr⟩ := trims
    simp only at *
    generalize hTT : (⟨(secText l tr scale ((R : Int) - 1) C R).toArray⟩ : ByteArray) = T at *
    clear hTT
    go_enter Tryd.func7, Tryd.ntmps7
    go_wp2_with fail
    rw [← HW.out]
    refine (KA.out (After.refl _ W)).mono ?_
    rintro e w1 ⟨rfl, y1, rfl⟩
    go_wp2_with fail
    refine (KR.out y1).mono ?_
    rintro e w1 ⟨rfl, y2, rfl⟩
    go_wp2_with fail
    refine (KD.out y2).mono ?_
    rintro e w1 ⟨rfl, y3, rfl⟩
    go_wp2_with fail
    refine (KZ.out y3).mono ?_
    rintro e w1 ⟨rfl, y4, rfl⟩
    go_wp2_with fail
    refine (KLN.out y4.val (HTW.out y4)).mono ?_
    rintro e Z ⟨g, rfl, hrows, hbZ⟩
    have hWZ : Below W.heap.size W Z := y4.below.trans (hbZ.mono y4.size)
    have hcZ := fun z : After Z.heap.size Z => hc ⟨z.val, hWZ.trans (z.below.mono hWZ.size)⟩
    simp only at hcZ
    have HBZ := hide (show ∀ z : After Z.heap.size Z, Below w.heap.size w z.val from fun z => HBD.out ⟨z.val, hWZ.trans (z.below.mono hWZ.size)⟩)
    have HWZ := hide hWZ
    have HROW := hide hrows
    have hc0 := hcZ (After.refl _ _)
    simp only [After.refl] at hc0
    have HCZ := hide hcZ
    have HHC := hide hc
    clear hbZ hrows hWZ hcZ hc
    have hrc : R ≤ R + 1 := by omega
    go_wp2
    go_loopw [14, 15, 16, 18, 67, 75] (fun p _ _ _ v _ wr => ∃ k : Nat, v = .int .i64 k ∧ k ≤ R ∧ p = .int .i64 (rowsSum (plusTo l tr scale ((R : Int) - 1) C l.length) k : Nat) ∧ ∃ x : After Z.heap.size Z, wr = x.val) (fun _ _ _ _ v _ _ => R - (intOf v).toNat)
    case atStart => exact ⟨0, rfl, Nat.zero_le _, rfl, After.refl _ _, rfl⟩
    case round =>
      obtain ⟨k, rfl, hk, rfl, x, rfl⟩ := hrel
      by_cases hlt : k < R
      · obtain ⟨row, hrow, hS⟩ := HROW.out.row hlt
        have hrx := hrow x
        have hsz := hS.2.1
        have hsm : row.size ≤ 200 := by omega
        have hpn := plus_all l tr scale ((R : Int) - 1) C (k + 1) l.length
        have hct : (bs row).count 43 = plusTo l tr scale ((R : Int) - 1) C l.length k := by rw [hS.1, secRow_count]
        rw [rowsSum, ← hct] at hpn
        have HNX := hide (show rowsSum (plusTo l tr scale ((R : Int) - 1) C l.length) (k + 1) = rowsSum (plusTo l tr scale ((R : Int) - 1) C l.length) k + (bs row).count 43 by rw [rowsSum, hct])
        have hl20' : l.length ≤ 20 := by have := HLN.out; omega
        have KCT := hide (plus_count row)
        obtain ⟨W1, hW1⟩ : ∃ W1, W1 = Lib.bytesWorld x.val 5 row := ⟨_, rfl⟩
        have hcv := Lib.run_convert_string_bytes (P := Tryd.prog) x.val 9 56 5 row (u := .string) Tryd.underlying9 Tryd.underlying56 Tryd.underlying5
        rw [← hW1] at hcv
        have hby : ∀ j (hj : j < row.size), W1.cell? ⟨x.val.heap.size, j, none⟩ = some (.int .u8 (row[j].toNat : Int)) := fun j hj => by
          rw [hW1, Lib.bytesWorld_cell _ _ _ j hj]
          have := bs_get row j hj
          rw [bs_data] at this
          rw [List.getD_eq_getElem?_getD, this]; rfl
        have hb1 : Below x.val.heap.size x.val W1 := by rw [hW1]; exact Joins.below_bytesWorld _ _ _ _ (Nat.le_refl _)
        have hs1' : x.val.heap.size < W1.heap.size := by
          have h0 := hby 0 (by omega)
          rcases Nat.lt_or_ge x.val.heap.size W1.heap.size with h | h
          · exact h
          · rw [World.cell?, Array.getElem?_eq_none h] at h0; cases h0
        generalize grownCap x.val row.size 0 5 = gc at hcv
        have HBY := hide hby
        have HS := hide hS
        have HXX := hide (show ∀ z : After W1.heap.size W1, ∃ y : After Z.heap.size Z, z.val = y.val from fun z => ⟨⟨z.val, x.below.trans ((hb1.mono x.size).trans (z.below.mono (Nat.le_trans x.size hb1.size)))⟩, rfl⟩)
        clear hby hS hW1 hct hb1
        generalize rowsSum (plusTo l tr scale ((R : Int) - 1) C l.length) k = p at *
        generalize (bs row).count 43 = ct at *
        go_wp2
        go_loopw [18, 75] (fun _ v wr => ∃ j : Nat, v = .int .i64 j ∧ j ≤ row.size ∧ ∃ z : After W1.heap.size W1, wr = z.val) (fun _ v _ => row.size - (intOf v).toNat)
        case atStart => exact ⟨0, rfl, Nat.zero_le _, After.refl _ _, rfl⟩
        case round =>
          obtain ⟨j, rfl, hj, z, rfl⟩ := hrel
          by_cases hjt : j < row.size
          · have hcell := z.cell (HBY.out j hjt) hs1'
            have hbs := byte_sign HS.out hjt
            clear hcv
            generalize row[j] = c at *
            rcases hbs with rfl | rfl | rfl | ⟨hk0, rfl⟩ | ⟨hk0, rfl⟩
            · have he : Utf8.encode 124 = ⟨#[124]⟩ := by rfl
              have KSG := hide (sign_in 124 (by decide) z.val)
              go_wp2_with (go_at_call 22; refine (Gives.after (x := z) (Nat.le_refl _) KSG.out).mono ?_; rintro e w' ⟨rfl, z2, rfl⟩)
              exact ⟨⟨j + 1, by go_num, by omega, z2, rfl⟩, by simp [intOf]; omega⟩
            · have he : Utf8.encode 35 = ⟨#[35]⟩ := by rfl
              have KSG := hide (sign_in 35 (by decide) z.val)
              go_wp2_with (go_at_call 22; refine (Gives.after (x := z) (Nat.le_refl _) KSG.out).mono ?_; rintro e w' ⟨rfl, z2, rfl⟩)
              exact ⟨⟨j + 1, by go_num, by omega, z2, rfl⟩, by simp [intOf]; omega⟩
            · have he : Utf8.encode 43 = ⟨#[43]⟩ := by rfl
              have KSG := hide (sign_in 43 (by decide) z.val)
              go_wp2_with (go_at_call 22; refine (Gives.after (x := z) (Nat.le_refl _) KSG.out).mono ?_; rintro e w' ⟨rfl, z2, rfl⟩)
              exact ⟨⟨j + 1, by go_num, by omega, z2, rfl⟩, by simp [intOf]; omega⟩
            · have he : Utf8.encode 61 = ⟨#[61]⟩ := by rfl
              have hk1 : decide (0 < k) = false := by simp; omega
              have hk2 : decide ((0 : Int) < (k : Int)) = false := by simp; omega
              clear hk0
              have KSG := hide (sign_in 61 (by decide) z.val)
              go_wp2_with (go_at_call 22; refine (Gives.after (x := z) (Nat.le_refl _) KSG.out).mono ?_; rintro e w' ⟨rfl, z2, rfl⟩)
              exact ⟨⟨j + 1, by go_num, by omega, z2, rfl⟩, by simp [intOf]; omega⟩
            · have he : Utf8.encode 46 = ⟨#[46]⟩ := by rfl
              have KSG := hide (sign_in 46 (by decide) z.val)
              have hk1 : ((k : Int) == 0) = false := by simp; omega
              go_wp2_with (go_at_call 22; refine (Gives.after (x := z) (Nat.le_refl _) KSG.out).mono ?_; rintro e w' ⟨rfl, z2, rfl⟩)
              exact ⟨⟨j + 1, by go_num, by omega, z2, rfl⟩, by simp [intOf]; omega⟩
          · clear hcv
            go_wp2_with (go_at_call 23; refine (Gives.after (x := z) (Nat.le_refl _) (KCT.out z.val)).mono ?_; rintro e w' ⟨rfl, z2, rfl⟩)
            exact ⟨⟨k + 1, by go_num, by omega, by rw [HNX.out]; go_num, HXX.out z2⟩, by simp [intOf]; omega⟩
      · obtain rfl : k = R := by omega
        have hpl := HPL.out
        generalize rowsSum (plusTo l tr scale ((k : Int) - 1) C l.length) k = p at *
        have hpd : decide (l.length < p) = false := by simp; omega
        have hcx := HCZ.out x
        clear hpl hc0
        go_wp2
        go_loopw [19, 20, 21, 22, 23, 24, 25, 26, 114, 171] (fun _ _ _ _ _ _ _ _ v _ wr => ∃ m : Nat, v = .int .i64 m ∧ m ≤ l.length ∧ ∃ x : After Z.heap.size Z, wr = x.val) (fun _ _ _ _ _ _ _ _ v _ _ => l.length - (intOf v).toNat)
        case atStart => exact ⟨0, rfl, Nat.zero_le _, x, rfl⟩
        case round =>
          clear hcx
          obtain ⟨m, rfl, hm', x, rfl⟩ := hrel
          by_cases hlt2 : m < l.length
          · obtain ⟨b, off, hA, hb, hcell⟩ := HSL.out.2.2 (show 0 < l.length by omega)
            obtain ⟨bt, offt, hTA, hbt, hcellt⟩ := HTR.out.2.2 (show 0 < tr.length by have := HLN.out; omega)
            simp only at hA hTA
            subst hA
            subst hTA
            have hx : l[m]? = some l[m] := List.getElem?_eq_getElem hlt2
            have hWx : Below W.heap.size W x.val := HWZ.out.trans (x.below.mono HWZ.out.size)
            have he := SetD.elem hx hb hcell ⟨x.val, hWx⟩
            simp only at he
            have hmt : m < tr.length := by have := HLN.out; omega
            have htrE := fun x : After W.heap.size W => intElem (nth_get hmt) hbt hcellt x
            have krow := KROW.out m _ hx
            have kcol := KCOL.out m _ hx
            obtain ⟨r, c, hr1, hr2, hc1', hc2'⟩ := HGEO.out m _ hx
            rw [hr1] at krow
            rw [hc1'] at kcol
            obtain ⟨row, hrow, hS⟩ := HROW.out.row hr2
            have hcs : c < row.size := by rw [hS.2.1]; exact hc2'
            have hb43 : (row[c].toNat : Int) = ((43 : Nat) : Int) := byte_of_cell hS hcs (secCell_pipe hlt2 hr1 (by rw [setN_of hx]; exact hc1'))
            have HUPR := hide (show ∀ q, q < r → ∃ rq : ByteArray, (∀ z : After Z.heap.size Z, z.val.cell? ⟨g, q, none⟩ = some (.string rq)) ∧ ∃ hcq : c < rq.size, ((rq[c].toNat : Int) == 46) = false ∧ ((rq[c].toNat : Int) == 61) = false from fun q hq => by
              obtain ⟨rq, h1, h2⟩ := HROW.out.row (show q < k by omega)
              have hcq : c < rq.size := by rw [h2.2.1]; exact hc2'
              refine ⟨rq, h1, hcq, ?_⟩
              have h3 := secCell_above (l := l) (tr := tr) (scale := scale) (H := (k : Int) - 1) (r := q) (c := c) hlt2 (by omega) (by rw [setN_of hx]; exact hc1')
              have h4 := secByte_toNat l tr scale ((k : Int) - 1) q c
              rw [← h2.2.2 c hcq] at h4
              rcases h3 with h3 | h3 | h3 <;> rw [h4, h3] <;> decide)
            have hnm : ∃ s : SetD, s = l[m] := ⟨_, rfl⟩
            have hb43' : ((row[c].toNat : Int) != 43) = false := by rw [hb43]; rfl
            clear hx hcell hcellt hS hb43 hr1 hc1'
            generalize l[m] = s at *
            obtain ⟨V, hV, hVs, hVb, hVh⟩ := boxed x.val (.cells #[.string s.name, .int .i64 s.depth, .int .i64 s.low, .int .i64 s.high, .int .i64 s.length, .slice s.lines.A s.lines.l.length s.lines.cap, .int .i64 s.pipe, .int .i64 s.arbor, .int .i64 s.purchase, .int .i64 s.most, .int .i64 s.brake, .slice s.items.A s.items.l.length s.items.cap, .slice s.bricks.A s.bricks.l.length s.bricks.cap] 38)
            have hbx := fun y : After V.heap.size V => SetD.boxed (s := s) hVh (by omega) y
            have hWV : Below W.heap.size W V := hWx.trans (hVb.mono hWx.size)
            have hZV : Below Z.heap.size Z V := x.below.trans (hVb.mono x.size)
            have hcV := fun y : After V.heap.size V => HHC.out ⟨y.val, hWV.trans (y.below.mono hWV.size)⟩
            have htV := fun y : After V.heap.size V => htrE ⟨y.val, hWV.trans (y.below.mono hWV.size)⟩
            have hrV := fun y : After V.heap.size V => hrow ⟨y.val, hZV.trans (y.below.mono hZV.size)⟩
            simp only at hcV htV hrV
            have KRW := hide fun y : After V.heap.size V => Gives.after (x := y) (Nat.le_refl _) (krow y.val (hWV.trans (y.below.mono hWV.size)))
            have KCL := hide fun y : After V.heap.size V => Gives.after (x := y) (Nat.le_refl _) (kcol y.val (hWV.trans (y.below.mono hWV.size)))
            have HUV := hide (show ∀ q, q < r → ∃ rq : ByteArray, (∀ y : After V.heap.size V, y.val.cell? ⟨g, q, none⟩ = some (.string rq)) ∧ ∃ hcq : c < rq.size, ((rq[c].toNat : Int) == 46) = false ∧ ((rq[c].toNat : Int) == 61) = false from fun q hq => by
              obtain ⟨rq, h1, h2⟩ := HUPR.out q hq
              exact ⟨rq, fun y => h1 ⟨y.val, hZV.trans (y.below.mono hZV.size)⟩, h2⟩)
            have HXV := hide (show ∀ y : After V.heap.size V, ∃ z : After Z.heap.size Z, y.val = z.val from fun y => ⟨⟨y.val, hZV.trans (y.below.mono hZV.size)⟩, rfl⟩)
            have HV := hide hV
            have HHT := hide hlt2
            have hm0 : (0 : Int) ≤ (m : Int) := by omega
            have hm1 : (m : Int) < (tr.length : Int) := by omega
            have hr0 : (0 : Int) ≤ (r : Int) := by omega
            have hrk : (r : Int) < (k : Int) := by omega
            have hc0 : (0 : Int) ≤ (c : Int) := by omega
            have hcC : (c : Int) < (C : Int) := by omega
            have hcr : (c : Int) < (row.size : Int) := by omega
            have g1 : decide ((r : Int) < 0) = false := by simp
            have g2 : decide ((k : Int) ≤ (r : Int)) = false := by simp; omega
            have g3 : decide ((c : Int) < 0) = false := by simp
            have g4 : decide ((C : Int) ≤ (c : Int)) = false := by simp; omega
            have g5 : decide (row.size ≤ c) = false := by simp; omega
            have g6 : decide (k ≤ r) = false := by simp; omega
            have g7 : decide (C ≤ c) = false := by simp; omega
            clear hV hVs hVb hVh hWV hZV krow kcol hrow htrE hWx hb hbt hmt HUPR
            generalize nth tr m = tz at *
            go_wp2_with fail
            rw [← HV.out]
            refine wp_region_first V.heap.size (by kernel_rfl) (by kernel_rfl) ?_
            repeat (go_big_quiet_step ((go_at_call 24; exact KRW.out _)))
            refine wpQuiet_nil ?_
            intro y
            have hcy := hcV y
            have hby := hbx y
            have hry := hrV y
            go_wp2_with (go_at_call 25; refine (KCL.out _).mono ?_; rintro e w' ⟨rfl, y2, rfl⟩)
            go_loopw [25, 26, 171] (fun _ _ v wr => ∃ q : Nat, v = .int .i64 q ∧ q ≤ r ∧ ∃ y : After V.heap.size V, wr = y.val) (fun _ _ v _ => r - (intOf v).toNat)
            case atStart => exact ⟨0, rfl, Nat.zero_le _, y2, rfl⟩
            case round =>
              obtain ⟨q, rfl, hq, y3, rfl⟩ := hrel
              by_cases hqt : q < r
              · obtain ⟨rq, h1, hcq, h46, h61⟩ := HUV.out q hqt
                have h1y := h1 y3
                have gq : decide (rq.size ≤ c) = false := by simp; omega
                have gk : decide (k ≤ q) = false := by simp; omega
                clear h1
                go_wp2
                exact ⟨⟨q + 1, by go_num, by omega, y3, rfl⟩, by simp [intOf]; omega⟩
              · go_wp2
                exact ⟨⟨m + 1, by go_num, by omega, HXV.out y3⟩, by simp [intOf]; omega⟩
          · go_wp2
            go_ret
            exact Gives.mk rfl (HBZ.out _)
end Go.Proofs.YtliehhnnfpkciaaDoor
