/- loftblockref33.At and gridplan.At where it gives an error; loftblocklaw33.GridplanLegends: the walk of the law. -/
import Derived.Test.YtliehhnnfpkciaaGreatDoorRefLegend
import Derived.Test.YtliehhnnfpkciaaGreatDoorPlanAt
import Derived.Test.YtliehhnnfpkciaaGreatDoorTied
import Derived.Test.YtliehhnnfpkciaaGreatDoorRows
namespace Go.Proofs.YtliehhnnfpkciaaGreatDoor
open Go.RowKit

/-- the place that the reference gives, and what gridplan.At gives there -/
def AtIdx (l : List SetD) (scale r c j : Int) : Prop :=
  (j = -1 ∧ atE l scale r c = .tuple #[.string ⟨#[]⟩, .int .i64 12]) ∨ ∃ (k : Nat) (s : SetD), j = k ∧ k < l.length ∧ l[k]? = some s ∧ atE l scale r c = .tuple #[.string s.name, .int .i64 0]
def AtGiven (l : List SetD) (scale r c : Int) (w : World) (e : Ending) (w' : World) : Prop := ∃ j : Int, e = .returned (.int .i64 j) ∧ AtIdx l scale r c j ∧ Below w.heap.size w w'
set_option maxHeartbeats 2000000 in
theorem refAt_any (h : HouseD) (hz : Sized h.sets.l) (scale r c : Int) (hs1 : 1 ≤ scale) (hs2 : scale ≤ 1048576) (hc0 : 0 ≤ c) (hc2 : c ≤ 1048576) (w : World) (B : Nat) (hB : B ≤ w.heap.size) (hat : HouseD.at_ w B h) :
    Calls Tryz.prog 19 #[.agg #[.string h.name, .int .i64 h.height, .slice h.sets.A h.sets.l.length h.sets.cap, .slice h.roofs.A h.roofs.l.length h.roofs.cap], .int .i64 scale, .int .i64 r, .int .i64 c] w (AtGiven h.sets.l scale r c w) := by
  obtain ⟨W, hW, hWs, hWb, hWh⟩ := boxed w (.cells #[.string h.name, .int .i64 h.height, .slice h.sets.A h.sets.l.length h.sets.cap, .slice h.roofs.A h.roofs.l.length h.roofs.cap] 25)
  have hc := fun y : After W.heap.size W => HouseD.boxed hWh (by omega) y
  have hbd : ∀ y : After W.heap.size W, Below w.heap.size w y.val := fun y => hWb.trans (y.below.mono (by omega))
  have hatW : HouseD.at_ W W.heap.size h := hat.to (hWb.mono hB) (by omega)
  have hlc : h.sets.l.length ≤ h.sets.cap := hat.sets.1
  have hm : h.sets.cap ≤ 9223372036854775807 := hat.sets.2.1
  have HSL := hide hatW.sets
  have HZ := hide hz
  have HW := hide hW
  have HBD := hide hbd
  clear hW hWs hWh hWb hbd hat hatW hz
  obtain ⟨name, height, ⟨A, cap, l⟩, roofs⟩ := h
  simp only at *
  have YR : W = (After.refl W.heap.size W).val := rfl
  go_enter Tryz.func19, Tryz.ntmps19
  go_wp2_with fail
  rw [← HW.out]
  go_loopw [9] (fun v wr => ∃ k : Nat, v = .int .i64 k ∧ k ≤ l.length ∧ Hid (∀ j y, j < k → l[j]? = some y → seenPipe y scale r c = false) ∧ ∃ x : After W.heap.size W, wr = x.val) (fun v _ => l.length - (intOf v).toNat)
  case atStart => exact ⟨0, rfl, Nat.zero_le _, hide fun j y hj => absurd hj (by omega), _, YR⟩
  case round =>
    obtain ⟨k, rfl, hk, hall, x, rfl⟩ := hrel
    by_cases hlt : k < l.length
    · obtain ⟨b, off, hA, hb, hcell⟩ := HSL.out.2.2 (show 0 < l.length by omega)
      simp only at hA
      subst hA
      have hx : l[k]? = some l[k] := List.getElem?_eq_getElem hlt
      have he := fun x : After W.heap.size W => SetD.elem hx hb hcell x
      obtain ⟨d0, d1, l0, l1⟩ := HZ.out l[k] (List.getElem_mem hlt)
      have HX := hide hx
      clear hcell hx
      have KP := hide fun y : After W.heap.size W => Gives.after (x := y) (Nat.le_refl _) (refPipe_any l[k] d0 d1 scale r c hs1 hs2 hc0 hc2 y.val)
      rcases Bool.eq_false_or_eq_true (seenPipe l[k] scale r c) with hp | hp
      · have HP := hide hp
        rw [hp] at KP
        clear hp
        go_wp2_with (go_at_call 49; refine (KP.out _).mono ?_; rintro e w' ⟨rfl, y, rfl⟩)
        go_ret
        exact ⟨_, rfl, Or.inr ⟨k, _, rfl, hlt, HX.out, by rw [atE, find_some HX.out HP.out hall.out]⟩, HBD.out _⟩
      · have HP := hide hp
        rw [hp] at KP
        clear hp
        go_wp2_with (go_at_call 49; refine (KP.out _).mono ?_; rintro e w' ⟨rfl, y, rfl⟩)
        exact ⟨⟨k + 1, by go_num, by omega, none_next hall.out HX.out HP.out, y, rfl⟩, by simp [intOf]; omega⟩
    · go_wp2
      go_ret
      exact ⟨_, rfl, Or.inl ⟨rfl, by rw [atE, find_none fun j y hj hy => hall.out j y (by omega) hy]⟩, HBD.out _⟩
set_option maxHeartbeats 2000000 in
theorem at_refused (h : HouseD) (hok : h.ok) (scale r c : Int) (h0 : givenE h scale ≠ 0) (w : World) (B : Nat) (hB : B ≤ w.heap.size) (hat : HouseD.at_ w B h) :
    Calls Tryz.prog 13 #[.agg #[.string h.name, .int .i64 h.height, .slice h.sets.A h.sets.l.length h.sets.cap, .slice h.roofs.A h.roofs.l.length h.roofs.cap], .int .i64 scale, .int .i64 r, .int .i64 c] w (Gives w (.tuple #[.string ⟨#[]⟩, .int .i64 (givenE h scale)])) := by
  obtain ⟨W, hW, hWs, hWb, hWh⟩ := boxed w (.cells #[.string h.name, .int .i64 h.height, .slice h.sets.A h.sets.l.length h.sets.cap, .slice h.roofs.A h.roofs.l.length h.roofs.cap] 25)
  have hc := fun y : After W.heap.size W => HouseD.boxed hWh (by omega) y
  have hbd : ∀ y : After W.heap.size W, Below w.heap.size w y.val := fun y => hWb.trans (y.below.mono (by omega))
  have hatW : HouseD.at_ W W.heap.size h := hat.to (hWb.mono hB) (by omega)
  have hg := given_any h hok scale W W.heap.size (Nat.le_refl _) hatW
  have hne : ((givenE h scale) != 0) = true := by simpa using h0
  have HG := hide hg
  have HW := hide hW
  have HBD := hide hbd
  clear hW hWs hWh hWb hbd hat hatW hok hg
  generalize givenE h scale = E at *
  go_enter Tryz.func13, Tryz.ntmps13
  go_wp2_with (go_at_call 22; rw [← HW.out]; refine (Gives.first HG.out).mono ?_; rintro e w' ⟨rfl, y, rfl⟩)
  go_ret2
  exact Gives.mk rfl (HBD.out _)
set_option maxHeartbeats 2000000 in
theorem at_out (h : HouseD) (hok : h.ok) (scale r c : Int) (h0 : givenE h scale = 0) (hrc : ¬ (0 ≤ r ∧ r < rowsTo h.sets.l scale ∧ 0 ≤ c ∧ c < colsTo h.sets.l scale)) (w : World) (B : Nat) (hB : B ≤ w.heap.size) (hat : HouseD.at_ w B h) :
    Calls Tryz.prog 13 #[.agg #[.string h.name, .int .i64 h.height, .slice h.sets.A h.sets.l.length h.sets.cap, .slice h.roofs.A h.roofs.l.length h.roofs.cap], .int .i64 scale, .int .i64 r, .int .i64 c] w (Gives w (.tuple #[.string ⟨#[]⟩, .int .i64 2])) := by
  obtain ⟨hh, hs1, hs2⟩ := givenE_zero h0
  have hz := sized_of_ok hh
  obtain ⟨W, hW, hWs, hWb, hWh⟩ := boxed w (.cells #[.string h.name, .int .i64 h.height, .slice h.sets.A h.sets.l.length h.sets.cap, .slice h.roofs.A h.roofs.l.length h.roofs.cap] 25)
  have hc := fun y : After W.heap.size W => HouseD.boxed hWh (by omega) y
  have hbd : ∀ y : After W.heap.size W, Below w.heap.size w y.val := fun y => hWb.trans (y.below.mono (by omega))
  have hatW : HouseD.at_ W W.heap.size h := hat.to (hWb.mono hB) (by omega)
  have hg := given_any h hok scale W W.heap.size (Nat.le_refl _) hatW
  rw [h0] at hg
  have hsz : ∀ y : After W.heap.size W, Calls Tryz.prog 23 #[.agg #[.string h.name, .int .i64 h.height, .slice h.sets.A h.sets.l.length h.sets.cap, .slice h.roofs.A h.roofs.l.length h.roofs.cap], .int .i64 scale] y.val fun e w'' => e = .returned (.tuple #[.int .i64 (rowsTo h.sets.l scale), .int .i64 (colsTo h.sets.l scale)]) ∧ ∃ z : After W.heap.size W, w'' = z.val := fun y =>
    Gives.after (Nat.le_refl _) (size_any h hz scale hs1 hs2 y.val W.heap.size y.size (hatW.to y.below (Nat.le_refl _)))
  have HG := hide hg
  have HS := hide hsz
  have HW := hide hW
  have HBD := hide hbd
  clear hW hWs hWh hWb hbd hat hatW hok hg hsz hz hh h0
  generalize rowsTo h.sets.l scale = R at *
  generalize colsTo h.sets.l scale = C at *
  have h4 : r < 0 ∨ (0 ≤ r ∧ R ≤ r) ∨ (0 ≤ r ∧ r < R ∧ c < 0) ∨ (0 ≤ r ∧ r < R ∧ 0 ≤ c ∧ C ≤ c) := by omega
  clear hrc
  rcases h4 with h4 | ⟨h4, h5⟩ | ⟨h4, h5, h6⟩ | ⟨h4, h5, h6, h7⟩
  all_goals
    go_enter Tryz.func13, Tryz.ntmps13
    go_wp2_with (first
      | (go_at_call 22; rw [← HW.out]; refine (Gives.first HG.out).mono ?_; rintro e w' ⟨rfl, y, rfl⟩)
      | (go_at_call 23; refine (HS.out _).mono ?_; rintro e w' ⟨rfl, y, rfl⟩))
    go_ret2
    exact Gives.mk rfl (HBD.out _)
end Go.Proofs.YtliehhnnfpkciaaGreatDoor
namespace Go.Proofs.YtliehhnnfpkciaaGreatDoor
open Go.RowKit

set_option maxHeartbeats 1000000 in
theorem legend_bad (h : HouseD) (hok : h.ok) (hh : houseOk h = false) (w : World) (B : Nat) (hB : B ≤ w.heap.size) (hat : HouseD.at_ w B h) :
    Calls Tryz.prog 14 #[.agg #[.string h.name, .int .i64 h.height, .slice h.sets.A h.sets.l.length h.sets.cap, .slice h.roofs.A h.roofs.l.length h.roofs.cap]] w (Gives w (.tuple #[.string ⟨#[]⟩, .int .i64 1])) := by
  obtain ⟨W, hW, hWs, hWb, hWh⟩ := boxed w (.cells #[.string h.name, .int .i64 h.height, .slice h.sets.A h.sets.l.length h.sets.cap, .slice h.roofs.A h.roofs.l.length h.roofs.cap] 25)
  have hc := fun y : After W.heap.size W => HouseD.boxed hWh (by omega) y
  have hatW : HouseD.at_ W W.heap.size h := hat.to (hWb.mono hB) (by omega)
  have KV := hide (Gives.first (houseValid_any h hok W W.heap.size (Nat.le_refl _) hatW))
  rw [hh] at KV
  have HBD := hide fun y : After W.heap.size W => hWb.trans (y.below.mono (by omega))
  have HW := hide hW
  clear hW hWs hWh hWb hat hatW hh hok
  go_enter Tryz.func14, Tryz.ntmps14
  go_wp2_with (go_at_call 37; rw [← HW.out]; refine KV.out.mono ?_; rintro e w' ⟨rfl, y, rfl⟩)
  go_ret2
  exact Gives.mk rfl (HBD.out y)
/-- what the listed table of powers of ten gives at the row's first world -/
theorem pow10_of {W : World} (h : laidMetH Tryz.prog Rows.gridplanLegendsRow.laid W) : Pow10 W := by
  rw [MakeChecks.laidMetH_plain _ _ _ (by kernel_rfl)] at h
  have h2 := laidMet.tail (laidMet.tail h)
  exact Lib.tabIs_of_head (k := .u64) (zs := Lib.pow10Tab) (g := 3) (t := 150) (e := 142) (n := 20) (by kernel_rfl) (by kernel_rfl) (by kernel_rfl) (by kernel_rfl) (by kernel_rfl) (by kernel_rfl) h2

theorem small_sets {h : HouseD} (hs : houseSmall h 5 = true) : h.sets.l.length ≤ 5 ∧ h.roofs.l.length ≤ 15 := by
  rw [houseSmall] at hs
  simp only [Bool.and_eq_true, houseSmallHead, decide_eq_true_eq] at hs
  omega

theorem foldCols_le {scale m0 : Int} (hs : 1 ≤ scale) : ∀ (l : List SetD) (m : Int), (∀ s ∈ l, 0 ≤ s.length ∧ s.length ≤ m0) → m ≤ m0 + 1 → l.foldl (fun m s => max m (s.length / scale + 1)) m ≤ m0 + 1
  | [], m, _, hm => hm
  | s :: l, m, h, hm => by
    obtain ⟨h0, h1⟩ := h s (by simp)
    have h2 : s.length / scale ≤ s.length := Int.ediv_le_self _ h0
    exact foldCols_le hs l _ (fun t ht => h t (by simp [ht])) (by show max m (s.length / scale + 1) ≤ m0 + 1; omega)
theorem colsTo_le {l : List SetD} (hz : Sized l) {scale : Int} (hs : 1 ≤ scale) : colsTo l scale ≤ 1048576 + 1 :=
  foldCols_le hs l 0 (fun s h => by have := hz s h; omega) (by omega)
set_option maxRecDepth 100000 in
set_option maxHeartbeats 8000000 in
theorem gridplanLegends_any (h : HouseD) (hok : h.ok) (scale r c : Int) (w : World) (hp : Pow10 w) (B : Nat) (hB : B ≤ w.heap.size) (hat : HouseD.at_ w B h) :
    Calls Tryz.prog 4 #[.agg #[.string h.name, .int .i64 h.height, .slice h.sets.A h.sets.l.length h.sets.cap, .slice h.roofs.A h.roofs.l.length h.roofs.cap], .int .i64 scale, .int .i64 r, .int .i64 c] w (Gives w (.bool true)) := by
  obtain ⟨W, hW, hWs, hWb, hWh⟩ := boxed w (.cells #[.string h.name, .int .i64 h.height, .slice h.sets.A h.sets.l.length h.sets.cap, .slice h.roofs.A h.roofs.l.length h.roofs.cap] 25)
  have hc := fun y : After W.heap.size W => HouseD.boxed hWh (by omega) y
  have hbd : ∀ y : After W.heap.size W, Below w.heap.size w y.val := fun y => hWb.trans (y.below.mono (by omega))
  have hatW : ∀ y : After W.heap.size W, HouseD.at_ y.val W.heap.size h := fun y => (hat.to (hWb.mono hB) (by omega)).to y.below (Nat.le_refl _)
  have HPW := hide (fun y : After W.heap.size W => (hp.below hWb).below y.below)
  have KA := hide fun y : After W.heap.size W => Gives.after (x := y) (Nat.le_refl _) (awake33 y.val)
  have KL := hide fun y : After W.heap.size W => Gives.after (x := y) (Nat.le_refl _) (large_any h y.val W.heap.size y.size (hatW y))
  have HW := hide hW
  have HLT := hide (show w.heap.size < W.heap.size by omega)
  have HBD := hide hbd
  have HAT := hide hatW
  clear hW hWs hWh hWb hbd hat hatW hp
  cases hsm : houseSmall h 5
  · go_enter Tryz.func4, Tryz.ntmps4
    go_wp2_with fail
    rw [← HW.out]
    refine (KA.out (After.refl _ W)).mono ?_
    rintro e w1 ⟨rfl, y1, rfl⟩
    go_wp2_with fail
    refine (KL.out y1).mono ?_
    rintro e w1 ⟨rfl, y2, rfl⟩
    go_wp2
    go_ret
    exact Gives.mk rfl (HBD.out _)
  · have KV := hide fun y : After W.heap.size W => Gives.after (x := y) (Nat.le_refl _) (refHouse_any h hok y.val W.heap.size y.size (HAT.out y))
    cases hh : houseOk h
    · have KG := hide fun y : After W.heap.size W => Gives.after (x := y) (Nat.le_refl _) (legend_bad h hok hh y.val W.heap.size y.size (HAT.out y))
      have KT := hide fun y : After W.heap.size W => Gives.after (x := y) (Nat.le_refl _) (at_refused h hok scale r c (by rw [givenE_bad hh]; decide) y.val W.heap.size y.size (HAT.out y))
      rw [hh] at KV
      rw [givenE_bad hh] at KT
      clear hh
      go_enter Tryz.func4, Tryz.ntmps4
      go_wp2_with fail
      rw [← HW.out]
      refine (KA.out (After.refl _ W)).mono ?_
      rintro e w1 ⟨rfl, y1, rfl⟩
      go_wp2_with fail
      refine (KL.out y1).mono ?_
      rintro e w1 ⟨rfl, y2, rfl⟩
      go_wp2_with fail
      refine (KG.out y2).mono ?_
      rintro e w1 ⟨rfl, y3, rfl⟩
      go_wp2_with fail
      refine (KT.out y3).mono ?_
      rintro e w1 ⟨rfl, y4, rfl⟩
      go_wp2_with fail
      refine (KV.out y4).mono ?_
      rintro e w1 ⟨rfl, y5, rfl⟩
      go_wp2
      go_ret
      exact Gives.mk (by rfl) (HBD.out _)
    · obtain ⟨hs5, hr15⟩ := small_sets hsm
      have hz := sized_of_ok hh
      have KG := hide fun y : After W.heap.size W => Gives.after (x := y) (Nat.le_refl _) (legend_good h hok hh (by omega) y.val (HPW.out y) W.heap.size y.size (HAT.out y))
      have KR := hide fun y : After W.heap.size W => Gives.after (x := y) (Nat.le_refl _) (refLegend_good h hok hh (by omega) y.val W.heap.size y.size (HAT.out y))
      have KE := hide fun y : After W.heap.size W => Gives.after (x := y) (Nat.le_refl _) (refGiven_any h hok scale y.val W.heap.size y.size (HAT.out y))
      rw [hh] at KV
      generalize (⟨(legT h.sets.l h.roofs.l).toArray⟩ : ByteArray) = T at *
      by_cases h0 : givenE h scale = 0
      · obtain ⟨_, hs1, hs2⟩ := givenE_zero h0
        have KS := hide fun y : After W.heap.size W => Gives.after (x := y) (Nat.le_refl _) (refSize_any h hz scale hs1 hs2 y.val W.heap.size y.size (HAT.out y))
        rw [h0] at KE
        by_cases hrc : 0 ≤ r ∧ r < rowsTo h.sets.l scale ∧ 0 ≤ c ∧ c < colsTo h.sets.l scale
        · obtain ⟨hr0, hr1, hc0, hc1⟩ := hrc
          have hcl := colsTo_le hz hs1
          have KT := hide fun y : After W.heap.size W => Gives.after (x := y) (Nat.le_refl _) (at_good h hok scale r c h0 hr0 hr1 hc0 hc1 (by omega) y.val W.heap.size y.size (HAT.out y))
          have KI := hide fun y : After W.heap.size W => refAt_any h hz scale r c hs1 hs2 hc0 (by omega) y.val W.heap.size y.size (HAT.out y)
          have HSL := hide (HAT.out (After.refl _ W)).sets
          have hlcb : h.sets.l.length ≤ h.sets.cap := (HAT.out (After.refl _ W)).sets.1
          have hmb : h.sets.cap ≤ 9223372036854775807 := (HAT.out (After.refl _ W)).sets.2.1
          simp only [After.refl] at HSL
          have HAE := hide (show ∃ (nm : ByteArray) (e : Int), atE h.sets.l scale r c = .tuple #[.string nm, .int .i64 e] from by unfold atE; split <;> exact ⟨_, _, rfl⟩)
          unfold AtGiven at KI
          clear hh hok HAT hz h0 hcl
          generalize rowsTo h.sets.l scale = R at *
          generalize colsTo h.sets.l scale = C at *
          obtain ⟨nm, er, hae⟩ := HAE.out
          rw [hae] at KT
          have HIX := hide (show ∀ j, AtIdx h.sets.l scale r c j → (j = -1 ∧ nm = ⟨#[]⟩ ∧ er = 12) ∨ ∃ (k : Nat) (s : SetD), j = k ∧ k < h.sets.l.length ∧ h.sets.l[k]? = some s ∧ nm = s.name ∧ er = 0 from fun j hj => by
            rw [AtIdx, hae] at hj
            rcases hj with ⟨h1, h2⟩ | ⟨k, s, h1, h2, h3, h4⟩
            · exact Or.inl ⟨h1, by simpa using h2⟩
            · exact Or.inr ⟨k, s, h1, h2, h3, by simpa using h4⟩)
          clear hae HAE
          obtain ⟨name, height, ⟨A, cap, l⟩, roofs⟩ := h
          simp only at *
          go_enter Tryz.func4, Tryz.ntmps4
          go_wp2_with fail
          rw [← HW.out]
          refine (KA.out (After.refl _ W)).mono ?_
          rintro e w1 ⟨rfl, y1, rfl⟩
          go_wp2_with fail
          refine (KL.out y1).mono ?_
          rintro e w1 ⟨rfl, y2, rfl⟩
          go_wp2_with fail
          refine (KG.out y2).mono ?_
          rintro e w1 ⟨rfl, y3, rfl⟩
          go_wp2_with fail
          refine (KT.out y3).mono ?_
          rintro e w1 ⟨rfl, y4, rfl⟩
          go_wp2_with fail
          refine (KV.out y4).mono ?_
          rintro e w1 ⟨rfl, y5, rfl⟩
          go_wp2_with fail
          refine (KR.out y5).mono ?_
          rintro e w1 ⟨rfl, y6, rfl⟩
          go_wp2_with fail
          refine (KE.out y6).mono ?_
          rintro e w1 ⟨rfl, y7, rfl⟩
          go_wp2_with fail
          refine (KS.out y7).mono ?_
          rintro e w1 ⟨rfl, y8, rfl⟩
          go_wp2_with fail
          refine (KI.out y8).mono ?_
          rintro e w1 ⟨j, rfl, hj, hb9⟩
          have hW9 : Below W.heap.size W w1 := y8.below.trans (hb9.mono y8.size)
          obtain ⟨y9, rfl⟩ : ∃ y : After W.heap.size W, w1 = y.val := ⟨⟨w1, hW9⟩, rfl⟩
          have hc9 := hc y9
          rcases HIX.out j hj with ⟨rfl, rfl, rfl⟩ | ⟨k, s, rfl, hk, hx, rfl, rfl⟩
          · clear hb9 hW9 hj
            go_wp2
            go_ret
            exact Gives.mk (by rfl) (HBD.out y9)
          · obtain ⟨b, off, hA, hb, hcell⟩ := HSL.out.2.2 (show 0 < l.length by omega)
            simp only at hA
            subst hA
            have he := SetD.elem hx hb hcell y9
            have k0 : (0 : Int) ≤ (k : Int) := by omega
            have k1 : (k : Int) < (l.length : Int) := by omega
            clear hb9 hW9 hj hx hcell
            go_wp2
            go_ret
            exact Gives.mk (by rfl) (HBD.out y9)
        · have KT := hide fun y : After W.heap.size W => Gives.after (x := y) (Nat.le_refl _) (at_out h hok scale r c h0 hrc y.val W.heap.size y.size (HAT.out y))
          clear hh hok HAT hz h0
          generalize rowsTo h.sets.l scale = R at *
          generalize colsTo h.sets.l scale = C at *
          have h4 : r < 0 ∨ (0 ≤ r ∧ R ≤ r) ∨ (0 ≤ r ∧ r < R ∧ c < 0) ∨ (0 ≤ r ∧ r < R ∧ 0 ≤ c ∧ C ≤ c) := by omega
          clear hrc
          rcases h4 with h4 | ⟨h4, h5⟩ | ⟨h4, h5, h6⟩ | ⟨h4, h5, h6, h7⟩
          all_goals
            go_enter Tryz.func4, Tryz.ntmps4
            go_wp2_with fail
            rw [← HW.out]
            refine (KA.out (After.refl _ W)).mono ?_
            rintro e w1 ⟨rfl, y1, rfl⟩
            go_wp2_with fail
            refine (KL.out y1).mono ?_
            rintro e w1 ⟨rfl, y2, rfl⟩
            go_wp2_with fail
            refine (KG.out y2).mono ?_
            rintro e w1 ⟨rfl, y3, rfl⟩
            go_wp2_with fail
            refine (KT.out y3).mono ?_
            rintro e w1 ⟨rfl, y4, rfl⟩
            go_wp2_with fail
            refine (KV.out y4).mono ?_
            rintro e w1 ⟨rfl, y5, rfl⟩
            go_wp2_with fail
            refine (KR.out y5).mono ?_
            rintro e w1 ⟨rfl, y6, rfl⟩
            go_wp2_with fail
            refine (KE.out y6).mono ?_
            rintro e w1 ⟨rfl, y7, rfl⟩
            go_wp2_with fail
            refine (KS.out y7).mono ?_
            rintro e w1 ⟨rfl, y8, rfl⟩
            go_wp2
            go_ret
            exact Gives.mk (by rfl) (HBD.out _)
      · have KT := hide fun y : After W.heap.size W => Gives.after (x := y) (Nat.le_refl _) (at_refused h hok scale r c h0 y.val W.heap.size y.size (HAT.out y))
        have hE : givenE h scale = 2 := by
          exact givenE_range hh fun hs => h0 (givenE_ok hh hs.1 hs.2)
        rw [hE] at KT KE
        clear hh hok HAT hz h0 hE
        go_enter Tryz.func4, Tryz.ntmps4
        go_wp2_with fail
        rw [← HW.out]
        refine (KA.out (After.refl _ W)).mono ?_
        rintro e w1 ⟨rfl, y1, rfl⟩
        go_wp2_with fail
        refine (KL.out y1).mono ?_
        rintro e w1 ⟨rfl, y2, rfl⟩
        go_wp2_with fail
        refine (KG.out y2).mono ?_
        rintro e w1 ⟨rfl, y3, rfl⟩
        go_wp2_with fail
        refine (KT.out y3).mono ?_
        rintro e w1 ⟨rfl, y4, rfl⟩
        go_wp2_with fail
        refine (KV.out y4).mono ?_
        rintro e w1 ⟨rfl, y5, rfl⟩
        go_wp2_with fail
        refine (KR.out y5).mono ?_
        rintro e w1 ⟨rfl, y6, rfl⟩
        go_wp2_with fail
        refine (KE.out y6).mono ?_
        rintro e w1 ⟨rfl, y7, rfl⟩
        go_wp2
        go_ret
        exact Gives.mk (by rfl) (HBD.out _)
end Go.Proofs.YtliehhnnfpkciaaGreatDoor
