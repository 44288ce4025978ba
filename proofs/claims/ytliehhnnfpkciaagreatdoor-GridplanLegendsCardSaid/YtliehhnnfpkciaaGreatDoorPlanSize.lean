/- The size of the plan: gridplan.given, size, Size; loftblockref33.Given, Size; the law's own helpers large and coarse. -/
import Derived.Test.YtliehhnnfpkciaaGreatDoorHouseValid
import Derived.Test.YtliehhnnfpkciaaGreatDoorRefHouse
import Derived.Test.YtliehhnnfpkciaaGreatDoorSmall
namespace Go.Proofs.YtliehhnnfpkciaaGreatDoor
open Go.RowKit

def givenE (h : HouseD) (scale : Int) : Int := if houseOk h = true then (if 1 ≤ scale ∧ scale ≤ 1048576 then 0 else 2) else 1
theorem givenE_bad {h : HouseD} {scale : Int} (hh : houseOk h = false) : givenE h scale = 1 := by simp [givenE, hh]
theorem givenE_range {h : HouseD} {scale : Int} (hh : houseOk h = true) (hs : ¬ (1 ≤ scale ∧ scale ≤ 1048576)) : givenE h scale = 2 := by simp only [givenE, hh, if_true]; rw [if_neg hs]
theorem givenE_ok {h : HouseD} {scale : Int} (hh : houseOk h = true) (h1 : 1 ≤ scale) (h2 : scale ≤ 1048576) : givenE h scale = 0 := by simp [givenE, hh, h1, h2]
theorem givenE_zero {h : HouseD} {scale : Int} (h0 : givenE h scale = 0) : houseOk h = true ∧ 1 ≤ scale ∧ scale ≤ 1048576 := by
  unfold givenE at h0
  split at h0
  · split at h0
    · exact ⟨‹_›, ‹_›⟩
    · omega
  · omega

/-- depths and lengths of valid sets are small -/
def Sized (l : List SetD) : Prop := ∀ s ∈ l, 0 ≤ s.depth ∧ s.depth ≤ 1048576 ∧ 1000 ≤ s.length ∧ s.length ≤ 1048576
theorem sized_of_ok {h : HouseD} (hh : houseOk h = true) : Sized h.sets.l := fun s hs => by
  rw [houseOk, Bool.and_eq_true] at hh
  obtain ⟨j, hj, e⟩ := List.getElem_of_mem hs
  have h1 := allIdx_iff.1 hh.2 j s (by rw [List.getElem?_eq_getElem hj, e])
  rw [setAt, Bool.and_eq_true, Bool.and_eq_true] at h1
  have h2 := h1.1.1
  rw [setOk] at h2
  simp only [Bool.and_eq_true] at h2
  obtain ⟨_, b, _, _, c, _⟩ := setFirst_iff.1 h2.1.1.1.1
  rw [betweenB_iff] at b c
  omega

theorem ifmax (a b : Int) : (if a < b then b else a) = max a b := by rw [Int.max_def]; split <;> split <;> omega
def rowsTo (l : List SetD) (scale : Int) : Int := l.foldl (fun m s => max m (s.depth / scale + 1)) 0
def colsTo (l : List SetD) (scale : Int) : Int := l.foldl (fun m s => max m (s.length / scale + 1)) 0
theorem rowsTo_next {l : List SetD} {k : Nat} {s : SetD} (scale : Int) (h : l[k]? = some s) : rowsTo (l.take (k + 1)) scale = max (rowsTo (l.take k) scale) (s.depth / scale + 1) := by
  rw [List.take_add_one, h]; simp [rowsTo, List.foldl_append]
theorem colsTo_next {l : List SetD} {k : Nat} {s : SetD} (scale : Int) (h : l[k]? = some s) : colsTo (l.take (k + 1)) scale = max (colsTo (l.take k) scale) (s.length / scale + 1) := by
  rw [List.take_add_one, h]; simp [colsTo, List.foldl_append]
theorem quo_bound {n scale : Int} (h0 : 0 ≤ n) (h1 : n ≤ 1048576) (hs : 1 ≤ scale) : 0 ≤ n / scale ∧ n / scale ≤ 1048576 :=
  ⟨Int.ediv_nonneg h0 (by omega), Int.le_trans (Int.ediv_le_self _ h0) h1⟩

set_option maxHeartbeats 1000000 in
theorem given_any (h : HouseD) (hok : h.ok) (scale : Int) (w : World) (B : Nat) (hB : B ≤ w.heap.size) (hat : HouseD.at_ w B h) :
    Calls Tryz.prog 22 #[.agg #[.string h.name, .int .i64 h.height, .slice h.sets.A h.sets.l.length h.sets.cap, .slice h.roofs.A h.roofs.l.length h.roofs.cap], .int .i64 scale] w (Gives w (.int .i64 (givenE h scale))) := by
  obtain ⟨W, hW, hWs, hWb, hWh⟩ := boxed w (.cells #[.string h.name, .int .i64 h.height, .slice h.sets.A h.sets.l.length h.sets.cap, .slice h.roofs.A h.roofs.l.length h.roofs.cap] 25)
  have hc := fun y : After W.heap.size W => HouseD.boxed hWh (by omega) y
  have hbd : ∀ y : After W.heap.size W, Below w.heap.size w y.val := fun y => hWb.trans (y.below.mono (by omega))
  have hv := houseValid_any h hok W W.heap.size (Nat.le_refl _) (hat.to (hWb.mono hB) (by omega))
  have HV := hide hv
  have HW := hide hW
  have HBD := hide hbd
  clear hW hWs hWh hWb hbd hat hok hv
  cases hh : houseOk h
  · have HE := hide (givenE_bad (scale := scale) hh)
    go_enter Tryz.func22, Tryz.ntmps22
    go_wp2_with (go_at_call 37; rw [← HW.out]; refine (Gives.first HV.out).mono ?_; rintro e w' ⟨rfl, y, rfl⟩)
    go_ret
    exact Gives.mk (congrArg (Value.int IntKind.i64) HE.out.symm) (HBD.out _)
  · by_cases hs : 1 ≤ scale ∧ scale ≤ 1048576
    · obtain ⟨hs1, hs2⟩ := hs
      have HE := hide (givenE_ok hh hs1 hs2)
      go_enter Tryz.func22, Tryz.ntmps22
      go_wp2_with (go_at_call 37; rw [← HW.out]; refine (Gives.first HV.out).mono ?_; rintro e w' ⟨rfl, y, rfl⟩)
      go_ret
      exact Gives.mk (congrArg (Value.int IntKind.i64) HE.out.symm) (HBD.out _)
    · have HE := hide (givenE_range hh hs)
      have hs' : scale < 1 ∨ 1048576 < scale := by omega
      clear hs
      rcases hs' with hs | hs
      all_goals
        go_enter Tryz.func22, Tryz.ntmps22
        go_wp2_with (go_at_call 37; rw [← HW.out]; refine (Gives.first HV.out).mono ?_; rintro e w' ⟨rfl, y, rfl⟩)
        go_ret
        exact Gives.mk (congrArg (Value.int IntKind.i64) HE.out.symm) (HBD.out _)
set_option maxHeartbeats 1000000 in
theorem refGiven_any (h : HouseD) (hok : h.ok) (scale : Int) (w : World) (B : Nat) (hB : B ≤ w.heap.size) (hat : HouseD.at_ w B h) :
    Calls Tryz.prog 17 #[.agg #[.string h.name, .int .i64 h.height, .slice h.sets.A h.sets.l.length h.sets.cap, .slice h.roofs.A h.roofs.l.length h.roofs.cap], .int .i64 scale] w (Gives w (.int .i64 (givenE h scale))) := by
  obtain ⟨W, hW, hWs, hWb, hWh⟩ := boxed w (.cells #[.string h.name, .int .i64 h.height, .slice h.sets.A h.sets.l.length h.sets.cap, .slice h.roofs.A h.roofs.l.length h.roofs.cap] 25)
  have hc := fun y : After W.heap.size W => HouseD.boxed hWh (by omega) y
  have hbd : ∀ y : After W.heap.size W, Below w.heap.size w y.val := fun y => hWb.trans (y.below.mono (by omega))
  have hv := refHouse_any h hok W W.heap.size (Nat.le_refl _) (hat.to (hWb.mono hB) (by omega))
  have HV := hide hv
  have HW := hide hW
  have HBD := hide hbd
  clear hW hWs hWh hWb hbd hat hok hv
  cases hh : houseOk h
  · have HE := hide (givenE_bad (scale := scale) hh)
    go_enter Tryz.func17, Tryz.ntmps17
    go_wp2_with (go_at_call 15; rw [← HW.out]; refine (Gives.first HV.out).mono ?_; rintro e w' ⟨rfl, y, rfl⟩)
    go_ret
    exact Gives.mk (congrArg (Value.int IntKind.i64) HE.out.symm) (HBD.out _)
  · by_cases hs : 1 ≤ scale ∧ scale ≤ 1048576
    · obtain ⟨hs1, hs2⟩ := hs
      have HE := hide (givenE_ok hh hs1 hs2)
      go_enter Tryz.func17, Tryz.ntmps17
      go_wp2_with (go_at_call 15; rw [← HW.out]; refine (Gives.first HV.out).mono ?_; rintro e w' ⟨rfl, y, rfl⟩)
      go_ret
      exact Gives.mk (congrArg (Value.int IntKind.i64) HE.out.symm) (HBD.out _)
    · have HE := hide (givenE_range hh hs)
      have hs' : scale < 1 ∨ 1048576 < scale := by omega
      clear hs
      rcases hs' with hs | hs
      all_goals
        go_enter Tryz.func17, Tryz.ntmps17
        go_wp2_with (go_at_call 15; rw [← HW.out]; refine (Gives.first HV.out).mono ?_; rintro e w' ⟨rfl, y, rfl⟩)
        go_ret
        exact Gives.mk (congrArg (Value.int IntKind.i64) HE.out.symm) (HBD.out _)
set_option maxHeartbeats 1000000 in
theorem size_any (h : HouseD) (hz : Sized h.sets.l) (scale : Int) (hs1 : 1 ≤ scale) (hs2 : scale ≤ 1048576) (w : World) (B : Nat) (hB : B ≤ w.heap.size) (hat : HouseD.at_ w B h) :
    Calls Tryz.prog 23 #[.agg #[.string h.name, .int .i64 h.height, .slice h.sets.A h.sets.l.length h.sets.cap, .slice h.roofs.A h.roofs.l.length h.roofs.cap], .int .i64 scale] w (Gives w (.tuple #[.int .i64 (rowsTo h.sets.l scale), .int .i64 (colsTo h.sets.l scale)])) := by
  obtain ⟨W, hW, hWs, hWb, hWh⟩ := boxed w (.cells #[.string h.name, .int .i64 h.height, .slice h.sets.A h.sets.l.length h.sets.cap, .slice h.roofs.A h.roofs.l.length h.roofs.cap] 25)
  have hc := fun y : After W.heap.size W => HouseD.boxed hWh (by omega) y
  have hbd : ∀ y : After W.heap.size W, Below w.heap.size w y.val := fun y => hWb.trans (y.below.mono (by omega))
  have hsl : SlAt W W.heap.size 13 SetD.cells h.sets := hat.sets.to (hWb.mono hB) (by omega)
  have hlc : h.sets.l.length ≤ h.sets.cap := hat.sets.1
  have hm : h.sets.cap ≤ 9223372036854775807 := hat.sets.2.1
  have HSL := hide hsl
  have HW := hide hW
  have HBD := hide hbd
  have HZ := hide hz
  clear hW hWs hWh hWb hbd hat hsl hz
  obtain ⟨name, height, ⟨A, cap, l⟩, roofs⟩ := h
  simp only at *
  go_enter Tryz.func23, Tryz.ntmps23
  go_wp2
  rw [← HW.out]
  go_loopw [4, 5, 11] (fun r c v wr => ∃ k : Nat, v = .int .i64 k ∧ k ≤ l.length ∧ r = .int .i64 (rowsTo (l.take k) scale) ∧ c = .int .i64 (colsTo (l.take k) scale) ∧ ∃ x : After W.heap.size W, wr = x.val) (fun _ _ v _ => l.length - (intOf v).toNat)
  case atStart => exact ⟨0, rfl, Nat.zero_le _, rfl, rfl, After.refl _ _, rfl⟩
  case round =>
    obtain ⟨k, rfl, hk, rfl, rfl, x, rfl⟩ := hrel
    by_cases hlt : k < l.length
    · obtain ⟨b, off, hA, hb, hcell⟩ := HSL.out.2.2 (show 0 < l.length by omega)
      simp only at hA
      subst hA
      have hx : l[k]? = some l[k] := List.getElem?_eq_getElem hlt
      have he := fun x : After W.heap.size W => SetD.elem hx hb hcell x
      obtain ⟨d0, d1, l0, l1⟩ := HZ.out l[k] (List.getElem_mem hlt)
      obtain ⟨q0, q1⟩ := quo_bound d0 d1 hs1
      obtain ⟨p0, p1⟩ := quo_bound (show 0 ≤ l[k].length by omega) l1 hs1
      have HR := hide (rowsTo_next scale hx)
      have HCL := hide (colsTo_next scale hx)
      clear hcell hx
      obtain ⟨W', hW', hWs', hWb', hWh'⟩ := boxed x.val (.cells #[.string l[k].name, .int .i64 l[k].depth, .int .i64 l[k].low, .int .i64 l[k].high, .int .i64 l[k].length, .slice l[k].lines.A l[k].lines.l.length l[k].lines.cap, .int .i64 l[k].pipe, .int .i64 l[k].arbor, .int .i64 l[k].purchase, .int .i64 l[k].most, .int .i64 l[k].brake, .slice l[k].items.A l[k].items.l.length l[k].items.cap, .slice l[k].bricks.A l[k].bricks.l.length l[k].bricks.cap] 49)
      have hcS := fun y : After W'.heap.size W' => SetD.boxed hWh' (by omega) y
      have hb2 : ∀ y : After W'.heap.size W', Below W.heap.size W y.val := fun y => x.below.trans ((hWb'.mono x.size).trans (y.below.mono (by have := x.size; omega)))
      have HW' := hide hW'
      have HB2 := hide hb2
      clear hW' hWs' hWh' hWb' hb2
      go_wp2
      rw [← HW'.out]
      refine wp_region_first W'.heap.size (by kernel_rfl) (by kernel_rfl) ?_
      repeat (go_big_quiet_step (fail))
      refine wpQuiet_nil ?_
      intro z
      go_wp2
      exact ⟨⟨k + 1, by go_num, by omega, by rw [HR.out, ifmax], by rw [HCL.out, ifmax], ⟨_, HB2.out _⟩, rfl⟩, by simp [intOf]; omega⟩
    · obtain rfl : k = l.length := by omega
      go_wp2
      go_ret2
      exact Gives.mk (by simp) (HBD.out _)
set_option maxHeartbeats 1000000 in
theorem refSize_any (h : HouseD) (hz : Sized h.sets.l) (scale : Int) (hs1 : 1 ≤ scale) (hs2 : scale ≤ 1048576) (w : World) (B : Nat) (hB : B ≤ w.heap.size) (hat : HouseD.at_ w B h) :
    Calls Tryz.prog 18 #[.agg #[.string h.name, .int .i64 h.height, .slice h.sets.A h.sets.l.length h.sets.cap, .slice h.roofs.A h.roofs.l.length h.roofs.cap], .int .i64 scale] w (Gives w (.tuple #[.int .i64 (rowsTo h.sets.l scale), .int .i64 (colsTo h.sets.l scale)])) := by
  obtain ⟨W, hW, hWs, hWb, hWh⟩ := boxed w (.cells #[.string h.name, .int .i64 h.height, .slice h.sets.A h.sets.l.length h.sets.cap, .slice h.roofs.A h.roofs.l.length h.roofs.cap] 25)
  have hc := fun y : After W.heap.size W => HouseD.boxed hWh (by omega) y
  have hbd : ∀ y : After W.heap.size W, Below w.heap.size w y.val := fun y => hWb.trans (y.below.mono (by omega))
  have hsl : SlAt W W.heap.size 13 SetD.cells h.sets := hat.sets.to (hWb.mono hB) (by omega)
  have hlc : h.sets.l.length ≤ h.sets.cap := hat.sets.1
  have hm : h.sets.cap ≤ 9223372036854775807 := hat.sets.2.1
  have HSL := hide hsl
  have HW := hide hW
  have HBD := hide hbd
  have HZ := hide hz
  clear hW hWs hWh hWb hbd hat hsl hz
  obtain ⟨name, height, ⟨A, cap, l⟩, roofs⟩ := h
  simp only at *
  go_enter Tryz.func18, Tryz.ntmps18
  go_wp2
  rw [← HW.out]
  go_loopw [6, 7, 8] (fun r c v wr => ∃ k : Nat, v = .int .i64 k ∧ k ≤ l.length ∧ r = .int .i64 (rowsTo (l.take k) scale) ∧ c = .int .i64 (colsTo (l.take k) scale) ∧ ∃ x : After W.heap.size W, wr = x.val) (fun _ _ v _ => l.length - (intOf v).toNat)
  case atStart => exact ⟨0, rfl, Nat.zero_le _, rfl, rfl, After.refl _ _, rfl⟩
  case round =>
    obtain ⟨k, rfl, hk, rfl, rfl, x, rfl⟩ := hrel
    by_cases hlt : k < l.length
    · obtain ⟨b, off, hA, hb, hcell⟩ := HSL.out.2.2 (show 0 < l.length by omega)
      simp only at hA
      subst hA
      have hx : l[k]? = some l[k] := List.getElem?_eq_getElem hlt
      have he := fun x : After W.heap.size W => SetD.elem hx hb hcell x
      obtain ⟨d0, d1, l0, l1⟩ := HZ.out l[k] (List.getElem_mem hlt)
      obtain ⟨q0, q1⟩ := quo_bound d0 d1 hs1
      obtain ⟨p0, p1⟩ := quo_bound (show 0 ≤ l[k].length by omega) l1 hs1
      have HR := hide (rowsTo_next scale hx)
      have HCL := hide (colsTo_next scale hx)
      clear hcell hx
      by_cases g1 : rowsTo (l.take k) scale < l[k].depth / scale + 1
      all_goals by_cases g2 : colsTo (l.take k) scale < l[k].length / scale + 1
      all_goals
        go_wp2
        exact ⟨⟨k + 1, by go_num, by omega, by rw [HR.out, ← ifmax]; simp only [g1, if_true, if_false], by rw [HCL.out, ← ifmax]; simp only [g2, if_true, if_false], _, rfl⟩, by simp [intOf]; omega⟩
    · obtain rfl : k = l.length := by omega
      go_wp2
      go_ret2
      exact Gives.mk (by simp) (HBD.out _)
/-- what the plan's size is, with the error number -/
def sizeE (h : HouseD) (scale : Int) : Value := if givenE h scale = 0 then .tuple #[.int .i64 (rowsTo h.sets.l scale), .int .i64 (colsTo h.sets.l scale), .int .i64 0] else .tuple #[.int .i64 0, .int .i64 0, .int .i64 (givenE h scale)]
set_option maxHeartbeats 1000000 in
theorem planSize_any (h : HouseD) (hok : h.ok) (scale : Int) (w : World) (B : Nat) (hB : B ≤ w.heap.size) (hat : HouseD.at_ w B h) :
    Calls Tryz.prog 9 #[.agg #[.string h.name, .int .i64 h.height, .slice h.sets.A h.sets.l.length h.sets.cap, .slice h.roofs.A h.roofs.l.length h.roofs.cap], .int .i64 scale] w (Gives w (sizeE h scale)) := by
  obtain ⟨W, hW, hWs, hWb, hWh⟩ := boxed w (.cells #[.string h.name, .int .i64 h.height, .slice h.sets.A h.sets.l.length h.sets.cap, .slice h.roofs.A h.roofs.l.length h.roofs.cap] 25)
  have hc := fun y : After W.heap.size W => HouseD.boxed hWh (by omega) y
  have hbd : ∀ y : After W.heap.size W, Below w.heap.size w y.val := fun y => hWb.trans (y.below.mono (by omega))
  have hatW : HouseD.at_ W W.heap.size h := hat.to (hWb.mono hB) (by omega)
  have hg := given_any h hok scale W W.heap.size (Nat.le_refl _) hatW
  have hsz : givenE h scale = 0 → ∀ y : After W.heap.size W, Calls Tryz.prog 23 #[.agg #[.string h.name, .int .i64 h.height, .slice h.sets.A h.sets.l.length h.sets.cap, .slice h.roofs.A h.roofs.l.length h.roofs.cap], .int .i64 scale] y.val fun e w'' => e = .returned (.tuple #[.int .i64 (rowsTo h.sets.l scale), .int .i64 (colsTo h.sets.l scale)]) ∧ ∃ z : After W.heap.size W, w'' = z.val := fun h0 y => by
    obtain ⟨a, b, c⟩ := givenE_zero h0
    exact Gives.after (Nat.le_refl _) (size_any h (sized_of_ok a) scale b c y.val W.heap.size y.size (hatW.to y.below (Nat.le_refl _)))
  have HG := hide hg
  have HS := hide hsz
  have HW := hide hW
  have HBD := hide hbd
  clear hW hWs hWh hWb hbd hat hatW hok hg hsz
  by_cases h0 : givenE h scale = 0
  · have HE := hide (show sizeE h scale = _ from if_pos h0)
    have h1 : (givenE h scale != 0) = false := by rw [h0]; rfl
    have H0 := hide h0
    clear h0
    go_enter Tryz.func9, Tryz.ntmps9
    go_wp2_with (first
      | (go_at_call 22; rw [← HW.out]; refine (Gives.first HG.out).mono ?_; rintro e w' ⟨rfl, y, rfl⟩)
      | (go_at_call 23; refine (HS.out H0.out _).mono ?_; rintro e w' ⟨rfl, y, rfl⟩))
    go_ret3
    exact Gives.mk HE.out.symm (HBD.out _)
  · have HE := hide (show sizeE h scale = _ from if_neg h0)
    have h1 : (givenE h scale != 0) = true := by rw [bne_iff_ne]; exact h0
    have H0 := hide h0
    clear h0
    go_enter Tryz.func9, Tryz.ntmps9
    go_wp2_with (go_at_call 22; rw [← HW.out]; refine (Gives.first HG.out).mono ?_; rintro e w' ⟨rfl, y, rfl⟩)
    go_ret3
    exact Gives.mk HE.out.symm (HBD.out _)
set_option maxHeartbeats 1000000 in
theorem large_any (h : HouseD) (w : World) (B : Nat) (hB : B ≤ w.heap.size) (hat : HouseD.at_ w B h) :
    Calls Tryz.prog 6 #[.agg #[.string h.name, .int .i64 h.height, .slice h.sets.A h.sets.l.length h.sets.cap, .slice h.roofs.A h.roofs.l.length h.roofs.cap]] w (Gives w (.bool (!houseSmall h 5))) := by
  obtain ⟨W, hW, hWs, hWb, hWh⟩ := boxed w (.cells #[.string h.name, .int .i64 h.height, .slice h.sets.A h.sets.l.length h.sets.cap, .slice h.roofs.A h.roofs.l.length h.roofs.cap] 25)
  have hbd : ∀ y : After W.heap.size W, Below w.heap.size w y.val := fun y => hWb.trans (y.below.mono (by omega))
  have hg := refHouseSmall_any h 5 (by omega) (by omega) W W.heap.size (Nat.le_refl _) (hat.to (hWb.mono hB) (by omega))
  have HG := hide hg
  have HW := hide hW
  have HBD := hide hbd
  clear hW hWs hWh hWb hbd hat hg
  go_enter Tryz.func6, Tryz.ntmps6
  go_wp2_with (go_at_call 21; rw [← HW.out]; refine (Gives.first HG.out).mono ?_; rintro e w' ⟨rfl, y, rfl⟩)
  go_ret
  exact Gives.mk rfl (HBD.out _)
def coarseB (h : HouseD) (scale : Int) : Bool := if givenE h scale = 0 then (decide (rowsTo h.sets.l scale ≤ 60) && decide (colsTo h.sets.l scale ≤ 60) || decide (400 < rowsTo h.sets.l scale) || decide (400 < colsTo h.sets.l scale)) else true
set_option maxHeartbeats 1000000 in
theorem coarse_any (h : HouseD) (hok : h.ok) (scale : Int) (w : World) (B : Nat) (hB : B ≤ w.heap.size) (hat : HouseD.at_ w B h) :
    Calls Tryz.prog 7 #[.agg #[.string h.name, .int .i64 h.height, .slice h.sets.A h.sets.l.length h.sets.cap, .slice h.roofs.A h.roofs.l.length h.roofs.cap], .int .i64 scale] w (Gives w (.bool (coarseB h scale))) := by
  obtain ⟨W, hW, hWs, hWb, hWh⟩ := boxed w (.cells #[.string h.name, .int .i64 h.height, .slice h.sets.A h.sets.l.length h.sets.cap, .slice h.roofs.A h.roofs.l.length h.roofs.cap] 25)
  have hc := fun y : After W.heap.size W => HouseD.boxed hWh (by omega) y
  have hbd : ∀ y : After W.heap.size W, Below w.heap.size w y.val := fun y => hWb.trans (y.below.mono (by omega))
  have hatW : HouseD.at_ W W.heap.size h := hat.to (hWb.mono hB) (by omega)
  have hg := refGiven_any h hok scale W W.heap.size (Nat.le_refl _) hatW
  have hsz : givenE h scale = 0 → ∀ y : After W.heap.size W, Calls Tryz.prog 18 #[.agg #[.string h.name, .int .i64 h.height, .slice h.sets.A h.sets.l.length h.sets.cap, .slice h.roofs.A h.roofs.l.length h.roofs.cap], .int .i64 scale] y.val fun e w'' => e = .returned (.tuple #[.int .i64 (rowsTo h.sets.l scale), .int .i64 (colsTo h.sets.l scale)]) ∧ ∃ z : After W.heap.size W, w'' = z.val := fun h0 y => by
    obtain ⟨a, b, c⟩ := givenE_zero h0
    exact Gives.after (Nat.le_refl _) (refSize_any h (sized_of_ok a) scale b c y.val W.heap.size y.size (hatW.to y.below (Nat.le_refl _)))
  have HG := hide hg
  have HS := hide hsz
  have HW := hide hW
  have HBD := hide hbd
  clear hW hWs hWh hWb hbd hat hatW hok hg hsz
  by_cases h0 : givenE h scale = 0
  · have HE := hide (show coarseB h scale = _ from if_pos h0)
    have h1 : (givenE h scale != 0) = false := by rw [h0]; rfl
    have H0 := hide h0
    clear h0
    generalize rowsTo h.sets.l scale = r at *
    generalize colsTo h.sets.l scale = c at *
    go_enter Tryz.func7, Tryz.ntmps7
    go_wp2_with (first
      | (go_at_call 17; rw [← HW.out]; refine (Gives.first HG.out).mono ?_; rintro e w' ⟨rfl, y, rfl⟩)
      | (go_at_call 18; refine (HS.out H0.out _).mono ?_; rintro e w' ⟨rfl, y, rfl⟩))
    all_goals
      go_ret
      exact Gives.mk (congrArg Value.bool (by rw [HE.out, Bool.eq_iff_iff]; simp; try omega)) (HBD.out _)
  · have HE := hide (show coarseB h scale = _ from if_neg h0)
    have h1 : (givenE h scale != 0) = true := by rw [bne_iff_ne]; exact h0
    have H0 := hide h0
    clear h0
    go_enter Tryz.func7, Tryz.ntmps7
    go_wp2_with (go_at_call 17; rw [← HW.out]; refine (Gives.first HG.out).mono ?_; rintro e w' ⟨rfl, y, rfl⟩)
    go_ret
    exact Gives.mk (congrArg Value.bool HE.out.symm) (HBD.out _)
end Go.Proofs.YtliehhnnfpkciaaGreatDoor
