/- The section's size, rows and columns: section.Size, Row, Column, house.Find; loftblockref32.Size, Given, Row. -/
import Derived.Test.YtliehhnnfpkciaaDoorSecBegun
namespace Go.Proofs.YtliehhnnfpkciaaDoor
open Go.RowKit

theorem below_drewN {B : Nat} {a w : World} (h : Below B a w) (n : Nat) : Below B a (w.drewN n) := ⟨h.os, h.tape, h.output, h.size, h.block⟩
theorem ediv_bd {z b : Int} (h1 : -2097152 ≤ z) (h2 : z ≤ 2097152) (hb : 1 ≤ b) : -2097152 ≤ z / b ∧ z / b ≤ 2097152 :=
  ⟨Int.le_ediv_of_mul_le (by omega) (by omega), Int.ediv_le_of_le_mul (by omega) (by omega)⟩
theorem secE_zero {h : HouseD} {scale : Int} (h0 : secE h scale = 0) : givenE h scale = 0 ∧ secRows h scale ≤ 200 ∧ secCols h scale ≤ 200 := by
  unfold secE at h0
  split at h0
  · split at h0
    · split at h0
      · rename_i a b c; exact ⟨givenE_ok a b.1 b.2, c⟩
      · omega
    · omega
  · omega
theorem secE_given {h : HouseD} {scale : Int} (h0 : givenE h scale ≠ 0) : secE h scale = givenE h scale := by
  unfold secE
  unfold givenE at h0 ⊢
  split
  · split
    · rename_i a b; rw [if_pos a, if_pos b] at h0; exact absurd rfl h0
    · rfl
  · rfl
theorem secE_full {h : HouseD} {scale : Int} (h0 : givenE h scale = 0) (hf : ¬ (secRows h scale ≤ 200 ∧ secCols h scale ≤ 200)) : secE h scale = 4 := by
  obtain ⟨a, b, c⟩ := givenE_zero h0
  rw [secE, if_pos a, if_pos ⟨b, c⟩, if_neg hf]
theorem secE_ok {h : HouseD} {scale : Int} (h0 : givenE h scale = 0) (hf : secRows h scale ≤ 200 ∧ secCols h scale ≤ 200) : secE h scale = 0 := by
  obtain ⟨a, b, c⟩ := givenE_zero h0
  rw [secE, if_pos a, if_pos ⟨b, c⟩, if_pos hf]
set_option maxHeartbeats 1000000 in
theorem picRow_any (pb : Nat) (scale R C z : Int) (cs : Value) (hs1 : 1 ≤ scale) (hs2 : scale ≤ 1048576) (hz1 : -2097152 ≤ z) (hz2 : z ≤ 2097152) (hR1 : 1 ≤ R) (hR2 : R ≤ 2097152) (w : World) (hP : PicBox pb scale R C cs w) :
    Calls Tryd.prog 53 #[.pointer (some ⟨pb, 0, none⟩), .int .i64 z] w (Gives w (.int .i64 (R - 1 - z / scale))) := by
  obtain ⟨e1, e2⟩ := ediv_bd hz1 hz2 hs1
  have hlt := hP.lt
  have c0 := fun y : After w.heap.size w => (hP.below y.below hlt).cell0
  have c1 := fun y : After w.heap.size w => (hP.below y.below hlt).cell1
  clear hP
  go_enter Tryd.func53, Tryd.ntmps53
  go_wp2_with fail
  refine wp_region_first w.heap.size (by kernel_rfl) (by kernel_rfl) ?_
  repeat (go_big_quiet_step ((go_at_call 54; exact Gives.after (Nat.le_refl _) (down_any _ _ hz1 hz2 hs1 hs2 _))))
  refine wpQuiet_nil ?_
  intro y
  go_wp2
  go_ret
  exact Gives.mk rfl y.below
theorem begun_ok (h : HouseD) (hok : h.ok) (scale : Int) (h0 : secE h scale = 0) (w : World) (B : Nat) (hB : B ≤ w.heap.size) (hat : HouseD.at_ w B h) :
    Calls Tryd.prog 50 #[.agg #[.string h.name, .int .i64 h.height, .slice h.sets.A h.sets.l.length h.sets.cap, .slice h.roofs.A h.roofs.l.length h.roofs.cap], .int .i64 scale] w (Begun h scale w) := by
  obtain ⟨a, b⟩ := secE_zero h0
  have := begun_any h hok scale a w B hB hat
  simpa only [if_pos b] using this
theorem begun_no (h : HouseD) (hok : h.ok) (scale : Int) (h0 : secE h scale ≠ 0) (w : World) (B : Nat) (hB : B ≤ w.heap.size) (hat : HouseD.at_ w B h) :
    Calls Tryd.prog 50 #[.agg #[.string h.name, .int .i64 h.height, .slice h.sets.A h.sets.l.length h.sets.cap, .slice h.roofs.A h.roofs.l.length h.roofs.cap], .int .i64 scale] w (Gives w (.tuple #[.pointer none, .int .i64 (secE h scale)])) := by
  by_cases hg : givenE h scale = 0
  · by_cases hf : secRows h scale ≤ 200 ∧ secCols h scale ≤ 200
    · exact absurd (secE_ok hg hf) h0
    · have := begun_any h hok scale hg w B hB hat
      simp only [if_neg hf] at this
      rw [secE_full hg hf]
      exact this
  · rw [secE_given hg]
    exact begun_bad h hok scale hg w B hB hat
theorem rows_bound {h : HouseD} {scale : Int} (h0 : secE h scale = 0) : 1 ≤ secRows h scale ∧ secRows h scale ≤ 200 ∧ 1 ≤ secCols h scale ∧ secCols h scale ≤ 200 := by
  obtain ⟨a, b, c⟩ := secE_zero h0
  obtain ⟨hh, hs1, hs2⟩ := givenE_zero a
  obtain ⟨t1, t2⟩ := height_of_ok hh
  have := (farTo_bound (secSet_of_ok hh) hs1).1
  have : 0 ≤ h.height / scale := Int.ediv_nonneg (by omega) (by omega)
  unfold secRows secCols at *
  omega
def secSizeE (h : HouseD) (scale : Int) : Value := if secE h scale = 0 then .tuple #[.int .i64 (secRows h scale), .int .i64 (secCols h scale), .int .i64 0] else .tuple #[.int .i64 0, .int .i64 0, .int .i64 (secE h scale)]
set_option maxHeartbeats 1000000 in
theorem secSize_any (h : HouseD) (hok : h.ok) (scale : Int) (w : World) (B : Nat) (hB : B ≤ w.heap.size) (hat : HouseD.at_ w B h) :
    Calls Tryd.prog 20 #[.agg #[.string h.name, .int .i64 h.height, .slice h.sets.A h.sets.l.length h.sets.cap, .slice h.roofs.A h.roofs.l.length h.roofs.cap], .int .i64 scale] w (Gives w (secSizeE h scale)) := by
  obtain ⟨W, hW, hWs, hWb, hWh⟩ := boxed w (.cells #[.string h.name, .int .i64 h.height, .slice h.sets.A h.sets.l.length h.sets.cap, .slice h.roofs.A h.roofs.l.length h.roofs.cap] 25)
  have hbd : ∀ v : World, Below W.heap.size W v → Below w.heap.size w v := fun v hv => hWb.trans (hv.mono (by omega))
  have hatW : HouseD.at_ W W.heap.size h := hat.to (hWb.mono hB) (by omega)
  have HW := hide hW
  have HBD := hide hbd
  clear hW hWs hWh hWb hbd hat
  by_cases h0 : secE h scale = 0
  · have HG := hide (begun_ok h hok scale h0 W W.heap.size (Nat.le_refl _) hatW)
    have HE := hide (show secSizeE h scale = _ from if_pos h0)
    clear hok h0 hatW
    go_enter Tryd.func20, Tryd.ntmps20
    go_wp2_with fail
    rw [← HW.out]
    refine HG.out.mono ?_
    rintro e w' ⟨hb, pb, hpb, rfl, hP⟩
    have HB := hide hb
    have c1 := hP.cell1
    have c2 := hP.cell2
    clear hb hP HG
    generalize secRows h scale = R at *
    generalize secCols h scale = C at *
    go_wp2_with fail
    go_quiet (fail)
    go_wp2
    go_ret3
    exact Gives.mk HE.out.symm (HBD.out _ (below_drewN HB.out _))
  · have HG := hide (begun_no h hok scale h0 W W.heap.size (Nat.le_refl _) hatW)
    have HE := hide (show secSizeE h scale = _ from if_neg h0)
    have h1 : (secE h scale != 0) = true := by rw [bne_iff_ne]; exact h0
    clear hok h0 hatW
    go_enter Tryd.func20, Tryd.ntmps20
    go_wp2_with fail
    rw [← HW.out]
    refine HG.out.mono ?_
    rintro e w' ⟨rfl, hb⟩
    have HB := hide hb
    clear hb
    go_wp2
    go_ret3
    exact Gives.mk HE.out.symm (HBD.out _ HB.out)
def secRowE (h : HouseD) (z scale : Int) : Value := if secE h scale = 0 then (if 0 ≤ z ∧ z ≤ h.height then .tuple #[.int .i64 (h.height / scale - z / scale), .int .i64 0] else .tuple #[.int .i64 0, .int .i64 2]) else .tuple #[.int .i64 0, .int .i64 (secE h scale)]
set_option maxHeartbeats 1000000 in
theorem secRow_any (h : HouseD) (hok : h.ok) (z scale : Int) (w : World) (B : Nat) (hB : B ≤ w.heap.size) (hat : HouseD.at_ w B h) :
    Calls Tryd.prog 24 #[.agg #[.string h.name, .int .i64 h.height, .slice h.sets.A h.sets.l.length h.sets.cap, .slice h.roofs.A h.roofs.l.length h.roofs.cap], .int .i64 z, .int .i64 scale] w (Gives w (secRowE h z scale)) := by
  obtain ⟨W, hW, hWs, hWb, hWh⟩ := boxed w (.cells #[.string h.name, .int .i64 h.height, .slice h.sets.A h.sets.l.length h.sets.cap, .slice h.roofs.A h.roofs.l.length h.roofs.cap] 25)
  have hc := fun y : After W.heap.size W => HouseD.boxed hWh (by omega) y
  have hbd : ∀ v : World, Below W.heap.size W v → Below w.heap.size w v := fun v hv => hWb.trans (hv.mono (by omega))
  have hatW : HouseD.at_ W W.heap.size h := hat.to (hWb.mono hB) (by omega)
  have HW := hide hW
  have HBD := hide hbd
  clear hW hWs hWh hWb hbd hat
  by_cases h0 : secE h scale = 0
  · have HG := hide (begun_ok h hok scale h0 W W.heap.size (Nat.le_refl _) hatW)
    obtain ⟨R1, R2, _, _⟩ := rows_bound h0
    obtain ⟨hg, _⟩ := secE_zero h0
    obtain ⟨hh, hs1, hs2⟩ := givenE_zero hg
    obtain ⟨t1, t2⟩ := height_of_ok hh
    have HE := hide (show secRowE h z scale = _ from if_pos h0)
    have HR := hide (show secRows h scale = h.height / scale + 1 from rfl)
    clear hok h0 hatW hg hh
    by_cases hz : 0 ≤ z ∧ z ≤ h.height
    · obtain ⟨z0, z1⟩ := hz
      go_enter Tryd.func24, Tryd.ntmps24
      go_wp2_with fail
      rw [← HW.out]
      refine HG.out.mono ?_
      rintro e w' ⟨hb, pb, hpb, rfl, hP⟩
      obtain ⟨x, rfl⟩ : ∃ x : After W.heap.size W, w' = x.val := After.exists_iff hb
      have HC := hide (picRow_any pb scale (secRows h scale) (secCols h scale) z (.slice none 0 0) hs1 hs2 (by omega) (by omega) R1 (by omega) x.val hP)
      have HB := hide hb
      clear hb hP HG
      generalize secRows h scale = R at *
      go_wp2_with (go_at_call 53; refine HC.out.mono ?_; rintro e w2 ⟨rfl, hb2⟩)
      go_ret2
      exact Gives.mk (by rw [HE.out, if_pos ⟨z0, z1⟩]; simp [HR.out]) (HBD.out _ (HB.out.trans (hb2.mono x.size)))
    · have hz' : z < 0 ∨ (¬ z < 0 ∧ h.height < z) := by omega
      have HN := hide hz
      clear hz
      rcases hz' with hz | ⟨hz, hz2⟩
      all_goals
        go_enter Tryd.func24, Tryd.ntmps24
        go_wp2_with fail
        rw [← HW.out]
        refine HG.out.mono ?_
        rintro e w' ⟨hb, pb, hpb, rfl, hP⟩
        obtain ⟨x, rfl⟩ : ∃ x : After W.heap.size W, w' = x.val := After.exists_iff hb
        have HB := hide hb
        clear hb hP
        go_wp2
        go_ret2
        exact Gives.mk (by rw [HE.out, if_neg HN.out]; rfl) (HBD.out _ HB.out)
  · have HG := hide (begun_no h hok scale h0 W W.heap.size (Nat.le_refl _) hatW)
    have HE := hide (show secRowE h z scale = _ from if_neg h0)
    have h1 : (secE h scale != 0) = true := by rw [bne_iff_ne]; exact h0
    clear hok h0 hatW
    go_enter Tryd.func24, Tryd.ntmps24
    go_wp2_with fail
    rw [← HW.out]
    refine HG.out.mono ?_
    rintro e w' ⟨rfl, hb⟩
    have HB := hide hb
    clear hb
    go_wp2
    go_ret2
    exact Gives.mk HE.out.symm (HBD.out _ HB.out)
set_option maxHeartbeats 1000000 in
theorem houseFind_any (h : HouseD) (hok : h.ok) (hh : houseOk h = true) (nm : ByteArray) (w : World) (B : Nat) (hB : B ≤ w.heap.size) (hat : HouseD.at_ w B h) :
    Calls Tryd.prog 61 #[.agg #[.string h.name, .int .i64 h.height, .slice h.sets.A h.sets.l.length h.sets.cap, .slice h.roofs.A h.roofs.l.length h.roofs.cap], .string nm] w (Gives w (if findSet h.sets.l nm < 0 then .tuple #[.int .i64 0, .int .i64 9] else .tuple #[.int .i64 (findSet h.sets.l nm), .int .i64 0])) := by
  obtain ⟨W, hW, hWs, hWb, hWh⟩ := boxed w (.cells #[.string h.name, .int .i64 h.height, .slice h.sets.A h.sets.l.length h.sets.cap, .slice h.roofs.A h.roofs.l.length h.roofs.cap] 25)
  have hc := fun y : After W.heap.size W => HouseD.boxed hWh (by omega) y
  have hbd : ∀ y : After W.heap.size W, Below w.heap.size w y.val := fun y => hWb.trans (y.below.mono (by omega))
  have hatW : HouseD.at_ W W.heap.size h := hat.to (hWb.mono hB) (by omega)
  have hv := houseValid_any h hok W W.heap.size (Nat.le_refl _) hatW
  rw [hh] at hv
  have HF := hide fun y : After W.heap.size W => Gives.after (x := y) (Nat.le_refl _) (find_any h nm y.val W.heap.size y.size (hatW.to y.below (Nat.le_refl _)))
  have HV := hide hv
  have HW := hide hW
  have HBD := hide hbd
  clear hW hWs hWh hWb hbd hat hatW hok hv hh
  generalize findSet h.sets.l nm = f at *
  by_cases hf : f < 0
  all_goals
    go_enter Tryd.func61, Tryd.ntmps61
    go_wp2_with (first
      | (go_at_call 38; rw [← HW.out]; refine (Gives.first HV.out).mono ?_; rintro e w' ⟨rfl, y, rfl⟩)
      | (go_at_call 74; refine (HF.out _).mono ?_; rintro e w' ⟨rfl, y, rfl⟩))
    go_ret2
    exact Gives.mk (by rfl) (HBD.out _)
def depthAt (l : List SetD) (k : Nat) : Int := (l.map (·.depth)).getD k 0
theorem depthAt_of {l : List SetD} {k : Nat} {s : SetD} (h : l[k]? = some s) : depthAt l k = s.depth := by simp [depthAt, h]
theorem findSet_lt {l : List SetD} {nm : ByteArray} (h : ¬ findSet l nm < 0) : ∃ (k : Nat) (s : SetD), findSet l nm = (k : Int) ∧ l[k]? = some s ∧ sameName s.name nm = true := by
  by_cases ha : ∃ (j : Nat) (y : SetD), l[j]? = some y ∧ sameName y.name nm = true
  · have ⟨k, hk, hmin⟩ : ∃ k : Nat, (∃ y : SetD, l[k]? = some y ∧ sameName y.name nm = true) ∧ ∀ j, j < k → ¬ ∃ y : SetD, l[j]? = some y ∧ sameName y.name nm = true := by
      obtain ⟨j, hj⟩ := ha
      induction j using Nat.strongRecOn with
      | _ j ih =>
        by_cases hl : ∃ i : Nat, i < j ∧ ∃ y : SetD, l[i]? = some y ∧ sameName y.name nm = true
        · obtain ⟨i, hi, hy⟩ := hl
          exact ih i hi hy
        · exact ⟨j, hj, fun i hi hy => hl ⟨i, hi, hy⟩⟩
    obtain ⟨y, hy, hp⟩ := hk
    refine ⟨k, y, findSet_some hy hp fun j z hj hz => ?_, hy, hp⟩
    cases hs : sameName z.name nm
    · rfl
    · exact absurd ⟨z, hz, hs⟩ (hmin j hj)
  · have := findSet_none (l := l) (nm := nm) fun j y _ hy => by
      cases hs : sameName y.name nm
      · rfl
      · exact absurd ⟨j, y, hy, hs⟩ ha
    omega
def secColE (h : HouseD) (nm : ByteArray) (scale : Int) : Value := if secE h scale = 0 then (if findSet h.sets.l nm < 0 then .tuple #[.int .i64 0, .int .i64 9] else .tuple #[.int .i64 (depthAt h.sets.l (findSet h.sets.l nm).toNat / scale), .int .i64 0]) else .tuple #[.int .i64 0, .int .i64 (secE h scale)]
set_option maxHeartbeats 1000000 in
theorem secCol_any (h : HouseD) (hok : h.ok) (nm : ByteArray) (scale : Int) (w : World) (B : Nat) (hB : B ≤ w.heap.size) (hat : HouseD.at_ w B h) :
    Calls Tryd.prog 25 #[.agg #[.string h.name, .int .i64 h.height, .slice h.sets.A h.sets.l.length h.sets.cap, .slice h.roofs.A h.roofs.l.length h.roofs.cap], .string nm, .int .i64 scale] w (Gives w (secColE h nm scale)) := by
  obtain ⟨W, hW, hWs, hWb, hWh⟩ := boxed w (.cells #[.string h.name, .int .i64 h.height, .slice h.sets.A h.sets.l.length h.sets.cap, .slice h.roofs.A h.roofs.l.length h.roofs.cap] 25)
  have hc := fun y : After W.heap.size W => HouseD.boxed hWh (by omega) y
  have hbd : ∀ v : World, Below W.heap.size W v → Below w.heap.size w v := fun v hv => hWb.trans (hv.mono (by omega))
  have hatW : HouseD.at_ W W.heap.size h := hat.to (hWb.mono hB) (by omega)
  have HW := hide hW
  have HBD := hide hbd
  clear hW hWs hWh hWb hbd hat
  by_cases h0 : secE h scale = 0
  · have HG := hide (begun_ok h hok scale h0 W W.heap.size (Nat.le_refl _) hatW)
    obtain ⟨hg, _⟩ := secE_zero h0
    obtain ⟨hh, hs1, hs2⟩ := givenE_zero hg
    have hz := secSet_of_ok hh
    have HE := hide (show secColE h nm scale = _ from if_pos h0)
    have HF := hide fun y : After W.heap.size W => Gives.after (x := y) (Nat.le_refl _) (houseFind_any h hok hh nm y.val W.heap.size y.size (hatW.to y.below (Nat.le_refl _)))
    by_cases hf : findSet h.sets.l nm < 0
    · have HFN := hide hf
      simp only [if_pos hf] at HF
      clear hok h0 hatW hg hh hz hf
      go_enter Tryd.func25, Tryd.ntmps25
      go_wp2_with fail
      rw [← HW.out]
      refine HG.out.mono ?_
      rintro e w' ⟨hb, pb, hpb, rfl, hP⟩
      obtain ⟨x, rfl⟩ : ∃ x : After W.heap.size W, w' = x.val := After.exists_iff hb
      clear hb hP
      go_wp2_with (go_at_call 61; refine (HF.out _).mono ?_; rintro e w2 ⟨rfl, y, rfl⟩)
      go_ret2
      exact Gives.mk (by rw [HE.out, if_pos HFN.out]; rfl) (HBD.out _ y.below)
    · obtain ⟨k, s, hk, hks, _⟩ := findSet_lt hf
      have HFN := hide hf
      simp only [if_neg hf] at HF
      rw [hk] at HF
      have hlc : h.sets.l.length ≤ h.sets.cap := hatW.sets.1
      have hm : h.sets.cap ≤ 9223372036854775807 := hatW.sets.2.1
      have hkl : k < h.sets.l.length := (List.getElem?_eq_some_iff.1 hks).1
      obtain ⟨b, off, hA, hbk, hcell⟩ := hatW.sets.2.2 (by omega)
      have hdp : ∀ x : After W.heap.size W, x.val.cell? ⟨b, off + k * 13 + 1, none⟩ = some (.int .i64 s.depth) := fun x => (SetD.elem hks hbk hcell x).2.1
      have hsm := List.mem_of_getElem? hks
      have d0 := (hz s hsm).d0
      have d1 := (hz s hsm).d1
      obtain ⟨e0, e1⟩ := quo_bound d0 d1 hs1
      have HRES := hide (show secColE h nm scale = .tuple #[.int .i64 (s.depth / scale), .int .i64 0] by rw [HE.out, if_neg hf, hk, Int.toNat_natCast, depthAt_of hks])
      have k0 : (0 : Int) ≤ (k : Int) := by omega
      have k1 : (k : Int) < (h.sets.l.length : Int) := by omega
      clear hok h0 hatW hg hh hz hf hcell hks hk hsm HE HFN
      obtain ⟨name, height, ⟨A, cap, l⟩, roofs⟩ := h
      simp only at *
      subst hA
      go_enter Tryd.func25, Tryd.ntmps25
      go_wp2_with fail
      rw [← HW.out]
      refine HG.out.mono ?_
      rintro e w' ⟨hb, pb, hpb, rfl, hP⟩
      obtain ⟨x, rfl⟩ : ∃ x : After W.heap.size W, w' = x.val := After.exists_iff hb
      clear hb hP
      go_wp2_with (go_at_call 61; refine (HF.out _).mono ?_; rintro e w2 ⟨rfl, y, rfl⟩)
      go_ret2
      exact Gives.mk HRES.out.symm (HBD.out _ y.below)
  · have HG := hide (begun_no h hok scale h0 W W.heap.size (Nat.le_refl _) hatW)
    have HE := hide (show secColE h nm scale = _ from if_neg h0)
    have h1 : (secE h scale != 0) = true := by rw [bne_iff_ne]; exact h0
    clear hok h0 hatW
    go_enter Tryd.func25, Tryd.ntmps25
    go_wp2_with fail
    rw [← HW.out]
    refine HG.out.mono ?_
    rintro e w' ⟨rfl, hb⟩
    have HB := hide hb
    clear hb
    go_wp2
    go_ret2
    exact Gives.mk HE.out.symm (HBD.out _ HB.out)
end Go.Proofs.YtliehhnnfpkciaaDoor
