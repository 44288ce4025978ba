/- loftblocklaw10.ReevingSheaves: the walk of the law. -/
import Derived.Test.YtgamhdbcejkllaaDoorReeveAwake
import Derived.Test.YtgamhdbcejkllaaDoorReeveIns
import Derived.Test.YtgamhdbcejkllaaDoorSheaveMem
import Derived.Test.YtgamhdbcejkllaaDoorReeveMats
import Derived.Test.YtgamhdbcejkllaaDoorQuietTail
import Derived.Test.YtgamhdbcejkllaaDoorReeveParts
import Derived.Deep.RegionHeld3
import Derived.Deep.DeepCutAuto
namespace Go.Proofs.YtgamhdbcejkllaaDoor
open Go.RowKit
theorem lit_bounds {k : IntKind} {n : Int} (h : (Lit.int k n).wf = true) : k.min ≤ n ∧ n ≤ k.max := by
  unfold Lit.wf at h
  rw [Bool.and_eq_true, decide_eq_true_eq, decide_eq_true_eq] at h
  exact h
set_option maxRecDepth 100000 in
set_option maxHeartbeats 16000000 in
theorem reevingSheaves_any (s : SysD) (hok : s.ok) (rope at_ block : Nat) (pulls : Int) (hr1 : rope ≤ 255) (ha1 : at_ ≤ 255) (hb1 : block ≤ 255) (hp0 : -128 ≤ pulls) (hp1 : pulls ≤ 127) (w : World) (ht : Tabs w) (B : Nat) (hB : B ≤ w.heap.size) (hat : SysD.at_ w B s) :
    Calls Tryd.prog 7 #[.agg #[.slice s.blocks.A s.blocks.l.length s.blocks.cap, .slice s.ropes.A s.ropes.l.length s.ropes.cap], .int .u8 rope, .int .u8 at_, .int .u8 block, .int .i8 pulls] w (Gives w (.bool true)) := by
  obtain ⟨W, hW, hWs, hWb, hWh⟩ := boxed w (.cells #[.slice s.blocks.A s.blocks.l.length s.blocks.cap, .slice s.ropes.A s.ropes.l.length s.ropes.cap] 25)
  have hc := fun y : After W.heap.size W => SysD.boxed hWh (by omega) y
  have hbd : ∀ y : After W.heap.size W, Below w.heap.size w y.val := fun y => hWb.trans (y.below.mono (by omega))
  have hatW : ∀ v : World, Below W.heap.size W v → SysD.at_ v W.heap.size s := fun v hv => (hat.to (hWb.mono hB) (by omega)).to hv (Nat.le_refl _)
  have KA := hide (Gives.first (awake10 W (ht.below hWb)))
  have KR := hide fun y : After W.heap.size W => ready_any s hok y.val W.heap.size y.size (hatW y.val y.below)
  have HW := hide hW
  have HBD := hide hbd
  by_cases hv : sysOk s = true
  · obtain ⟨⟨hR1, hR6, hC1, hC6⟩, _, hrl⟩ := sysOk_parts hv
    have KC := hide fun y : After W.heap.size W => copy_any s hv y.val W.heap.size y.size (hatW y.val y.below)
    have KM := hide fun (v : World) (hv' : Below W.heap.size W v) => matrix_good s hok hv v W.heap.size hv'.size (hatW v hv')
    have HOK := hide hok
    have HRL := hide (show ∀ r ∈ s.ropes.l, 2 ≤ r.holds.l.length ∧ r.holds.l.length ≤ 10 from fun r hr => ⟨(ropeOk_parts (ropeOk_of hv hr)).1, (ropeOk_parts (ropeOk_of hv hr)).2.1⟩)
    have HV := hide hv
    have HSB := hide fun (v : World) (hv' : Below W.heap.size W v) => (hatW v hv').blocks
    have hlcb : s.blocks.l.length ≤ s.blocks.cap := hat.blocks.1
    have hmb : s.blocks.cap ≤ 9223372036854775807 := hat.blocks.2.1
    have hlcr : s.ropes.l.length ≤ s.ropes.cap := hat.ropes.1
    have hmr : s.ropes.cap ≤ 9223372036854775807 := hat.ropes.2.1
    clear hW hWs hWh hWb hbd hat hatW ht hv hrl hok
    go_enter Tryd.func7, Tryd.ntmps7
    go_wp2_with fail
    rw [← HW.out]
    refine KA.out.mono ?_
    rintro e w1 ⟨rfl, y1, rfl⟩
    go_wp2_with fail
    refine (KR.out y1).mono ?_
    rintro e w1 ⟨b, _, rfl, hb⟩
    obtain ⟨y2, rfl⟩ := After.exists_iff (y1.below.trans (hb.mono y1.size))
    clear hb
    cases b
    · go_wp2
      go_ret
      exact Gives.mk rfl (HBD.out _)
    go_wp2_with fail
    refine (KC.out y2).mono ?_
    rintro e w3 ⟨t, rfl, hcp, hb3⟩
    have hW3 : Below W.heap.size W w3 := y2.below.trans (hb3.mono y2.size)
    have hy2 := y2.size
    obtain ⟨base, hbase⟩ : ∃ base, base = y2.val.heap.size := ⟨_, rfl⟩
    rw [← hbase] at hcp hy2
    clear hbase hb3
    obtain ⟨⟨TA, capb, tl⟩, ⟨RA, capr, trl⟩⟩ := t
    obtain ⟨hbl, ⟨gb, hTA, hgb, hblk⟩, ⟨hbc1, hbc2⟩, ⟨gr, G, H, hRA, hgr0, hrl, hrr, hhold, hinc, hroomc⟩, hrc1, hrc2⟩ := hcp
    simp only at hbl hTA hbc1 hbc2 hRA hrl hrr hrc1 hrc2
    subst hbl hTA hRA hrl
    simp only [ropesC_length]
    obtain ⟨X, hX, hXs, hXb, hXh⟩ := boxed w3 (.cells #[.slice (some ⟨gb, 0, none⟩) s.blocks.l.length capb, .slice (some ⟨gr, 0, none⟩) s.ropes.l.length capr] 25)
    have hWX : Below W.heap.size W X := hW3.trans (hXb.mono hW3.size)
    have hrX := hrr.of_block (hXb.block _ hrr.lt)
    have hbX := hblk.of_block (hXb.block _ hblk.lt)
    have hhX : ∀ p, p < s.ropes.l.length → RowFn X (G p) 47 4 (fnOf s.ropes.l p).holds.l.length HoldD.cells (fnOf (fnOf s.ropes.l p).holds.l) := fun p hp => (hhold p hp).1.of_block (hXb.block _ (hhold p hp).1.lt)
    have hneR : ∀ p, p < s.ropes.l.length → gr ≠ G p := fun p hp => hrr.ne (hhold p hp).1 (by decide)
    have hneB : ∀ p, p < s.ropes.l.length → gb ≠ G p := fun p hp => hblk.ne (hhold p hp).1 (by decide)
    have hneT : ∀ p, p < s.ropes.l.length → w3.heap.size ≠ G p := fun p hp => by have := (hhold p hp).1.lt; omega
    have hGB : ∀ p, p < s.ropes.l.length → W.heap.size ≤ G p := fun p hp => by have := (hhold p hp).2.1; omega
    have hgbT : gb < w3.heap.size := hblk.lt
    have hgrT : gr < w3.heap.size := hrr.lt
    have hgbr : gb ≠ gr := hblk.ne hrr (by decide)
    have hcX := fun y : After X.heap.size X => hc ⟨y.val, hWX.trans (y.below.mono hWX.size)⟩
    simp only at hcX
    have hTX := fun y : After X.heap.size X => two_cells ((y.below.block w3.heap.size (by omega)).trans hXh)
    have HRX := hide hrX
    have HBX := hide hbX
    have HHX := hide hhX
    have HNR := hide hneR
    have HNB := hide hneB
    have HNT := hide hneT
    have HGB := hide hGB
    have HHC := hide (fun p hp => (hhold p hp).2.2)
    have HINC := hide hinc
    have HXH := hide hXh
    have HRMX := hide (fun p hp => (hroomc p hp).of_block (hXb.block _ (hhold p hp).1.lt))
    have HX := hide hX
    have HWX := hide hWX
    have hXW := hWX.size
    obtain ⟨T, hT⟩ : ∃ T, T = w3.heap.size := ⟨_, rfl⟩
    rw [← hT] at HNT HXH hgbT hgrT hTX
    have HT := hide hT
    have hTlt : T < X.heap.size := by omega
    clear hroomc hrX hbX hhX hneR hneB hneT hGB hinc hXh hX hWX hrr hblk hhold hT
    obtain ⟨i, hi⟩ : ∃ i : Nat, (rope : Int) % (s.ropes.l.length : Int) = (i : Int) := ⟨((rope : Int) % (s.ropes.l.length : Int)).toNat, by have := Int.emod_nonneg (rope : Int) (show (s.ropes.l.length : Int) ≠ 0 by omega); omega⟩
    have hit : i < s.ropes.l.length := by have := Int.emod_lt_of_pos (rope : Int) (show (0 : Int) < (s.ropes.l.length : Int) by omega); omega
    obtain ⟨k, hk⟩ : ∃ k : Nat, (block : Int) % ((s.blocks.l.length : Int) + 1) = (k : Int) := ⟨((block : Int) % ((s.blocks.l.length : Int) + 1)).toNat, by have := Int.emod_nonneg (block : Int) (show (s.blocks.l.length : Int) + 1 ≠ 0 by omega); omega⟩
    have hkt : k ≤ s.blocks.l.length := by have := Int.emod_lt_of_pos (block : Int) (show (0 : Int) < (s.blocks.l.length : Int) + 1 by omega); omega
    have hi0 : (0 : Int) ≤ (i : Int) := by omega
    have hi1 : (i : Int) < (s.ropes.l.length : Int) := by omega
    have hix : s.ropes.l[i]? = some s.ropes.l[i] := List.getElem?_eq_getElem hit
    obtain ⟨hh2, hh10⟩ := HRL.out _ (List.getElem_mem hit)
    have hcap := HHC.out i hit
    have hfn := fnOf_get hix
    have hhi := HHX.out i hit
    rw [hfn] at hcap hhi
    obtain ⟨r, hr⟩ : ∃ r, r = s.ropes.l[i] := ⟨_, rfl⟩
    rw [← hr] at hfn hh2 hh10 hcap hhi hix
    have e0 : fnOf (ropesC G H s.ropes.l s.ropes.l.length) i = ⟨r.name, ⟨some ⟨G i, 0, none⟩, H i, r.holds.l⟩, r.hauled⟩ := by rw [fnOf_get (ropesC_get _ _ _ hit), ropeC, hfn]
    have her : ∀ y : After X.heap.size X, y.val.cell? ⟨gr, i * 3 + 1, none⟩ = some (.slice (some ⟨G i, 0, none⟩) r.holds.l.length (H i)) := fun y =>
      (HRX.out.of_block (y.below.block gr HRX.out.lt)).cell (c := 1) hit (by rw [e0]; rfl)
    have hm := hcap.2
    unfold maxLen at hm
    have HIX := hide hix
    have HHI := hide hhi
    have HFN := hide hfn
    have HE0 := hide e0
    clear hr hix hhi hfn e0
    go_wp2
    rw [← HX.out, ← HT.out]
    refine wp_region_first X.heap.size (by kernel_rfl) (by kernel_rfl) ?_
    repeat (go_big_quiet_step (fail))
    refine wpQuiet_nil ?_
    intro y3
    have hT3 := hTX y3
    have her3 := her y3
    have hc3 := hcX y3
    by_cases hlong : 10 ≤ r.holds.l.length
    · have hl2 : (10 : Int) ≤ (r.holds.l.length : Int) := by omega
      go_wp2
      go_ret
      exact Gives.mk rfl (HBD.out ⟨y3.val, HWX.out.trans (y3.below.mono HWX.out.size)⟩)
    have hl2 : (r.holds.l.length : Int) < 10 := by omega
    go_wp2_with fail
    refine (Gives.after (Nat.le_refl _) (one_any y3.val)).mono ?_
    rintro e w4 ⟨rfl, y4, rfl⟩
    clear hT3 her3 hc3
    have hc4 := hcX y4
    have hT4 := hTX y4
    have her4 := her y4
    have hs4 := y4.size
    have hcV := fun o => hcX ⟨y4.val.alloc o, y4.below.alloc y4.size o⟩
    simp only at hcV
    obtain ⟨p, hp⟩ : ∃ p : Nat, (at_ : Int) % ((r.holds.l.length : Int) - 1) = (p : Int) := ⟨((at_ : Int) % ((r.holds.l.length : Int) - 1)).toNat, by have := Int.emod_nonneg (at_ : Int) (show (r.holds.l.length : Int) - 1 ≠ 0 by omega); omega⟩
    have hpt : p + 1 < r.holds.l.length := by have := Int.emod_lt_of_pos (at_ : Int) (show (0 : Int) < (r.holds.l.length : Int) - 1 by omega); omega
    have hpm : wrap64 (2 * pulls.tmod 2) = 2 ∨ wrap64 (2 * pulls.tmod 2) = 0 ∨ wrap64 (2 * pulls.tmod 2) = -2 := by
      have h3 : pulls.tmod 2 = 1 ∨ pulls.tmod 2 = 0 ∨ pulls.tmod 2 = -1 := by
        rw [Int.tmod_eq_emod]
        split <;> omega
      rcases h3 with h3 | h3 | h3
      · rw [h3]; exact Or.inl (by kernel_rfl)
      · rw [h3]; exact Or.inr (Or.inl (by kernel_rfl))
      · rw [h3]; exact Or.inr (Or.inr (by kernel_rfl))
    obtain ⟨bb, bo, hbA, hbb, hbc⟩ := (HSB.out (y4.val.alloc (.cells #[.string ⟨#[]⟩, .int .i64 0, .int .i64 1, .int .i64 1] 47)) (HWX.out.trans ((y4.below.alloc y4.size _).mono HWX.out.size))).2.2 (by omega)
    simp only [hbA] at hc4 hcV hcX hc KM ⊢
    have HBC := hide hbc
    have HBA := hide hbA
    clear hbc hbA
    go_upto_if 59 with fail
    go_cut [15] (fun a wx => a = .pointer (some ⟨y4.val.heap.size, 0, none⟩) ∧ ∃ hd : HoldD, ((hd.num = 1 ∧ hd.den = 1) ∧ ((∃ x, s.blocks.l[k]? = some x ∧ hd.block = x.name) ∧ (hd.pulls = 2 ∨ hd.pulls = 0 ∨ hd.pulls = -2) ∨ k = s.blocks.l.length ∧ hd.block = ⟨#[]⟩ ∧ hd.pulls = 0)) ∧
      wx = y4.val.alloc (.cells #[.string hd.block, .int .i64 hd.pulls, .int .i64 hd.num, .int .i64 hd.den] 47))
    case first =>
      refine (Classical.em (k < s.blocks.l.length)).elim (fun hkb => ?_) (fun hkb => ?_)
      · have hk1 : (k : Int) < (s.blocks.l.length : Int) := by omega
        have hk0 : (0 : Int) ≤ (k : Int) := by omega
        obtain ⟨bx, hbx⟩ : ∃ bx, s.blocks.l[k]? = some bx := ⟨_, List.getElem?_eq_getElem hkb⟩
        have hname := HBC.out k bx hbx 0 _ rfl
        simp only [Nat.add_zero] at hname
        have HBXK := hide hbx
        clear hbx
        go_wp2_with fail
        go_meet
        exact ⟨rfl, ⟨_, _, _, _⟩, ⟨⟨rfl, rfl⟩, Or.inl ⟨⟨bx, HBXK.out, rfl⟩, hpm⟩⟩, rfl⟩
      · have hk1 : (s.blocks.l.length : Int) ≤ (k : Int) := by omega
        go_wp2_with fail
        go_meet
        exact ⟨rfl, ⟨_, _, _, _⟩, ⟨⟨rfl, rfl⟩, Or.inr ⟨by omega, rfl, rfl⟩⟩, rfl⟩
    case rest =>
      obtain ⟨rfl, hd, hdp, hwx⟩ := hcut
      obtain ⟨V, hV, hVs, hVb, hVh⟩ := boxed y4.val (.cells #[.string hd.block, .int .i64 hd.pulls, .int .i64 hd.num, .int .i64 hd.den] 47)
      have hwV := hV.trans hwx.symm
      subst hwV
      have HHD := hide hdp
      clear hwx hV hcV hdp hpm
      have hVX : Below X.heap.size X V := y4.below.trans (hVb.mono y4.size)
      have HVX := hide hVX
      have herV := fun y : After V.heap.size V => her ⟨y.val, hVX.trans (y.below.mono hVX.size)⟩
      simp only at herV
      have hhV := fun y : After V.heap.size V => HoldD.boxed hVh (by omega) y
      have hKeep := fun (u : World) (hu : Below V.heap.size V u) => And.intro (herV ⟨u, hu⟩) (hhV ⟨u, hu⟩)
      simp only at hKeep
      have KINS := hide (fun (u : World) (hu : Below V.heap.size V u) (vb : Nat) (hvb : u.heap[vb]? = some (.cells #[.string hd.block, .int .i64 hd.pulls, .int .i64 hd.num, .int .i64 hd.den] 47 (0, 0))) (hne : vb ≠ G i) =>
        insertH_any (fnOf r.holds.l) r.holds.l.length (G i) (H i) (1 + p) vb hd (by omega) (by omega) hcap.1 (by omega) u (HHI.out.of_block ((hu.block _ (Nat.lt_of_lt_of_le HHI.out.lt hVX.size)).trans (hVX.block _ HHI.out.lt)))
          ((HRMX.out i hit).of_block ((hu.block _ (Nat.lt_of_lt_of_le HHI.out.lt hVX.size)).trans (hVX.block _ HHI.out.lt))) hvb hne)
      have hs1 : IntKind.i64.wrap (1 + (p : Int)) = 1 + (p : Int) := by rw [IntKind.wrap_i64]; omega
      have hs2 : IntKind.i64.wrap ((r.holds.l.length : Int) - 1) = (r.holds.l.length : Int) - 1 := by rw [IntKind.wrap_i64]; omega
      have hs5 : ¬ ((r.holds.l.length : Int) - 1 = 0) := by omega
      have hs6 : (at_ : Int).tmod ((r.holds.l.length : Int) - 1) = (p : Int) := by rw [Int.tmod_eq_emod_of_nonneg (by omega)]; exact hp
      have hcast : (1 : Int) + (p : Int) = ((1 + p : Nat) : Int) := by omega
      have hs7 : IntKind.i64.wrap (at_ : Int) = (at_ : Int) := by rw [IntKind.wrap_i64]; omega
      have HARG := hide (show IntKind.i64.wrap (1 + (IntKind.i64.wrap (at_ : Int)).tmod ((r.holds.l.length : Int) - 1)) = ((1 + p : Nat) : Int) by rw [hs7, hs6, hs1, hcast])
      have hGX := HHI.out.lt
      have hgrX := HRX.out.lt
      have hgrG := HNR.out i hit
      have hxV := hVX.size
      have KCALL := hide (show Calls Tryd.prog 31 #[.slice (some ⟨G i, 0, none⟩) r.holds.l.length (H i), .int .i64 ((1 + p : Nat) : Int), .slice (some ⟨y4.val.heap.size + 1, 0, none⟩) 1 1] (V.alloc (.cells #[.string hd.block, .int .i64 hd.pulls, .int .i64 hd.num, .int .i64 hd.den] 47)).drew fun e u =>
          ∃ g' cap', e = .returned (.slice (some ⟨g', 0, none⟩) (r.holds.l.length + 1) cap') ∧ (g' = G i ∨ V.heap.size < g') ∧ r.holds.l.length + 1 ≤ cap' ∧ cap' ≤ maxLen ∧ RowFn u g' 47 4 (r.holds.l.length + 1) HoldD.cells (insFn (fnOf r.holds.l) (1 + p) hd) ∧
            (∀ j, j < V.heap.size → j ≠ G i → u.heap[j]? = V.heap[j]?) ∧ Below W.heap.size W u from by
        refine (KINS.out _ ((Below.refl _ _).alloc (Nat.le_refl _) _).drew (y4.val.heap.size + 1) (by rw [← hVs]; exact heap_alloc_new V _) (by omega)).mono ?_
        rintro e u ⟨g', cap', h1, h2, h3, h4, h5, h6, h7⟩
        have hal : Below V.heap.size V (V.alloc (.cells #[.string hd.block, .int .i64 hd.pulls, .int .i64 hd.num, .int .i64 hd.den] 47)).drew := ((Below.refl _ _).alloc (Nat.le_refl _) _).drew
        have hwv : Below W.heap.size W V := HWX.out.trans (hVX.mono HWX.out.size)
        refine ⟨g', cap', h1, ?_, h3, h4, h5, fun j hj hne => (h6 j (by have := hal.size; omega) hne).trans (hal.block j hj), ?_⟩
        · rcases h2 with h2 | h2
          · exact Or.inl h2
          · refine Or.inr ?_
            rw [h2]; show V.heap.size < (V.alloc _).heap.size
            simp
        · have hgb := HGB.out i hit
          exact (hwv.trans (hal.mono hwv.size)).trans (h7 _ (by omega) (by have := hal.size; have := hwv.size; omega)))
      have hrowV := HRX.out.of_block (hVX.block gr HRX.out.lt)
      have HKV := hide (fun (u : World) (hu : ∀ j, j < V.heap.size → j ≠ G i → u.heap[j]? = V.heap[j]?) => hrowV.of_block (hu gr (by omega) hgrG))
      have HKH := hide (fun (u : World) (hu : ∀ j, j < V.heap.size → j ≠ G i → u.heap[j]? = V.heap[j]?) =>
        have hb := (hu y4.val.heap.size (by omega) (by omega)).trans hVh
        HoldD.boxed (h := hd) hb (Array.getElem?_eq_some_iff.1 hb).1 (After.refl _ u))
      clear hT4 her4 hc4 hcast herV hhV KINS hs1 hs6 hs7 hrowV
      obtain ⟨hv1, hv2, hv3, hv4, hv5⟩ := hKeep V (Below.refl _ _)
      have hgrV : gr < V.heap.size := by omega
      have hyV : y4.val.heap.size < V.heap.size := by omega
      have hgrV' : gr < y4.val.heap.size + 1 := by omega
      have hgrV2 : gr ≤ y4.val.heap.size := by omega
      go_upto_region 13 with (fail)
      simp only [hi, hk]
      go_cut [15] (fun a wx => a = .pointer (some ⟨y4.val.heap.size, 0, none⟩) ∧ ∃ (wI : World) (g' cap' : Nat), (g' = G i ∨ V.heap.size < g') ∧ r.holds.l.length + 1 ≤ cap' ∧ cap' ≤ maxLen ∧ RowFn wI g' 47 4 (r.holds.l.length + 1) HoldD.cells (insFn (fnOf r.holds.l) (1 + p) hd) ∧
        (∀ j, j < V.heap.size → j ≠ G i → wI.heap[j]? = V.heap[j]?) ∧ Below W.heap.size W wI ∧ wx = wI.setCell ⟨gr, i * 3 + 1, none⟩ (.slice (some ⟨g', 0, none⟩) (r.holds.l.length + 1) cap'))
      case first =>
        go_region_law (first | (go_simp; go_at_call 31; rw [HARG.out]; refine KCALL.out.mono ?_; rintro e wI ⟨g', cap', rfl, hg', hcI1, hcI2, hrowI, hfrI, hbI⟩; have hrI := HKV.out wI hfrI; have hcellI := hrI.cell (c := 1) hit (by rw [HE0.out]; rfl); have hfzI := hrI.frozen (i * 3 + 1); have hkI := And.intro hcellI (HKH.out wI hfrI)))
        all_goals
          go_wp2_with fail
          go_meet
          exact ⟨rfl, _, _, _, hg', hcI1, hcI2, hrowI, hfrI, hbI, rfl⟩
      case rest =>
      obtain ⟨rfl, wI, g', cap', hg', hcI1, hcI2, hrowI, hfrI, hbI, rfl⟩ := hcut
      have hrI := HKV.out wI hfrI
      have hil := insL_length (l := r.holds.l) (p := 1 + p) hd (by omega)
      have hgg : g' ≠ gr := by
        rcases hg' with h1 | h1
        · rw [h1]; exact fun e => hgrG e.symm
        · omega
      obtain ⟨U, hU⟩ : ∃ U, U = wI.setCell ⟨gr, i * 3 + 1, none⟩ (.slice (some ⟨g', 0, none⟩) (r.holds.l.length + 1) cap') := ⟨_, rfl⟩
      have hbX3 := HBX.out.lt
      have hUw : ∀ j, j < V.heap.size → j ≠ G i → j ≠ gr → U.heap[j]? = V.heap[j]? := fun j h1 h2 h3 => by rw [hU, RowKit.Below.heap_setCell _ _ _ _ h3]; exact hfrI j h1 h2
      have HBU := hide (show RowFn U gb 37 2 s.blocks.l.length BlockD.cells (fnOf s.blocks.l) from HBX.out.of_block ((hUw gb (by omega) (HNB.out i hit) hgbr).trans (HVX.out.block gb hbX3)))
      have HRU := hide (show RowFn U gr 40 3 s.ropes.l.length RopeD.cells (fun q => if q = i then (⟨r.name, ⟨some ⟨g', 0, none⟩, cap', insL r.holds.l (1 + p) hd⟩, r.hauled⟩ : RopeD) else fnOf (ropesC G H s.ropes.l s.ropes.l.length) q) by
        have := RowFn.setHolds hrI hit (x := ⟨r.name, ⟨some ⟨g', 0, none⟩, cap', insL r.holds.l (1 + p) hd⟩, r.hauled⟩) (by rw [HE0.out]) (by rw [HE0.out])
        simp only [hil] at this
        rw [hU]; exact this)
      have HHU := hide (show ∀ q, q < s.ropes.l.length → q ≠ i → RowFn U (G q) 47 4 (fnOf s.ropes.l q).holds.l.length HoldD.cells (fnOf (fnOf s.ropes.l q).holds.l) from fun q hq hne => by
        have h1 := HHX.out q hq
        have h2 := h1.lt
        have h3 : G q ≠ G i := by
          rcases Nat.lt_or_gt_of_ne hne with h4 | h4
          · exact Nat.ne_of_lt (HINC.out q i h4 hit)
          · exact Nat.ne_of_gt (HINC.out i q h4 hq)
        exact h1.of_block ((hUw (G q) (by omega) h3 (fun e => HNR.out q hq e.symm)).trans (HVX.out.block _ h2)))
      have HIU := hide (show RowFn U g' 47 4 (r.holds.l.length + 1) HoldD.cells (insFn (fnOf r.holds.l) (1 + p) hd) by rw [hU]; exact hrowI.of_block (RowKit.Below.heap_setCell _ _ _ _ hgg))
      have hhdok : hd.ok := by
        obtain ⟨⟨h1, h2⟩, h3⟩ := HHD.out
        refine ⟨?_, ?_, by rw [h1]; exact ⟨by decide, by decide⟩, by rw [h2]; exact ⟨by decide, by decide⟩⟩
        · rcases h3 with ⟨⟨x, hx, e⟩, _⟩ | ⟨_, e, _⟩
          · rw [e]; exact (HOK.out.blocks x (List.mem_of_getElem? hx)).name
          · rw [e]; unfold maxLen; decide
        · rcases h3 with ⟨_, e | e | e⟩ | ⟨_, _, e⟩ <;> rw [e] <;> exact ⟨by decide, by decide⟩
      obtain ⟨rl, hrl1, hins, hatU, hokU⟩ := sheave_sys HOK.out HIX.out (by omega) hhdok HBU.out ⟨hbc1, hbc2⟩ HRU.out ⟨hrc1, hrc2⟩ HHU.out HHC.out HIU.out hcI1 hcI2
      have hWU : Below W.heap.size W U := by
        rw [hU]
        exact hbI.setCell (p := ⟨gr, i * 3 + 1, none⟩) (by show W.heap.size ≤ gr; omega) _
      rw [← hU]
      have hTU : U.heap[T]? = some (.cells #[.slice (some ⟨gb, 0, none⟩) s.blocks.l.length capb, .slice (some ⟨gr, 0, none⟩) s.ropes.l.length capr] 25 (0, 0)) :=
        (hUw T (by omega) (HNT.out i hit) (by omega)).trans ((HVX.out.block T (by omega)).trans HXH.out)
      have hTl := (Array.getElem?_eq_some_iff.1 hTU).1
      have hHU : U.heap[y4.val.heap.size]? = some (.cells #[.string hd.block, .int .i64 hd.pulls, .int .i64 hd.num, .int .i64 hd.den] 47 (0, 0)) :=
        (hUw y4.val.heap.size hyV (by omega) (by omega)).trans hVh
      have hHl := (Array.getElem?_eq_some_iff.1 hHU).1
      have hTc := fun y : After U.heap.size U => two_cells ((y.below.block T hTl).trans hTU)
      have hHc := fun y : After U.heap.size U => (HoldD.boxed (h := hd) ((y.below.block _ hHl).trans hHU) (Nat.lt_of_lt_of_le hHl y.size) (After.refl _ y.val)).2.1
      have hcU := fun y : After U.heap.size U => hc ⟨y.val, hWU.trans (y.below.mono hWU.size)⟩
      simp only [After.refl] at hcU hHc
      obtain ⟨t1, ht1⟩ : ∃ t1 : SysD, t1 = ⟨⟨some ⟨gb, 0, none⟩, capb, s.blocks.l⟩, ⟨some ⟨gr, 0, none⟩, capr, rl⟩⟩ := ⟨_, rfl⟩
      rw [← ht1] at hatU hokU
      have hins1 : Ins i (1 + p) hd s.ropes.l t1.ropes.l := by rw [ht1]; exact hins
      have hs1 : sysOk t1 = true := sysOk_ins HV.out (by rw [ht1]) hins1 (by omega) (fun r2 hr2 => by
        rw [HIX.out] at hr2; injection hr2 with hr2; subst hr2; omega) (holdOk_new HV.out HHD.out.1.1 HHD.out.1.2 HHD.out.2)
      have hmF : ∀ j q, q < s.ropes.l.length → matF s.blocks.l rl j q = matF s.blocks.l s.ropes.l j q + (if q = i then if j = k then hd.pulls else 0 else 0) := fun j q hq => by
        have h1 := matF_ins (s := s) (t := t1) (by rw [ht1]) hins1 hq j
        rw [find_new HV.out j HHD.out.2] at h1
        rw [ht1] at h1
        exact h1
      have hpl : -2 ≤ hd.pulls ∧ hd.pulls ≤ 2 := by
        rcases HHD.out.2 with ⟨_, e | e | e⟩ | ⟨_, _, e⟩ <;> rw [e] <;> decide
      have HMF := hide hmF
      have HS := hide (matF_small HV.out)
      have HAT := hide hatU
      have HOKU := hide hokU
      have HS1 := hide hs1
      have HWU := hide hWU
      have hc0 := hcU (After.refl _ _)
      have hT0 := hTc (After.refl _ _)
      simp only [After.refl] at hc0 hT0
      clear hmF hatU hokU hs1 hWU hins hins1 hU hrI hfrI hbI hrowI HBU HRU HHU HIU hUw hTU hHU hTX hcX hhdok hKeep
      go_wp2_with fail
      refine (KM.out U HWU.out).mono ?_
      rintro e Z1 ⟨n1, hn1, rfl, hP1, hb1⟩
      have hc1 := hcU ⟨Z1, hb1⟩
      have hT1 := hTc ⟨Z1, hb1⟩
      simp only at hc1 hT1
      have KM2 := matrix_good t1 HOKU.out HS1.out Z1 U.heap.size hb1.size (HAT.out.to hb1 (Nat.le_refl _))
      rw [ht1] at KM2
      simp only [hrl1] at KM2
      have KM2 := hide KM2
      have HT1 := hide ht1
      clear ht1
      go_wp2_with fail
      refine KM2.out.mono ?_
      rintro e Z2 ⟨n2, hn2, rfl, hP2, hb2⟩
      obtain ⟨F, hF⟩ : ∃ F, F = matF s.blocks.l s.ropes.l := ⟨_, rfl⟩
      have hP2 : MatAt n2 s.blocks.l.length s.ropes.l.length (fun j q => F j q + (if q = i then if j = k then hd.pulls else 0 else 0)) Z2 := hP2.congr fun j q _ hq => by
        rw [hF]; exact HMF.out j q hq
      have hP1 := hP1.below (hb2.mono hP1.size)
      rw [← hF] at hP1 HS
      have hUZ : Below U.heap.size U Z2 := hb1.trans (hb2.mono hb1.size)
      have hcZ := fun y : After Z2.heap.size Z2 => hcU ⟨y.val, hUZ.trans (y.below.mono hUZ.size)⟩
      have hHZ := fun y : After Z2.heap.size Z2 => hHc ⟨y.val, hUZ.trans (y.below.mono hUZ.size)⟩
      simp only at hcZ hHZ
      have HM1 := hide fun y : After Z2.heap.size Z2 => hP1.below (y.below.mono hP1.size)
      have HM2 := hide fun y : After Z2.heap.size Z2 => hP2.below (y.below.mono hP2.size)
      have hWZ : Below W.heap.size W Z2 := HWU.out.trans (hUZ.mono HWU.out.size)
      have HBD2 : Hid (∀ y : After Z2.heap.size Z2, Below w.heap.size w y.val) := hide fun y => HBD.out ⟨y.val, hWZ.trans (y.below.mono hWZ.size)⟩
      have hcz0 := hcZ (After.refl _ _)
      simp only [After.refl] at hcz0
      clear hP1 hP2 hc1 hT1 KM2 hb1 hb2 hUZ hWZ hF hcU hHc hTc
      go_wp2
      go_loopw [20, 125] (fun _ v wr => ∃ j : Nat, v = .int .i64 j ∧ j ≤ s.blocks.l.length ∧ ∃ x : After Z2.heap.size Z2, wr = x.val) (fun _ v _ => s.blocks.l.length - (intOf v).toNat)
      case atStart => exact ⟨0, rfl, Nat.zero_le _, After.refl _ _, rfl⟩
      case round =>
        obtain ⟨j, rfl, hj, x, rfl⟩ := hrel
        have hcx := hcZ x
        by_cases hjt : j < s.blocks.l.length
        · have hm1 := fun z : After Z2.heap.size Z2 => (HM1.out z).outerCell hjt
          have hm2 := fun z : After Z2.heap.size Z2 => (HM2.out z).outerCell hjt
          have hj0 : (0 : Int) ≤ (j : Int) := by omega
          have hj1 : (j : Int) < (s.blocks.l.length : Int) := by omega
          have hm1x := hm1 x
          have hm2x := hm2 x
          go_wp2
          refine wp_region_after x (by kernel_rfl) (by kernel_rfl) ?_
          repeat (go_big_quiet_step (fail))
          refine wpQuiet_nil ?_
          intro y
          have hm1y := hm1 y
          clear hm1x hm2x hcx
          go_wp2
          go_loopw [21, 22, 155] (fun _ _ v wr => ∃ q : Nat, v = .int .i64 q ∧ q ≤ s.ropes.l.length ∧ ∃ x : After Z2.heap.size Z2, wr = x.val) (fun _ _ v _ => s.ropes.l.length - (intOf v).toNat)
          case atStart => exact ⟨0, rfl, Nat.zero_le _, y, rfl⟩
          case round =>
            obtain ⟨q, rfl, hq, x, rfl⟩ := hrel
            clear hm1y
            by_cases hqt : q < s.ropes.l.length
            · have hc1x := (HM1.out x).cell hjt hqt
              have hc2x := (HM2.out x).cell hjt hqt
              have hm1x := hm1 x
              have hm2x := hm2 x
              have hhx := hHZ x
              have hbq := HS.out j q
              have hq0 : (0 : Int) ≤ (q : Int) := by omega
              have hq1 : (q : Int) < (s.ropes.l.length : Int) := by omega
              obtain ⟨a, ha⟩ : ∃ a, a = F j q := ⟨_, rfl⟩
              rw [← ha] at hc1x hc2x hbq
              clear hm1 hm2 ha
              by_cases hjk : j = k
              · by_cases hqi : q = i
                · rw [if_pos hqi, if_pos hjk] at hc2x
                  have hw : IntKind.i64.wrap (a + hd.pulls) = a + hd.pulls := by rw [IntKind.wrap_i64]; omega
                  have hw2 : wrap64 (a + hd.pulls) = a + hd.pulls := by unfold wrap64; omega
                  subst hjk
                  subst hqi
                  go_wp2
                  exact ⟨⟨q + 1, by go_num, by omega, x, rfl⟩, by simp [intOf]; omega⟩
                · have hqi2 : ¬ (q : Int) = (i : Int) := by omega
                  rw [if_neg hqi, Int.add_zero] at hc2x
                  subst hjk
                  clear hqi
                  go_wp2
                  exact ⟨⟨q + 1, by go_num, by omega, x, rfl⟩, by simp [intOf]; omega⟩
              · have hjk2 : ¬ (j : Int) = (k : Int) := by omega
                have hz : (if q = i then if j = k then hd.pulls else 0 else 0) = (0 : Int) := by simp [hjk]
                rw [hz, Int.add_zero] at hc2x
                clear hjk hz
                go_wp2
                exact ⟨⟨q + 1, by go_num, by omega, x, rfl⟩, by simp [intOf]; omega⟩
            · go_wp2
              exact ⟨⟨j + 1, by go_num, by omega, x, rfl⟩, by simp [intOf]; omega⟩
        · go_wp2
          go_ret
          exact Gives.mk rfl (HBD2.out x)
  · have hv' : sysOk s = false := by simpa using hv
    clear hv
    clear hW hWs hWh hWb hbd hat hatW ht hok
    go_enter Tryd.func7, Tryd.ntmps7
    go_wp2_with fail
    rw [← HW.out]
    refine KA.out.mono ?_
    rintro e w1 ⟨rfl, y1, rfl⟩
    go_wp2_with fail
    refine (KR.out y1).mono ?_
    rintro e w1 ⟨b, hbv, rfl, hb⟩
    obtain ⟨y2, rfl⟩ := After.exists_iff (y1.below.trans (hb.mono y1.size))
    cases b
    · clear hb
      go_wp2
      go_ret
      exact Gives.mk rfl (HBD.out _)
    · exact absurd (hbv rfl) (by rw [hv']; simp)
theorem reevingSheaves_int (s : SysD) (hok : s.ok) (rope at_ block pulls : Int) (h1 : (Lit.int .u8 rope).wf = true) (h2 : (Lit.int .u8 at_).wf = true) (h3 : (Lit.int .u8 block).wf = true) (h4 : (Lit.int .i8 pulls).wf = true) (w : World) (ht : Tabs w) (B : Nat) (hB : B ≤ w.heap.size) (hat : SysD.at_ w B s) :
    Calls Tryd.prog 7 #[.agg #[.slice s.blocks.A s.blocks.l.length s.blocks.cap, .slice s.ropes.A s.ropes.l.length s.ropes.cap], .int .u8 rope, .int .u8 at_, .int .u8 block, .int .i8 pulls] w (Gives w (.bool true)) := by
  have e1 : (0 : Int) ≤ rope ∧ rope ≤ 255 := lit_bounds h1
  have e2 : (0 : Int) ≤ at_ ∧ at_ ≤ 255 := lit_bounds h2
  have e3 : (0 : Int) ≤ block ∧ block ≤ 255 := lit_bounds h3
  have e4 : (-128 : Int) ≤ pulls ∧ pulls ≤ 127 := lit_bounds h4
  obtain ⟨a, rfl⟩ : ∃ a : Nat, rope = a := ⟨rope.toNat, by omega⟩
  obtain ⟨b, rfl⟩ : ∃ b : Nat, at_ = b := ⟨at_.toNat, by omega⟩
  obtain ⟨c, rfl⟩ : ∃ c : Nat, block = c := ⟨block.toNat, by omega⟩
  exact reevingSheaves_any s hok a b c pulls (by omega) (by omega) (by omega) e4.1 e4.2 w ht B hB hat
end Go.Proofs.YtgamhdbcejkllaaDoor
