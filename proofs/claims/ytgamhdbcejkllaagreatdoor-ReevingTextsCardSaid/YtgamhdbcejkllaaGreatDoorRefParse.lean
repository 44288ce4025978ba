/- loftblockref10.line: what a line adds to a system that is being read, by value. loftblockref10.Parse: the system that a text says, by the reference. -/
import Derived.Test.YtgamhdbcejkllaaGreatDoorRefRope
import Derived.Test.YtgamhdbcejkllaaGreatDoorParseSys
namespace Go.Proofs.YtgamhdbcejkllaaGreatDoor
open Go.RowKit

def RLineR (W x : World) (s : SysD) (ws : List (List UInt8)) (e : Ending) (w' : World) : Prop :=
  ∃ (s' : SysD) (ok : Bool), e = .returned (.tuple #[.agg #[.slice s'.blocks.A s'.blocks.l.length s'.blocks.cap, .slice s'.ropes.A s'.ropes.l.length s'.ropes.cap], .bool ok]) ∧ Below W.heap.size W w' ∧ (∀ (g : Nat) (cur : Array Value), x.heap[g]? = some (.cells cur 25 (0, 0)) → w'.heap[g]? = some (.cells cur 25 (0, 0))) ∧
    ((ok = true ∧ lineE fracOk s.plain ws = some s'.plain ∧ s'.blocks.l.length + s'.ropes.l.length = s.blocks.l.length + s.ropes.l.length + 1 ∧ SysSt W s' w') ∨ (ok = false ∧ lineE fracOk s.plain ws = none))
/-- a store into a struct of the row's owner: everything below stays -/
theorem below_row {W x u y : World} {t : TypeId} {size n o i : Nat} {v q : Value} {xs : List Value} (hW : Below W.heap.size W x) (hb : Below x.heap.size x u) (hown : x.ownsRow W.heap.size t size v n xs) (hgr : u.grownBy y v.ownBlock) (ho : W.heap.size ≤ o) : Below W.heap.size W (y.setCell ⟨o, i, none⟩ q) :=
  (Below.grown (hW.trans (hb.mono hW.size)) hgr (Nat.le_trans hW.size hb.size) (own_owner hown)).setCell (p := ⟨o, i, none⟩) ho _
theorem SysSt.set2 {W x : World} {s : SysD} {r : Nat} {cs : Array Value} (h : SysSt W s x) (ho : x.heap[r]? = some (.cells cs 25 (0, 0))) (hlo : W.heap.size ≤ r) (p q : Value) : SysSt W s ((x.setCell ⟨r, 0, none⟩ p).setCell ⟨r, 1, none⟩ q) :=
  (h.set ho hlo).set (block_set ho (i := 0) p) hlo
set_option maxRecDepth 100000 in
set_option maxHeartbeats 8000000 in
theorem refLine_any (W : World) (s : SysD) (T : ByteArray) (hT : T.size ≤ 500000) (hn : s.blocks.l.length + s.ropes.l.length ≤ 1000000) (x : World) (h : SysSt W s x) :
    Calls Tryz.prog 19 #[.agg #[.slice s.blocks.A s.blocks.l.length s.blocks.cap, .slice s.ropes.A s.ropes.l.length s.ropes.cap], .string T] x (RLineR W x s (partsOf 32 (bs T))) := by
  have hWx := h.bel.size
  obtain ⟨X, hX, hXs, hXb, hXh⟩ := boxed x (.cells #[.slice s.blocks.A s.blocks.l.length s.blocks.cap, .slice s.ropes.A s.ropes.l.length s.ropes.cap] 25)
  obtain ⟨V, hV, hVs, hVb, hVh⟩ := boxed X (.cells #[.slice none 0 0, .slice none 0 0] 25)
  obtain ⟨o, ho⟩ : ∃ o, o = x.heap.size := ⟨_, rfl⟩
  have hxV : Below x.heap.size x V := hXb.trans (hVb.mono hXb.size)
  have hbox : V.heap[o]? = some (.cells #[.slice s.blocks.A s.blocks.l.length s.blocks.cap, .slice s.ropes.A s.ropes.l.length s.ropes.cap] 25 (0, 0)) := by rw [ho]; exact (hVb.block _ (by omega)).trans hXh
  have hres : V.heap[o + 1]? = some (.cells #[.slice none 0 0, .slice none 0 0] 25 (0, 0)) := by rw [ho, ← hXs]; exact hVh
  have hIn : SysIn W o s V := ⟨h.more hxV, by omega, hbox⟩
  have hoV : o < V.heap.size := by omega
  have HK0 := hide (show ∀ (g : Nat) (cur : Array Value), x.heap[g]? = some (.cells cur 25 (0, 0)) → g < o ∧ V.heap[g]? = some (.cells cur 25 (0, 0)) from fun g cur hg => by
    have hlt := (Array.getElem?_eq_some_iff.1 hg).1
    exact ⟨by omega, (hxV.block g hlt).trans hg⟩)
  have ho1V : o + 1 < V.heap.size := by omega
  have KS := hide (refWords_any T (by omega) V)
  have HIN := hide hIn
  have HV := hide hV
  have HX := hide hX
  have HO := hide ho
  have HRES := hide hres
  have hWV := hIn.st.bel.size
  have HWo : Hid (W.heap.size ≤ o) := hide hIn.lo
  clear hX hV hXb hVb hXh hVh hIn hxV ho h hbox hres
  go_enter Tryz.func19, Tryz.ntmps19
  go_wp2_with fail
  rw [← HX.out, ← HV.out, ← HO.out]
  refine KS.out.mono ?_
  rintro e w1 ⟨LB, A, cap, hLB, rfl, hcap, hat, hb1⟩
  have hIn1 : SysIn W o s w1 := HIN.out.more hb1
  have hres1 : w1.heap[o + 1]? = some (.cells #[.slice none 0 0, .slice none 0 0] 25 (0, 0)) := (hb1.block _ ho1V).trans HRES.out
  have hlen : LB.length ≤ T.size + 1 := by
    have h1 := congrArg List.length hLB
    rw [List.length_map, partsOf_length] at h1
    have h2 := List.count_le_length (a := (32 : UInt8)) (l := bs T)
    rw [bs_length] at h2
    omega
  have hsz : ∀ b ∈ LB, b.size ≤ T.size := fun b hb => by
    have h1 : bs b ∈ partsOf 32 (bs T) := by rw [← hLB]; exact List.mem_map_of_mem hb
    have h2 := partsOf_part h1
    rwa [bs_length, bs_length] at h2
  obtain ⟨b0, hb0⟩ : ∃ b0, LB[0]? = some b0 := by
    obtain ⟨p, q, hpq⟩ := partsOf_ne 32 (bs T)
    cases hq : LB with
    | nil => rw [hq, hpq] at hLB; cases hLB
    | cons a l => exact ⟨a, rfl⟩
  have hl0 : 0 < LB.length := (List.getElem?_eq_some_iff.1 hb0).1
  have hhd : (LB.map bs).head? = some (bs b0) := by
    rw [List.head?_map, List.head?_eq_getElem?, hb0]; rfl
  have HAT := hide hat
  obtain ⟨g, off, hA, hg, hce⟩ := hat.2.2 hl0
  simp only at hA
  subst hA
  have hc0 := strElem hb0 hg hce
  simp only [Nat.add_zero] at hc0
  have hc00 := hc0 (After.refl _ _)
  simp only [After.refl] at hc00
  have hb1s := hb1.size
  have hos : o < w1.heap.size := by omega
  have HK1 := hide (show ∀ (g : Nat) (cur : Array Value), x.heap[g]? = some (.cells cur 25 (0, 0)) → g < o ∧ w1.heap[g]? = some (.cells cur 25 (0, 0)) from fun g cur hg => by
    obtain ⟨h1, h2⟩ := HK0.out g cur hg
    exact ⟨h1, (hb1.block g (by omega)).trans h2⟩)
  have ho1s : o + 1 < w1.heap.size := by omega
  have hbx0 := two_cells hIn1.box
  have HSZ := hide hsz
  have HIN1 := hide hIn1
  have HRES1 := hide hres1
  have HHD := hide hhd
  have HLB := hide hLB
  have HCAP := hide hcap
  have hlc := hat.1
  have hcm := hcap
  unfold maxLen at hcm
  simp only at hlc
  clear hIn1 hres1 hsz hhd hLB hat hb1 KS HX HV HIN HRES hce hcap
  obtain ⟨ib, hib⟩ : ∃ v : Bool, (b0.toList == [98, 108, 111, 99, 107]) = v := ⟨_, rfl⟩
  obtain ⟨r0, hr0⟩ : ∃ v : Bool, ((s.ropes.l.length : Int) == 0) = v := ⟨_, rfl⟩
  have hib2 : decide (bs b0 = wBlock) = ib := by rw [← hib]; exact (Bool.beq_eq_decide_eq _ _).symm
  have HR0 := hide hr0
  have HIB := hide hib2
  clear hib2
  go_upto_region 2 with fail
  go_cut [22] (fun a wx => a = .bool (ib && r0) ∧ wx = w1)
  case first =>
    cases ib
    · go_wp2_with fail
      go_meet
      exact ⟨rfl, rfl⟩
    · cases r0
      · go_wp2_with fail
        go_meet
        exact ⟨rfl, rfl⟩
      · go_wp2_with fail
        go_meet
        exact ⟨rfl, rfl⟩
  case rest =>
  obtain ⟨rfl, rfl⟩ := hcut
  clear hib hr0
  have HLN := hide hn
  obtain ⟨i0, hi, hz0, hz1, hz2⟩ := info_parts infoBlk
  obtain ⟨i1, hj, hy0, hy1, hy2⟩ := info_parts infoRpe
  have HI := hide (And.intro hi (And.intro hz0 (And.intro hz1 hz2)))
  have HJ := hide (And.intro hj (And.intro hy0 (And.intro hy1 hy2)))
  clear hi hz0 hz1 hz2 hj hy0 hy1 hy2
  have hWb : Below W.heap.size W wc := HIN1.out.st.bel
  have HWB := hide hWb
  have hWs := hWb.size
  clear hWb
  have ho0 : (⟨o, 0, none⟩ : Addr).block = o := rfl
  rcases (show (ib && r0) = true ∨ (ib && r0) = false by cases (ib && r0) <;> simp) with hblk | hblk
  · -- a block's line
    rw [hblk]
    simp only [Bool.and_eq_true] at hblk
    obtain ⟨rfl, rfl⟩ := hblk
    have hr0 : s.plain.ropes = [] := by
      have := HR0.out; simp at this
      show s.ropes.l.map RopeD.plain = []
      rw [this]; rfl
    have HE0 := hide (lineE_first (ok := fracOk) (s := s.plain) (w := LB.map bs) (by rw [HHD.out, of_decide_eq_true HIB.out]) hr0)
    have KB := hide (refBlockOf_any (some ⟨g, off, none⟩) cap LB (fun b hb => by have := HSZ.out b hb; omega) HCAP.out wc wc.heap.size (Nat.le_refl _) HAT.out)
    clear hr0 hc0 hb0
    go_wp2_with fail
    refine KB.out.mono ?_
    rintro e w2 ⟨b, okb, rfl, hbb, hbok, hbe⟩
    obtain ⟨y, rfl⟩ := After.exists_iff hbb
    have HBOK := hide hbok
    have HBE := hide hbe
    obtain ⟨V, hV, hVs, hVb, hVh⟩ := boxed y.val (.cells #[.string b.name, .int .i64 b.weight] 50)
    have hys := y.size
    have hVr := BlockD.boxed hVh (show y.val.heap.size < V.heap.size by omega) (After.refl _ _)
    simp only [After.refl] at hVr
    have HINv := hide ((HIN1.out.more y.below).more hVb)
    have hVo := two_cells HINv.out.box
    have HRv := hide (show V.heap[o + 1]? = _ from ((hVb.block _ (by omega)).trans (y.below.block _ ho1s)).trans HRES1.out)
    obtain ⟨f, hf⟩ : ∃ f, f = y.val.heap.size := ⟨_, rfl⟩
    rw [← hf] at hVr
    have HKV := hide (show ∀ (g : Nat) (cur : Array Value), x.heap[g]? = some (.cells cur 25 (0, 0)) → g < o ∧ V.heap[g]? = some (.cells cur 25 (0, 0)) from fun g cur hg => by
      obtain ⟨h1, h2⟩ := HK1.out g cur hg
      exact ⟨h1, (hVb.block g (by omega)).trans ((y.below.block g (by omega)).trans h2)⟩)
    have HF := hide hf
    have HV := hide hV
    have HAL := hide ((Below.refl V.heap.size V).alloc (Nat.le_refl _) (.cells #[.string b.name, .int .i64 b.weight] 50))
    have hnl : s.blocks.l.length ≤ 1000000 := by omega
    have hWV := HINv.out.st.bel.size
    have hoV2 : o < V.heap.size := HINv.out.lt
    clear hbb hbok hbe hV hVb hVh hf hbx0 hc00 hVs
    go_upto_region 4 with fail
    rw [← HV.out, ← HF.out]
    go_wp2_with (at_builtin; refine Hid.out ?_)
    refine Lib.hid ?_
    refine wpList_append_own _ rfl _ _ 22 rfl W.heap.size 50 i0 _ 2 24 Tryz.underlying22 HI.out.1 HI.out.2.1 HI.out.2.2.1 HI.out.2.2.2 rfl (by decide) _ _ _ rfl (HINv.out.st.blk.alloc _) ⟨V.heap.size, 0, none⟩ 1 1 b.cells rfl rfl (World.news_of_block (heap_alloc_new V _)) (fun u hu => by simp [BlockD.cells] at hu; rcases hu with rfl | rfl <;> rfl) (by unfold maxLen; omega) (by omega) (by simp; omega) ?_
    intro v3 w3 hown3 hgr3 _
    have HK3 := hide (show ∀ (g : Nat) (cur : Array Value), x.heap[g]? = some (.cells cur 25 (0, 0)) → g < o ∧ w3.heap[g]? = some (.cells cur 25 (0, 0)) from fun g cur hg => by
      obtain ⟨h1, h2⟩ := HKV.out g cur hg
      have h9 := (HAL.out.block g (Array.getElem?_eq_some_iff.1 h2).1).trans h2
      exact ⟨h1, (keep_type (HINv.out.more HAL.out).st.blk hgr3 h9 (by decide)).trans h9⟩)
    have hbx3 : w3.heap[o]? = some (.cells #[.slice s.blocks.A s.blocks.l.length s.blocks.cap, .slice s.ropes.A s.ropes.l.length s.ropes.cap] 25 (0, 0)) := (keep_type (HINv.out.more HAL.out).st.blk hgr3 (HINv.out.more HAL.out).box (by decide)).trans (HINv.out.more HAL.out).box
    have hrv3 : w3.heap[o + 1]? = some (.cells #[.slice none 0 0, .slice none 0 0] 25 (0, 0)) := by
      have h9 := (HAL.out.block (o + 1) (Array.getElem?_eq_some_iff.1 HRv.out).1).trans HRv.out
      exact (keep_type (HINv.out.more HAL.out).st.blk hgr3 h9 (by decide)).trans h9
    have q0 := block_set hbx3 (i := 0) v3
    simp only [List.setIfInBounds_toArray, List.set_cons_zero] at q0
    have r4 : (w3.setCell ⟨o, 0, none⟩ v3).heap[o + 1]? = some (.cells #[.slice none 0 0, .slice none 0 0] 25 (0, 0)) := (RowKit.Below.heap_setCell _ _ _ _ (by simp only; omega)).trans hrv3
    have hB4 := hide (below_row (o := o) (i := 0) (q := v3) HINv.out.st.bel HAL.out HINv.out.st.blk hgr3 HINv.out.lo)
    have hA4 : Hid (okb = true → ∃ A cap, v3 = .slice A (s.blocks.l.length + 1) cap ∧ SysIn W o ⟨⟨A, cap, s.blocks.l ++ [b]⟩, s.ropes⟩ (w3.setCell ⟨o, 0, none⟩ v3)) := hide fun h => (HINv.out.addBlock HAL.out (HBOK.out h) hown3 hgr3).2
    obtain ⟨A3, cap3, hv3, _⟩ := own_slice hown3
    subst hv3
    obtain ⟨w4, hw4⟩ : ∃ w4, w4 = w3.setCell ⟨o, 0, none⟩ (.slice A3 (s.blocks.l.length + 1) cap3) := ⟨_, rfl⟩
    have HW4 := hide hw4
    have hb3 := two_cells hbx3
    have hf3 := block_unfrozen hbx3 0
    rw [← hw4] at q0 r4 hB4 hA4
    have hc4 := two_cells q0
    have hr4 := two_cells r4
    have hz4 := block_unfrozen r4 0
    have hz5 := fun p => block_unfrozen (block_set r4 (i := 0) p) 1
    have hs4 := fun p q => two_cells (two_set (c := p) (d := q) r4)
    have HR4 := hide r4
    clear hown3 hgr3 hbx3 hrv3 hVr hVo hw4 q0 r4
    go_upto_region 5 with fail
    rw [← HW4.out]
    clear hb3 hf3
    go_wp2_with fail
    refine bodyPost_ret (by simp [results, Tryz.results19, go_sem, hs4]; try rfl) rfl ?_
    refine ⟨⟨⟨A3, cap3, s.blocks.l ++ [b]⟩, s.ropes⟩, okb, by simp, (hB4.out.setCell (p := ⟨o + 1, 0, none⟩) (by have := HWo.out; simp only; omega) _).setCell (p := ⟨o + 1, 1, none⟩) (by have := HWo.out; simp only; omega) _, fun g cur hg => by
      obtain ⟨h1, h2⟩ := HK3.out g cur hg
      rw [HW4.out, RowKit.Below.heap_setCell _ _ _ _ (by simp only; omega), RowKit.Below.heap_setCell _ _ _ _ (by simp only; omega), RowKit.Below.heap_setCell _ _ _ _ (by simp only; omega)]
      exact h2, ?_⟩
    cases okb
    · exact Or.inr ⟨rfl, by rw [← HLB.out, HE0.out, HBE.out]; rfl⟩
    · obtain ⟨A, cap, hv, hin⟩ := hA4.out rfl
      injection hv with e1 _ e3
      subst e1 e3
      exact Or.inl ⟨rfl, by rw [← HLB.out, HE0.out, HBE.out]; simp [SysD.plain], by simp; omega, hin.st.set2 HR4.out (by have := HWo.out; omega) _ _⟩
  · -- another line
    rw [hblk]
    obtain ⟨ir, hir⟩ : ∃ v : Bool, (b0.toList == [114, 111, 112, 101]) = v := ⟨_, rfl⟩
    have hir2 : decide (bs b0 = wRope) = ir := by rw [← hir]; exact (Bool.beq_eq_decide_eq _ _).symm
    cases ir
    · have HN := hide (show lineE fracOk s.plain (partsOf 32 (bs T)) = none by
        rw [← HLB.out]
        refine lineE_other (fun h => ?_) (fun h => ?_)
        · obtain ⟨h1, h2⟩ := h
          rw [HHD.out] at h1
          injection h1 with h1
          have e1 : ib = true := by rw [← HIB.out, h1]; rfl
          have e2 : r0 = true := by
            rw [← HR0.out]
            have : s.ropes.l.length = 0 := by rw [← List.length_map (f := RopeD.plain), show s.ropes.l.map RopeD.plain = [] from h2]; rfl
            simp [this]
          rw [e1, e2] at hblk
          cases hblk
        · rw [HHD.out] at h
          injection h with h
          rw [decide_eq_true h] at hir2
          cases hir2)
      have hr4 := two_cells HRES1.out
      have hz4 := block_unfrozen HRES1.out 0
      have hz5 := fun p => block_unfrozen (block_set HRES1.out (i := 0) p) 1
      have hs4 := fun p q => two_cells (two_set (c := p) (d := q) HRES1.out)
      clear hblk hir2
      go_wp2_with fail
      refine bodyPost_ret (by simp [results, Tryz.results19, go_sem, hs4]; try rfl) rfl ?_
      exact ⟨s, false, rfl, (HWB.out.setCell (p := ⟨o + 1, 0, none⟩) (by have := HWo.out; simp only; omega) _).setCell (p := ⟨o + 1, 1, none⟩) (by have := HWo.out; simp only; omega) _, fun g cur hg => by
        obtain ⟨h1, h2⟩ := HK1.out g cur hg
        rw [RowKit.Below.heap_setCell _ _ _ _ (by simp only; omega), RowKit.Below.heap_setCell _ _ _ _ (by simp only; omega)]
        exact h2, Or.inr ⟨rfl, HN.out⟩⟩
    · have HE := hide (lineE_second (ok := fracOk) (s := s.plain) (w := LB.map bs) (by rw [HHD.out, of_decide_eq_true hir2]))
      have KR := hide (refRopeOf_any (some ⟨g, off, none⟩) cap LB (fun b hb => by have := HSZ.out b hb; omega) (by omega) HCAP.out wc wc.heap.size (Nat.le_refl _) HAT.out)
      clear hblk hir2 hc0
      go_wp2_with fail
      refine KR.out.mono ?_
      rintro e w2 ⟨r, okr, rfl, hbr, hrok, hres⟩
      obtain ⟨y, rfl⟩ := After.exists_iff hbr
      have HRES := hide hres
      have HROK := hide hrok
      obtain ⟨V, hV, hVs, hVb, hVh⟩ := boxed y.val (.cells #[.string r.name, .slice r.holds.A r.holds.l.length r.holds.cap, .bool r.hauled] 53)
      have hys := y.size
      have hVr := RopeD.boxed hVh (show y.val.heap.size < V.heap.size by omega) (After.refl _ _)
      simp only [After.refl] at hVr
      have HINv := hide ((HIN1.out.more y.below).more hVb)
      have hVo := two_cells HINv.out.box
      have HRv := hide (show V.heap[o + 1]? = _ from ((hVb.block _ (by omega)).trans (y.below.block _ ho1s)).trans HRES1.out)
      obtain ⟨f, hf⟩ : ∃ f, f = y.val.heap.size := ⟨_, rfl⟩
      rw [← hf] at hVr
      have HKV := hide (show ∀ (g : Nat) (cur : Array Value), x.heap[g]? = some (.cells cur 25 (0, 0)) → g < o ∧ V.heap[g]? = some (.cells cur 25 (0, 0)) from fun g cur hg => by
        obtain ⟨h1, h2⟩ := HK1.out g cur hg
        exact ⟨h1, (hVb.block g (by omega)).trans ((y.below.block g (by omega)).trans h2)⟩)
      have HF := hide hf
      have HV := hide hV
      have HAL := hide ((Below.refl V.heap.size V).alloc (Nat.le_refl _) (.cells #[.string r.name, .slice r.holds.A r.holds.l.length r.holds.cap, .bool r.hauled] 53))
      have hnl : s.ropes.l.length ≤ 1000000 := by omega
      have hWV := HINv.out.st.bel.size
      have HHO := hide (show r.holds.l = [] ∧ r.holds.A = none ∧ r.holds.cap = 0 ∨ HoldsIn W.heap.size r (V.alloc (.cells #[.string r.name, .slice r.holds.A r.holds.l.length r.holds.cap, .bool r.hauled] 53)) by
        rcases HRES.out with ⟨_, _, h1⟩ | ⟨_, _, h1⟩
        · exact Or.inr (((h1.base hWs).more hVb).more HAL.out)
        · rw [h1]; exact Or.inl ⟨rfl, rfl, rfl⟩)
      clear hbr hrok hres hV hVb hVh hf hbx0 hc00 hVs
      go_upto_region 8 with fail
      rw [← HV.out, ← HF.out]
      go_wp2_with (at_builtin; refine Hid.out ?_)
      refine Lib.hid ?_
      refine wpList_append_own _ rfl _ _ 23 rfl W.heap.size 53 i1 _ 3 48 Tryz.underlying23 HJ.out.1 HJ.out.2.1 HJ.out.2.2.1 HJ.out.2.2.2 rfl (by decide) _ _ _ rfl (HINv.out.st.rop.alloc _) ⟨V.heap.size, 0, none⟩ 1 1 r.cells rfl rfl (World.news_of_block (heap_alloc_new V _)) (fun u hu => by simp [RopeD.cells] at hu; rcases hu with rfl | rfl | rfl <;> rfl) (by unfold maxLen; omega) (by omega) (by simp; omega) ?_
      intro v3 w3 hown3 hgr3 _
      have hrv3 : w3.heap[o + 1]? = some (.cells #[.slice none 0 0, .slice none 0 0] 25 (0, 0)) := by
        have h9 := (HAL.out.block (o + 1) (Array.getElem?_eq_some_iff.1 HRv.out).1).trans HRv.out
        exact (keep_type (HINv.out.more HAL.out).st.rop hgr3 h9 (by decide)).trans h9
      have HK3 := hide (show ∀ (g : Nat) (cur : Array Value), x.heap[g]? = some (.cells cur 25 (0, 0)) → g < o ∧ w3.heap[g]? = some (.cells cur 25 (0, 0)) from fun g cur hg => by
        obtain ⟨h1, h2⟩ := HKV.out g cur hg
        have h9 := (HAL.out.block g (Array.getElem?_eq_some_iff.1 h2).1).trans h2
        exact ⟨h1, (keep_type (HINv.out.more HAL.out).st.rop hgr3 h9 (by decide)).trans h9⟩)
      obtain ⟨hbx3, A4, c4, hv4, hin4⟩ := HINv.out.addRope HAL.out HROK.out HHO.out hown3 hgr3
      subst hv4
      have q0 := block_set hbx3 (i := 1) (.slice A4 (s.ropes.l.length + 1) c4)
      simp only [List.setIfInBounds_toArray, List.set_cons_zero, List.set_cons_succ] at q0
      have r4 : (w3.setCell ⟨o, 1, none⟩ (.slice A4 (s.ropes.l.length + 1) c4)).heap[o + 1]? = some (.cells #[.slice none 0 0, .slice none 0 0] 25 (0, 0)) := (RowKit.Below.heap_setCell _ _ _ _ (by simp only; omega)).trans hrv3
      obtain ⟨w4, hw4⟩ : ∃ w4, w4 = w3.setCell ⟨o, 1, none⟩ (.slice A4 (s.ropes.l.length + 1) c4) := ⟨_, rfl⟩
      have HW4 := hide hw4
      have hb3 := two_cells hbx3
      have hf3 := block_unfrozen hbx3 1
      rw [← hw4] at q0 r4 hin4
      have HIN4 := hide hin4
      have hc4 := two_cells q0
      have hr4 := two_cells r4
      have hz4 := block_unfrozen r4 0
      have hz5 := fun p => block_unfrozen (block_set r4 (i := 0) p) 1
      have hs4 := fun p q => two_cells (two_set (c := p) (d := q) r4)
      have HR4 := hide r4
      clear hown3 hgr3 hbx3 hrv3 hVr hVo hw4 q0 r4 hin4
      go_upto_region 9 with fail
      rw [← HW4.out]
      clear hb3 hf3
      go_wp2_with fail
      refine bodyPost_ret (by simp [results, Tryz.results19, go_sem, hs4]; try rfl) rfl ?_
      refine ⟨⟨s.blocks, ⟨A4, c4, s.ropes.l ++ [r]⟩⟩, okr, by simp, (HIN4.out.st.bel.setCell (p := ⟨o + 1, 0, none⟩) (by have := HWo.out; simp only; omega) _).setCell (p := ⟨o + 1, 1, none⟩) (by have := HWo.out; simp only; omega) _, fun g cur hg => by
        obtain ⟨h1, h2⟩ := HK3.out g cur hg
        rw [HW4.out, RowKit.Below.heap_setCell _ _ _ _ (by simp only; omega), RowKit.Below.heap_setCell _ _ _ _ (by simp only; omega), RowKit.Below.heap_setCell _ _ _ _ (by simp only; omega)]
        exact h2, ?_⟩
      rcases HRES.out with ⟨rfl, h1, _⟩ | ⟨rfl, h1, _⟩
      · exact Or.inl ⟨rfl, by rw [← HLB.out, HE.out, h1]; simp [SysD.plain], by simp; omega, HIN4.out.st.set2 HR4.out (by have := HWo.out; omega) _ _⟩
      · exact Or.inr ⟨rfl, by rw [← HLB.out, HE.out, h1]; rfl⟩
end Go.Proofs.YtgamhdbcejkllaaGreatDoor
namespace Go.Proofs.YtgamhdbcejkllaaGreatDoor
open Go.RowKit

theorem LinesAt.rest {T : List UInt8} {s : SysP} {i b k : Nat} (H : LinesAt fracOk T s i (T.drop b)) (hbk : b ≤ k) (hc : T[k]? = some 10) : LinesAt fracOk T s i ((T.drop b).take (k - b) ++ 10 :: T.drop (k + 1)) := by
  have h5 : (T.drop b)[k - b]? = some 10 := by rw [List.getElem?_drop, show b + (k - b) = k by omega]; exact hc
  obtain ⟨hlt, e2⟩ := List.getElem?_eq_some_iff.1 h5
  have e : T.drop b = (T.drop b).take (k - b) ++ 10 :: T.drop (k + 1) := by
    conv => lhs; rw [← List.take_append_drop (k - b) (T.drop b), List.drop_eq_getElem_cons hlt, e2]
    rw [List.drop_drop, show b + (k - b + 1) = k + 1 by omega]
  rw [e] at H
  exact H
theorem clean_part {T : List UInt8} {b k : Nat} (h : ∀ (j : Nat) (c : UInt8), b ≤ j → j < k → T[j]? = some c → c ≠ 10) : ∀ c ∈ (T.drop b).take (k - b), c ≠ 10 := fun c hc => by
  obtain ⟨j, hj, e⟩ := List.getElem_of_mem hc
  rw [List.length_take, List.length_drop] at hj
  refine h (b + j) c (by omega) (by omega) ?_
  rw [← e, List.getElem_take, List.getElem_drop, List.getElem?_eq_getElem]
set_option maxRecDepth 100000 in
set_option maxHeartbeats 8000000 in
theorem refParse_any (T : ByteArray) (hT : T.size ≤ 400000) (w : World) : Calls Tryz.prog 7 #[.string T] w (ParseR w (bs T)) := by
  obtain ⟨W1, hW1, hs1, hb1, hh1⟩ := boxed w (.cells #[.slice none 0 0, .slice none 0 0] 25)
  obtain ⟨W, hW, hs2, hb2, hh2⟩ := boxed W1 (.cells #[.int .i64 0, .int .i64 0] 29)
  obtain ⟨V, hV, hs3, hb3, hh3⟩ := boxed W (.cells #[.slice none 0 0, .slice none 0 0] 25)
  have hwW : Below w.heap.size w W := hb1.trans (hb2.mono (by omega))
  obtain ⟨r1, hr1⟩ : ∃ r, r = w.heap.size := ⟨_, rfl⟩
  rw [← hr1] at hh1 hs1
  have hr2 : W1.heap.size = r1 + 1 := by omega
  rw [hr2] at hh2 hs2
  have hr3 : W.heap.size = r1 + 1 + 1 := by omega
  have hc1 := fun z : After W.heap.size W => (z.below.block r1 (by omega)).trans ((hb2.block r1 (by omega)).trans hh1)
  have hc2 := fun z : After W.heap.size W => (z.below.block (r1 + 1) (by omega)).trans hh2
  have HRA := hide fun (z : After W.heap.size W) (p q u v : Value) => res_all (hc1 z) (hc2 z) (by omega) p q u v
  have HC1 := hide hc1
  have HC2 := hide hc2
  have HWW := hide hwW
  have HIN0 := hide (show SysIn W (r1 + 1 + 1) noSys V from ⟨SysSt.start hb3, by omega, by rw [← hr3]; exact hh3⟩)
  have HW := hide (show W = (w.alloc (.cells #[.slice none 0 0, .slice none 0 0] 25)).alloc (.cells #[.int .i64 0, .int .i64 0] 29) by rw [hW, hW1])
  have HV := hide hV
  have HR1 := hide hr1
  have hr1W : r1 < W.heap.size := by omega
  have hbT := bs_length T
  have HBAD : Hid (∀ (z : After W.heap.size W) (l c er : Int), ParseOf (bs T) noSys l c er → ParseR w (bs T) (.returned (.tuple #[.agg #[.slice none 0 0, .slice none 0 0], .agg #[.int .i64 l, .int .i64 c], .int .i64 er])) ((((z.val.setCell ⟨r1, 0, none⟩ (.slice none 0 0)).setCell ⟨r1, 1, none⟩ (.slice none 0 0)).setCell ⟨r1 + 1, 0, none⟩ (.int .i64 l)).setCell ⟨r1 + 1, 1, none⟩ (.int .i64 c))) := hide fun z l c er h =>
    ⟨noSys, l, c, er, rfl, h, noSys_ok, noSys_at _ _, (((((HWW.out.trans (z.below.mono (by omega))).setCell (p := ⟨r1, 0, none⟩) (by simp only; omega) _).setCell (p := ⟨r1, 1, none⟩) (by simp only; omega) _).setCell (p := ⟨r1 + 1, 0, none⟩) (by simp only; omega) _).setCell (p := ⟨r1 + 1, 1, none⟩) (by simp only; omega) _)⟩
  have HBT := hide hbT
  have HBY := hide (fun k (h : k < T.size) => bs_get T k h)
  clear hW1 hW hV hb1 hb2 hb3 hh1 hh2 hh3 hs1 hs2 hr1 hwW hc1 hc2 hbT hr2
  by_cases hbig : (262144 : Int) < (T.size : Int)
  · have HP := hide (show ParseOf (bs T) noSys 0 0 4 from Or.inl ⟨by have := HBT.out; omega, rfl, rfl, rfl, rfl⟩)
    have hra := fun p q u v => HRA.out (After.refl _ _) p q u v
    simp only [After.refl] at hra
    have hra2 := (hra (.slice none 0 0) (.slice none 0 0) (.int .i64 0) (.int .i64 0))
    go_enter Tryz.func7, Tryz.ntmps7
    go_upto_region 2 with fail
    rw [← HR1.out, ← HW.out]
    go_wp2_with fail
    refine bodyPost_ret (by simp [results, Tryz.results7, go_sem, hra2]; try rfl) rfl ?_
    exact HBAD.out (After.refl _ _) 0 0 4 HP.out
  have hsm : T.size ≤ 262144 := by omega
  have HSM := hide (show (bs T).length ≤ 262144 by have := HBT.out; omega)
  go_enter Tryz.func7, Tryz.ntmps7
  go_upto_region 4 with fail
  rw [← HR1.out, ← HW.out, ← HV.out]
  obtain ⟨o, ho⟩ : ∃ o, o = r1 + 1 + 1 := ⟨_, rfl⟩
  rw [← ho] at HIN0 ⊢
  have HO := hide ho
  have hoW : W.heap.size = o := by omega
  have HOW := hide hoW
  clear ho hoW hr3
  go_wp2_with fail
  go_loopw [6, 7, 8, 9, 10] (fun a z y _ _ wr => ∃ (b i k : Nat) (s : SysD), a = .int .i64 b ∧ z = .int .i64 i ∧ y = .int .i64 k ∧ b ≤ k ∧ k ≤ T.size ∧ i ≤ b + 1 ∧ s.blocks.l.length + s.ropes.l.length ≤ i ∧ Hid (LinesAt fracOk (bs T) s.plain i ((bs T).drop b)) ∧ Hid (∀ (j : Nat) (c : UInt8), b ≤ j → j < k → (bs T)[j]? = some c → c ≠ 10) ∧ Hid (SysIn W o s wr)) (fun _ _ y _ _ _ => T.size - (intOf y).toNat)
  case atStart => exact ⟨0, 1, 0, noSys, rfl, rfl, rfl, by omega, by omega, by omega, by simp [noSys], hide (LinesAt.start fracOk (bs T)), hide (fun j c h1 h2 => absurd h2 (by omega)), HIN0⟩
  case round =>
    obtain ⟨b, i, k, s, rfl, rfl, rfl, hbk, hk, hib, hln, hla, hcl, hin⟩ := hrel
    have hbW := hin.out.st.bel
    have HBW := hide hbW
    have hbWs := hbW.size
    clear hbW
    by_cases hlt : k < T.size
    · have hx := HBY.out k hlt
      have hi0 : (0 : Int) ≤ (k : Int) := by omega
      have hi1 : (k : Int) < (T.size : Int) := by omega
      by_cases h10 : T[k] = 10
      · have hq : ((T[k].toNat : Int) != 10) = false := by rw [h10]; rfl
        rw [h10] at hx
        obtain ⟨t, ht⟩ : ∃ t, t = T.extract b k := ⟨_, rfl⟩
        have hbt : bs t = ((bs T).drop b).take (k - b) := by rw [ht, bs_extract]
        have hts : t.size ≤ 262144 := by
          have := bs_length t
          rw [hbt, List.length_take] at this
          omega
        have HLA := hide (hla.out.rest hbk hx)
        have HNO := hide (clean_part hcl.out)
        rw [← hbt] at HLA HNO
        have KL := hide fun (u : World) (hu : Below wr.heap.size wr u) => refLine_any W s t (by omega) (by omega) u (hin.out.st.more hu)
        have hbx := fun (u : World) (hu : Below wr.heap.size wr u) => two_cells ((hin.out.more hu).box)
        have HT2 := hide ht
        have hb0 : (0 : Int) ≤ (b : Int) := by omega
        have hb1 : (b : Int) ≤ (k : Int) := by omega
        have hk2 : (k : Int) ≤ (T.size : Int) := by omega
        have hol := hin.out.lt
        have hbx0 := two_cells hin.out.box
        have hdr := hbx _ (Below.refl wr.heap.size wr).drew
        have hdra := fun o1 => hbx _ ((Below.refl wr.heap.size wr).alloc (Nat.le_refl _) o1)
        rw [HT2.out] at KL
        clear h10 hx hla hcl ht hbt
        have hKO := hide hin.out.box
        go_upto_region 10 with fail
        go_cut [9, 10] (fun x y wx => ∃ (nb : Nat) (s' : SysD) (ok : Bool), x = .pointer (some ⟨nb, 0, none⟩) ∧ y = .bool ok ∧ wx.heap[nb]? = some (.cells #[.slice s'.blocks.A s'.blocks.l.length s'.blocks.cap, .slice s'.ropes.A s'.ropes.l.length s'.ropes.cap] 25 (0, 0)) ∧ wx.heap[o]? = some (.cells #[.slice s.blocks.A s.blocks.l.length s.blocks.cap, .slice s.ropes.A s.ropes.l.length s.ropes.cap] 25 (0, 0)) ∧ Below W.heap.size W wx ∧ o < nb ∧ Hid ((ok = true ∧ lineE fracOk s.plain (partsOf 32 (bs t)) = some s'.plain ∧ s'.blocks.l.length + s'.ropes.l.length = s.blocks.l.length + s.ropes.l.length + 1 ∧ SysSt W s' wx) ∨ (ok = false ∧ lineE fracOk s.plain (partsOf 32 (bs t)) = none)))
        case first =>
          go_region_with (go_at_call 19; refine (KL.out _ (by first | exact (Below.refl _ _).drew | exact ((Below.refl _ _).alloc (Nat.le_refl _) _).drew)).mono ?_; rintro e w2 ⟨s', ok, rfl, hb2, hkeep, hr2⟩; try (have hk := hkeep wr.heap.size #[.slice none 0 0, .slice none 0 0] (heap_alloc_new wr _); have hk1 := two_cells hk; have hk2 := fun i => block_unfrozen hk i; have hk3 := fun p => (Joins.cell_of_block (block_set hk (i := 0) p) 1).trans rfl; have hk4 := fun p i => block_unfrozen (block_set hk (i := 0) p) i))
          · have hW2 := hb2.size
            have ho2 := hkeep o _ hKO.out
            have hol2 := (Array.getElem?_eq_some_iff.1 ho2).1
            have hal := (Below.refl w2.heap.size w2).alloc (Nat.le_refl _) (.cells #[.slice s'.blocks.A s'.blocks.l.length s'.blocks.cap, .slice s'.ropes.A s'.ropes.l.length s'.ropes.cap] 25)
            go_wp2_with fail
            go_meet
            exact ⟨w2.heap.size, s', ok, rfl, rfl, heap_alloc_new w2 _, (hal.block o hol2).trans ho2, hb2.trans (hal.mono hW2), hol2, hide (by
              rw [← HT2.out] at hr2
              rcases hr2 with ⟨h1, h2, h3, h4⟩ | h
              · exact Or.inl ⟨h1, h2, h3, h4.more hal⟩
              · exact Or.inr h)⟩
          all_goals
            have hW2 := hb2.size
            have ho2 := hkeep o _ ((((Below.refl wr.heap.size wr).alloc (Nat.le_refl _) _).block o hol).trans hKO.out)
            have HK := hide hk
            go_wp2_with fail
            go_meet
            exact ⟨wr.heap.size, s', ok, rfl, rfl, by rw [two_set HK.out], by rw [RowKit.Below.heap_setCell _ _ _ _ (by simp only; omega), RowKit.Below.heap_setCell _ _ _ _ (by simp only; omega)]; exact ho2, (hb2.setCell (p := ⟨wr.heap.size, 0, none⟩) (by simp only; omega) _).setCell (p := ⟨wr.heap.size, 1, none⟩) (by simp only; omega) _, hol, hide (by
              rw [← HT2.out] at hr2
              rcases hr2 with ⟨h1, h2, h3, h4⟩ | h
              · exact Or.inl ⟨h1, h2, h3, h4.set2 HK.out (by omega) _ _⟩
              · exact Or.inr h)⟩
        case rest =>
        obtain ⟨nb, s', ok, rfl, rfl, hnb, hob, hbw, hlt9, hr2⟩ := hcut
        have hn0 := two_cells hnb
        have ho0 := two_cells hob
        have ho1 := fun i => block_unfrozen hob i
        have ho2 : ∀ p, (wc.setCell ⟨o, 0, none⟩ p).cell? ⟨o, 1, none⟩ = _ := fun p => (Joins.cell_of_block (block_set hob (i := 0) p) 1).trans rfl
        have ho3 := fun p i => block_unfrozen (block_set hob (i := 0) p) i
        have HOB := hide hob
        have HBW2 := hide hbw
        clear hnb hob hbw hbx hbx0 hdr hdra
        cases ok
        · have hle : lineE fracOk s.plain (partsOf 32 (bs t)) = none := by
            rcases hr2.out with ⟨h, _⟩ | ⟨_, h⟩
            · cases h
            · exact h
          have HP := hide (show ParseOf (bs T) noSys i 1 7 from Or.inr (Or.inl ⟨HSM.out, i, HLA.out.stop HNO.out hle, rfl, rfl, rfl, rfl⟩))
          have hra2 := HRA.out ⟨wc, HBW2.out⟩ (.slice none 0 0) (.slice none 0 0) (.int .i64 i) (.int .i64 1)
          simp only at hra2
          clear hle hn0 ho0 ho1 ho2 ho3
          go_wp2_with fail
          refine bodyPost_ret (by simp [results, Tryz.results7, go_sem, hra2]; try rfl) rfl ?_
          exact HBAD.out ⟨wc, HBW2.out⟩ i 1 7 HP.out
        · obtain ⟨hle, hcnt, hst⟩ : lineE fracOk s.plain (partsOf 32 (bs t)) = some s'.plain ∧ s'.blocks.l.length + s'.ropes.l.length = s.blocks.l.length + s.ropes.l.length + 1 ∧ SysSt W s' wc := by
            rcases hr2.out with ⟨_, h⟩ | ⟨h, _⟩
            · exact h
            · cases h
          have HNX := hide (HLA.out.next HNO.out hle)
          have HIN2 := hide (show SysIn W o s' ((wc.setCell ⟨o, 0, none⟩ (.slice s'.blocks.A s'.blocks.l.length s'.blocks.cap)).setCell ⟨o, 1, none⟩ (.slice s'.ropes.A s'.ropes.l.length s'.ropes.cap)) from ⟨hst.set2 HOB.out (by have := HOW.out; omega) _ _, by have := HOW.out; omega, two_set HOB.out⟩)
          have hi62 : (i : Int) ≤ 400001 := by omega
          clear hle hst
          go_wp2_with fail
          exact ⟨⟨k + 1, i + 1, k + 1, s', by go_num, by go_num, by go_num, by omega, by omega, by omega, by omega, HNX, hide (fun j c h1 h2 => absurd h2 (by omega)), HIN2⟩, by simp [intOf]; omega⟩
      · have hq : ((T[k].toNat : Int) != 10) = true := by
          rw [bne_iff_ne]
          intro e
          exact h10 (UInt8.toNat_inj.1 (by have : T[k].toNat = 10 := by omega
                                           rw [this]; rfl))
        have HC := hide (show ∀ (j : Nat) (c : UInt8), b ≤ j → j < k + 1 → (bs T)[j]? = some c → c ≠ 10 from fun j c h1 h2 h3 => by
          by_cases e : j = k
          · subst e; rw [hx] at h3; injection h3 with h3; rw [← h3]; exact h10
          · exact hcl.out j c h1 (by omega) h3)
        clear h10 hx
        go_wp2_with fail
        exact ⟨⟨b, i, k + 1, s, rfl, rfl, by go_num, by omega, by omega, by omega, by omega, hla, HC, hin⟩, by simp [intOf]; omega⟩
    · obtain rfl : k = T.size := by omega
      have hbTs := HBT.out
      rcases Nat.lt_or_ge b T.size with hbl | hbl
      · have hbi : (b : Int) < (T.size : Int) := by omega
        have HP := hide (show ParseOf (bs T) noSys i 1 7 from Or.inr (Or.inl ⟨HSM.out, i, hla.out.open_ (fun h => by have := congrArg List.length h; rw [List.length_drop] at this; simp at this; omega) (fun c hc => by
          have h9 := clean_part hcl.out c
          rw [List.take_of_length_le (by rw [List.length_drop]; omega)] at h9
          exact h9 hc), rfl, rfl, rfl, rfl⟩))
        have hra2 := HRA.out ⟨wr, HBW.out⟩ (.slice none 0 0) (.slice none 0 0) (.int .i64 i) (.int .i64 1)
        simp only at hra2
        clear hbl hbTs
        go_wp2_with fail
        refine bodyPost_ret (by simp [results, Tryz.results7, go_sem, hra2]; try rfl) rfl ?_
        exact HBAD.out ⟨wr, HBW.out⟩ i 1 7 HP.out
      · have hbi : ¬ (b : Int) < (T.size : Int) := by omega
        have HLD := hide (show linesE fracOk ⟨[], []⟩ 1 (partsOf 10 (bs T)) = .ok s.plain by
          have h := hla.out
          rw [List.drop_of_length_le (by omega)] at h
          exact h.done)
        have hbx := two_cells hin.out.box
        have KV := hide (Gives.first (refValidS_any s hin.out.st.ok wr wr.heap.size (Nat.le_refl _) hin.out.st.at_))
        obtain ⟨v, hv⟩ : ∃ v, sysOk s = v := ⟨_, rfl⟩
        rw [hv] at KV
        have HVV := hide hv
        have hbxz := fun z : After wr.heap.size wr => two_cells ((hin.out.more z.below).box)
        clear hv hbl hbTs hla hcl
        cases v
        · have HP := hide (show ParseOf (bs T) noSys 0 0 1 from Or.inr (Or.inr (Or.inr ⟨HSM.out, ⟨s, HLD.out, HVV.out⟩, rfl, rfl, rfl, rfl⟩)))
          go_wp2_with (go_at_call 10; refine KV.out.mono ?_; rintro e w1 ⟨rfl, z, rfl⟩; have hra2 := HRA.out ⟨z.val, HBW.out.trans (z.below.mono hbWs)⟩ (.slice none 0 0) (.slice none 0 0) (.int .i64 0) (.int .i64 0); simp only at hra2)
          refine bodyPost_ret (by simp [results, Tryz.results7, go_sem, hra2]; try rfl) rfl ?_
          exact HBAD.out ⟨z.val, HBW.out.trans (z.below.mono hbWs)⟩ 0 0 1 HP.out
        · have HP := hide (show ParseOf (bs T) s 0 0 0 from Or.inr (Or.inr (Or.inl ⟨HSM.out, HLD.out, HVV.out, rfl, rfl, rfl⟩)))
          go_wp2_with (go_at_call 10; refine KV.out.mono ?_; rintro e w1 ⟨rfl, z, rfl⟩; have hbz := hbxz z; have hra2 := HRA.out ⟨z.val, HBW.out.trans (z.below.mono hbWs)⟩ (.slice s.blocks.A s.blocks.l.length s.blocks.cap) (.slice s.ropes.A s.ropes.l.length s.ropes.cap) (.int .i64 0) (.int .i64 0); simp only at hra2)
          refine bodyPost_ret (by simp [results, Tryz.results7, go_sem, hra2]; try rfl) rfl ?_
          have hst := (hin.out.st.more z.below).from HWW.out
          have hst4 := hst.put4 (HC1.out ⟨z.val, HBW.out.trans (z.below.mono hbWs)⟩) (HC2.out ⟨z.val, HBW.out.trans (z.below.mono hbWs)⟩) (by rw [HR1.out]; exact Nat.le_refl _) (by omega) (.slice s.blocks.A s.blocks.l.length s.blocks.cap) (.slice s.ropes.A s.ropes.l.length s.ropes.cap) (.int .i64 0) (.int .i64 0)
          exact ⟨s, 0, 0, 0, rfl, HP.out, hst4.ok, hst4.at_, hst4.bel⟩
end Go.Proofs.YtgamhdbcejkllaaGreatDoor
