/- reeving.rope and the reference's rope. -/
import Derived.Test.YtgamhdbcejkllaaGreatDoorReeveHold
namespace Go.Proofs.YtgamhdbcejkllaaGreatDoor
open Go.RowKit

theorem ropeOk_len {bl : List BlockD} {r : RopeD} (h : betweenB (r.holds.l.length : Int) 2 10 = false) : ropeOk bl r = false := by rw [ropeOk, h]; rfl
theorem ropeOk_hold {bl : List BlockD} {r : RopeD} {k : Nat} {h : HoldD} (hk : r.holds.l[k]? = some h) (hn : holdOk bl h (isEnd r.holds.l.length k) = false) : ropeOk bl r = false := by
  rw [ropeOk, holdsOk, allIdx_no hk hn, Bool.and_false]; rfl
theorem ropeOk_yes {bl : List BlockD} {r : RopeD} {k : Nat} (h : betweenB (r.holds.l.length : Int) 2 10 = true) (hk : r.holds.l.length ≤ k) (hu : UpTo (fun i h => holdOk bl h (isEnd r.holds.l.length i)) r.holds.l k) : ropeOk bl r = (!r.hauled || lastFree r.holds.l) := by
  rw [ropeOk, h, holdsOk, hu.all hk]; rfl
theorem lastFree_of {l : List HoldD} {x : HoldD} (h : l[l.length - 1]? = some x) : lastFree l = x.block.toList.isEmpty := by
  rw [lastFree, List.getLast?_eq_getElem?, h]
theorem isEnd_cases (n k : Nat) : (k = 0 ∧ isEnd n k = true) ∨ (k ≠ 0 ∧ k + 1 = n ∧ isEnd n k = true) ∨ (k ≠ 0 ∧ k + 1 ≠ n ∧ isEnd n k = false) := by
  by_cases h0 : k = 0
  · exact Or.inl ⟨h0, by simp [isEnd, h0]⟩
  · by_cases h1 : k + 1 = n
    · exact Or.inr (Or.inl ⟨h0, h1, by simp [isEnd, h1]⟩)
    · exact Or.inr (Or.inr ⟨h0, h1, by simp [isEnd, h0, h1]⟩)
set_option maxRecDepth 100000 in
set_option maxHeartbeats 4000000 in
theorem rope_any (s : SysD) (r : RopeD) (hok : r.ok) (w : World) (B : Nat) (hB : B ≤ w.heap.size) (hat : SysD.at_ w B s) (hrat : RopeD.at_ w B r) :
    Calls Tryz.prog 36 #[.agg #[.slice s.blocks.A s.blocks.l.length s.blocks.cap, .slice s.ropes.A s.ropes.l.length s.ropes.cap], .agg #[.string r.name, .slice r.holds.A r.holds.l.length r.holds.cap, .bool r.hauled]] w (Gives w (.bool (ropeOk s.blocks.l r))) := by
  obtain ⟨W1, hW1, hs1, hb1, hh1⟩ := boxed w (.cells #[.slice s.blocks.A s.blocks.l.length s.blocks.cap, .slice s.ropes.A s.ropes.l.length s.ropes.cap] 25)
  obtain ⟨W, hW2, hs2, hb2, hh2⟩ := boxed W1 (.cells #[.string r.name, .slice r.holds.A r.holds.l.length r.holds.cap, .bool r.hauled] 53)
  have hb : Below w.heap.size w W := hb1.trans (hb2.mono (by omega))
  have hh1' : W.heap[w.heap.size]? = some (.cells #[.slice s.blocks.A s.blocks.l.length s.blocks.cap, .slice s.ropes.A s.ropes.l.length s.ropes.cap] 25 (0, 0)) := (hb2.block _ (by omega)).trans hh1
  rw [hs1] at hh2
  have hcS := fun y : After W.heap.size W => SysD.boxed hh1' (by omega) y
  have hcR := fun y : After W.heap.size W => RopeD.boxed hh2 (by omega) y
  have hbd : ∀ y : After W.heap.size W, Below w.heap.size w y.val := fun y => hb.trans (y.below.mono (by omega))
  have hhold := fun (v : World) (hv : Below W.heap.size W v) (h : HoldD) (hk : h.ok) (e : Bool) => hold_any s h hk e v W.heap.size hv.size (hat.to ((hb.mono hB).trans (hv.mono (by omega))) (by omega))
  have hsl : SlAt W W.heap.size 4 HoldD.cells r.holds := SlAt.to hrat (hb.mono hB) (by omega)
  have HW := hide (show W = (w.alloc (.cells #[.slice s.blocks.A s.blocks.l.length s.blocks.cap, .slice s.ropes.A s.ropes.l.length s.ropes.cap] 25)).alloc (.cells #[.string r.name, .slice r.holds.A r.holds.l.length r.holds.cap, .bool r.hauled] 53) by rw [hW2, hW1])
  have HBD := hide hbd
  have HH := hide hhold
  have HSL := hide hsl
  have HOK := hide hok.holds
  have YR : W = (After.refl W.heap.size W).val := rfl
  have HNL := hide (ropeOk_len (bl := s.blocks.l) (r := r))
  have HNH := hide (fun (k : Nat) (h : HoldD) hk hn => ropeOk_hold (bl := s.blocks.l) (r := r) (k := k) (h := h) hk hn)
  have HY := hide (fun (k : Nat) h hk hu => ropeOk_yes (bl := s.blocks.l) (r := r) (k := k) h hk hu)
  obtain ⟨res, hres⟩ : ∃ res, res = ropeOk s.blocks.l r := ⟨_, rfl⟩
  rw [← hres] at HNL HNH HY ⊢
  have hm : r.holds.cap ≤ 9223372036854775807 := hsl.2.1
  have hlc : r.holds.l.length ≤ r.holds.cap := hsl.1
  clear hW1 hW2 hs1 hs2 hh1 hh2 hh1' hb1 hb2 hb hbd hat hrat hhold hsl hok hres
  obtain ⟨name, ⟨A, cap, l⟩, hauled⟩ := r
  simp only at *
  rcases Bool.eq_false_or_eq_true (betweenB (l.length : Int) 2 10) with hlen | hlen
  · obtain ⟨hl2, hl10⟩ := betweenB_iff.1 hlen
    have HLEN := hide hlen
    go_enter Tryz.func36, Tryz.ntmps36
    go_wp2_with (go_at_call 33; rw [← HW.out]; refine (Gives.first (within_any _ _ _ _)).mono ?_; rintro e w' ⟨rfl, y, rfl⟩)
    go_loopw [17] (fun v wr => ∃ k : Nat, v = .int .i64 k ∧ k ≤ l.length ∧ Hid (UpTo (fun i h => holdOk s.blocks.l h (isEnd l.length i)) l k) ∧ ∃ x : After W.heap.size W, wr = x.val) (fun v _ => l.length - (intOf v).toNat)
    case atStart => exact ⟨0, rfl, Nat.zero_le _, UpTo.zero _ _, _, rfl⟩
    case round =>
      obtain ⟨b, off, hA, hb, hcell⟩ := HSL.out.2.2 (show 0 < l.length by omega)
      simp only at hA
      subst hA
      obtain ⟨k, rfl, hk, hall, x, rfl⟩ := hrel
      by_cases hlt : k < l.length
      · have hx : l[k]? = some l[k] := List.getElem?_eq_getElem hlt
        have he := fun x : After W.heap.size W => HoldD.elem hx (show b < W.heap.size by omega) hcell x
        have hko := HOK.out l[k] (List.getElem_mem hlt)
        have HX := hide hx
        clear hcell hx
        obtain ⟨V, hV, hVs, hVb, hVh⟩ := boxed x.val (.cells #[.string l[k].block, .int .i64 l[k].pulls, .int .i64 l[k].num, .int .i64 l[k].den] 57)
        have hc := fun y : After V.heap.size V => HoldD.boxed hVh (by omega) y
        have hbd2 : ∀ y : After V.heap.size V, Below W.heap.size W y.val := fun y => x.below.trans ((hVb.mono x.size).trans (y.below.mono (by have := x.size; omega)))
        have hcS2 := fun y : After V.heap.size V => hcS ⟨y.val, hbd2 y⟩
        have hcR2 := fun y : After V.heap.size V => hcR ⟨y.val, hbd2 y⟩
        have hbo : ∀ o, Below W.heap.size W (x.val.alloc o) := fun o => x.below.trans (((Below.refl x.val.heap.size x.val).alloc (Nat.le_refl _) o).mono x.size)
        have hcS3 := fun o => hcS ⟨x.val.alloc o, hbo o⟩
        have hcR3 := fun o => hcR ⟨x.val.alloc o, hbo o⟩
        simp only at hcS2 hcR2 hcS3 hcR3
        clear hbo
        have HV := hide hV
        have HBD2 := hide hbd2
        clear hV hVs hVh hVb hbd2
        rcases isEnd_cases l.length k with ⟨h0, hie⟩ | ⟨h0, h1, hie⟩ | ⟨h0, h1, hie⟩
        all_goals
          have e0 : ((k : Int) == 0) = decide (k = 0) := by rw [Bool.eq_iff_iff]; simp
          have e1 : ((k : Int) == (l.length : Int) - 1) = decide (k + 1 = l.length) := by rw [Bool.eq_iff_iff]; simp; omega
          first
            | (rw [decide_eq_true h0] at e0; clear e1; clear h0)
            | (rw [decide_eq_false h0] at e0; rw [decide_eq_true h1] at e1; clear h0 h1)
            | (rw [decide_eq_false h0] at e0; rw [decide_eq_false h1] at e1; clear h0 h1)
          have HIE := hide hie
          clear hie
          rcases Bool.eq_false_or_eq_true (holdOk s.blocks.l l[k] (isEnd l.length k)) with hh | hh
          all_goals
            rw [HIE.out] at hh
            go_wp2_with (go_at_call 57; rw [← HV.out]; refine (Gives.first (HH.out V (HBD2.out (After.refl _ _)) l[k] hko _)).mono ?_; rintro e w' ⟨rfl, y, rfl⟩)
          · exact ⟨⟨k + 1, by go_num, by omega, hall.out.next HX.out (by rw [HIE.out]; exact hh), ⟨_, HBD2.out _⟩, rfl⟩, by simp [intOf]; omega⟩
          · go_ret
            exact Gives.mk (congrArg Value.bool (HNH.out k l[k] HX.out (by rw [HIE.out]; exact hh)).symm) (HBD.out ⟨_, HBD2.out _⟩)
      · have hkl : k = l.length := by omega
        subst hkl
        have HRES := hide (HY.out l.length HLEN.out (Nat.le_refl _) hall.out)
        have hx : l[l.length - 1]? = some l[l.length - 1] := List.getElem?_eq_getElem (by omega)
        have he := fun x : After W.heap.size W => (HoldD.elem hx (show b < W.heap.size by omega) hcell x).1
        have HLF := hide (lastFree_of hx)
        have hin : (l.length : Int) - 1 < (l.length : Int) := by omega
        have hi0 : (0 : Int) ≤ (l.length : Int) - 1 := by omega
        have hn1 : ((l.length : Int) - 1).toNat = l.length - 1 := by omega
        clear hcell hx
        rcases Bool.eq_false_or_eq_true hauled with hu | hu
        all_goals
          go_wp2
          go_ret
          refine Gives.mk (congrArg Value.bool ?_) (HBD.out _)
          rw [HRES.out, HLF.out]
          simp_all
  · have HNO := hide (HNL.out hlen)
    go_enter Tryz.func36, Tryz.ntmps36
    go_wp2_with (go_at_call 33; rw [← HW.out]; refine (Gives.first (within_any _ _ _ _)).mono ?_; rintro e w' ⟨rfl, y, rfl⟩)
    go_ret
    exact Gives.mk (congrArg Value.bool HNO.out.symm) (HBD.out _)
set_option maxRecDepth 100000 in
set_option maxHeartbeats 4000000 in
theorem refRope_any (s : SysD) (r : RopeD) (hok : r.ok) (w : World) (B : Nat) (hB : B ≤ w.heap.size) (hat : SysD.at_ w B s) (hrat : RopeD.at_ w B r) :
    Calls Tryz.prog 28 #[.agg #[.slice s.blocks.A s.blocks.l.length s.blocks.cap, .slice s.ropes.A s.ropes.l.length s.ropes.cap], .agg #[.string r.name, .slice r.holds.A r.holds.l.length r.holds.cap, .bool r.hauled]] w (Gives w (.bool (ropeOk s.blocks.l r))) := by
  obtain ⟨W1, hW1, hs1, hb1, hh1⟩ := boxed w (.cells #[.slice s.blocks.A s.blocks.l.length s.blocks.cap, .slice s.ropes.A s.ropes.l.length s.ropes.cap] 25)
  obtain ⟨W, hW2, hs2, hb2, hh2⟩ := boxed W1 (.cells #[.string r.name, .slice r.holds.A r.holds.l.length r.holds.cap, .bool r.hauled] 53)
  have hb : Below w.heap.size w W := hb1.trans (hb2.mono (by omega))
  have hh1' : W.heap[w.heap.size]? = some (.cells #[.slice s.blocks.A s.blocks.l.length s.blocks.cap, .slice s.ropes.A s.ropes.l.length s.ropes.cap] 25 (0, 0)) := (hb2.block _ (by omega)).trans hh1
  rw [hs1] at hh2
  have hcS := fun y : After W.heap.size W => SysD.boxed hh1' (by omega) y
  have hcR := fun y : After W.heap.size W => RopeD.boxed hh2 (by omega) y
  have hbd : ∀ y : After W.heap.size W, Below w.heap.size w y.val := fun y => hb.trans (y.below.mono (by omega))
  have hhold := fun (v : World) (hv : Below W.heap.size W v) (h : HoldD) (hk : h.ok) (e : Bool) => refHold_any s h hk e v W.heap.size hv.size (hat.to ((hb.mono hB).trans (hv.mono (by omega))) (by omega))
  have hsl : SlAt W W.heap.size 4 HoldD.cells r.holds := SlAt.to hrat (hb.mono hB) (by omega)
  have HW := hide (show W = (w.alloc (.cells #[.slice s.blocks.A s.blocks.l.length s.blocks.cap, .slice s.ropes.A s.ropes.l.length s.ropes.cap] 25)).alloc (.cells #[.string r.name, .slice r.holds.A r.holds.l.length r.holds.cap, .bool r.hauled] 53) by rw [hW2, hW1])
  have HBD := hide hbd
  have HH := hide hhold
  have HSL := hide hsl
  have HOK := hide hok.holds
  have YR : W = (After.refl W.heap.size W).val := rfl
  have HNL := hide (ropeOk_len (bl := s.blocks.l) (r := r))
  have HNH := hide (fun (k : Nat) (h : HoldD) hk hn => ropeOk_hold (bl := s.blocks.l) (r := r) (k := k) (h := h) hk hn)
  have HY := hide (fun (k : Nat) h hk hu => ropeOk_yes (bl := s.blocks.l) (r := r) (k := k) h hk hu)
  obtain ⟨res, hres⟩ : ∃ res, res = ropeOk s.blocks.l r := ⟨_, rfl⟩
  rw [← hres] at HNL HNH HY ⊢
  have hm : r.holds.cap ≤ 9223372036854775807 := hsl.2.1
  have hlc : r.holds.l.length ≤ r.holds.cap := hsl.1
  clear hW1 hW2 hs1 hs2 hh1 hh2 hh1' hb1 hb2 hb hbd hat hrat hhold hsl hok hres
  obtain ⟨name, ⟨A, cap, l⟩, hauled⟩ := r
  simp only at *
  have HWb := hide (HBD.out (After.refl _ _))
  rcases Bool.eq_false_or_eq_true (betweenB (l.length : Int) 2 10) with hlen | hlen
  · obtain ⟨hl2, hl10⟩ := betweenB_iff.1 hlen
    have HLEN := hide hlen
    clear hlen
    have d1 : ¬ (l.length : Int) < 2 := by omega
    have d2 : ¬ 10 < (l.length : Int) := by omega
    obtain ⟨b, off, hA, hb, hcell⟩ := HSL.out.2.2 (show 0 < l.length by omega)
    simp only at hA
    subst hA
    have HCELL := hide hcell
    clear hcell
    go_enter Tryz.func28, Tryz.ntmps28
    go_wp2
    rw [← HW.out]
    go_loopw [5] (fun v wr => ∃ k : Nat, v = .int .i64 k ∧ k ≤ l.length ∧ Hid (UpTo (fun i h => holdOk s.blocks.l h (isEnd l.length i)) l k) ∧ ∃ x : After W.heap.size W, wr = x.val) (fun v _ => l.length - (intOf v).toNat)
    case atStart => exact ⟨0, rfl, Nat.zero_le _, UpTo.zero _ _, After.refl _ _, rfl⟩
    case round =>
      obtain ⟨k, rfl, hk, hall, x, rfl⟩ := hrel
      by_cases hlt : k < l.length
      · have hx : l[k]? = some l[k] := List.getElem?_eq_getElem hlt
        have he := fun x : After W.heap.size W => HoldD.elem hx (show b < W.heap.size by omega) HCELL.out x
        have hko := HOK.out l[k] (List.getElem_mem hlt)
        have HX := hide hx
        have hin : (k : Int) < (l.length : Int) := by omega
        have hi0 : (0 : Int) ≤ (k : Int) := by omega
        clear hx
        rcases isEnd_cases l.length k with ⟨h0, hie⟩ | ⟨h0, h1, hie⟩ | ⟨h0, h1, hie⟩
        all_goals
          have e0 : ((k : Int) == 0) = decide (k = 0) := by rw [Bool.eq_iff_iff]; simp
          have e1 : ((k : Int) == (l.length : Int) - 1) = decide (k + 1 = l.length) := by rw [Bool.eq_iff_iff]; simp; omega
          first
            | (rw [decide_eq_true h0] at e0; clear e1; clear h0)
            | (rw [decide_eq_false h0] at e0; rw [decide_eq_true h1] at e1; clear h0 h1)
            | (rw [decide_eq_false h0] at e0; rw [decide_eq_false h1] at e1; clear h0 h1)
          have HIE := hide hie
          clear hie
          rcases Bool.eq_false_or_eq_true (holdOk s.blocks.l l[k] (isEnd l.length k)) with hh | hh
          all_goals
            rw [HIE.out] at hh
            go_wp2
            refine wp_region_after x (by kernel_rfl) (by kernel_rfl) ?_
            repeat (go_big_quiet_step ((go_at_call 50; exact Gives.after (Nat.le_refl _) (HH.out _ (After.below _) l[k] hko _))))
            refine wpQuiet_nil ?_
            intro z
            go_wp2
          · exact ⟨⟨k + 1, by go_num, by omega, hall.out.next HX.out (by rw [HIE.out]; exact hh), _, rfl⟩, by simp [intOf]; omega⟩
          · go_ret
            exact Gives.mk (congrArg Value.bool (HNH.out k l[k] HX.out (by rw [HIE.out]; exact hh)).symm) (HBD.out _)
      · have hkl : k = l.length := by omega
        subst hkl
        have HRES := hide (HY.out l.length HLEN.out (Nat.le_refl _) hall.out)
        have hx : l[l.length - 1]? = some l[l.length - 1] := List.getElem?_eq_getElem (by omega)
        have he := fun x : After W.heap.size W => (HoldD.elem hx (show b < W.heap.size by omega) HCELL.out x).1
        have HLF := hide (lastFree_of hx)
        have hin : (l.length : Int) - 1 < (l.length : Int) := by omega
        have hi0 : (0 : Int) ≤ (l.length : Int) - 1 := by omega
        have hn1 : ((l.length : Int) - 1).toNat = l.length - 1 := by omega
        clear hx
        rcases Bool.eq_false_or_eq_true hauled with hu | hu
        all_goals
          go_wp2
          go_ret
          refine Gives.mk (congrArg Value.bool ?_) (HBD.out _)
          rw [HRES.out, HLF.out]
          simp_all
  · have HNO := hide (HNL.out hlen)
    have hlen' := betweenB_false.1 hlen
    go_enter Tryz.func28, Tryz.ntmps28
    go_wp2
    all_goals first
      | (go_ret; rw [← HW.out]; exact Gives.mk (congrArg Value.bool HNO.out.symm) HWb.out)
      | (exfalso; omega)
end Go.Proofs.YtgamhdbcejkllaaGreatDoor
