/- loftblockref10.sameRope and Same. -/
import Derived.Test.YtgamhdbcejkllaaGreatDoorReeveSame
namespace Go.Proofs.YtgamhdbcejkllaaGreatDoor
open Go.RowKit

set_option maxRecDepth 100000 in
set_option maxHeartbeats 4000000 in
theorem sameRope_any (x y : RopeD) (w : World) (B : Nat) (hB : B ≤ w.heap.size) (hx : RopeD.at_ w B x) (hy : RopeD.at_ w B y) :
    Calls Tryz.prog 20 #[.agg #[.string x.name, .slice x.holds.A x.holds.l.length x.holds.cap, .bool x.hauled], .agg #[.string y.name, .slice y.holds.A y.holds.l.length y.holds.cap, .bool y.hauled]] w (Gives w (.bool (ropeEq x y))) := by
  obtain ⟨W1, hW1, hs1, hb1, hh1⟩ := boxed w (.cells #[.string x.name, .slice x.holds.A x.holds.l.length x.holds.cap, .bool x.hauled] 53)
  obtain ⟨W, hW2, hs2, hb2, hh2⟩ := boxed W1 (.cells #[.string y.name, .slice y.holds.A y.holds.l.length y.holds.cap, .bool y.hauled] 53)
  have hb : Below w.heap.size w W := hb1.trans (hb2.mono (by omega))
  have hh1' : W.heap[w.heap.size]? = some (.cells #[.string x.name, .slice x.holds.A x.holds.l.length x.holds.cap, .bool x.hauled] 53 (0, 0)) := (hb2.block _ (by omega)).trans hh1
  rw [hs1] at hh2
  have hcx := fun y : After W.heap.size W => RopeD.boxed hh1' (by omega) y
  have hcy := fun y : After W.heap.size W => RopeD.boxed hh2 (by omega) y
  have hbd : ∀ y : After W.heap.size W, Below w.heap.size w y.val := fun y => hb.trans (y.below.mono (by omega))
  have HW := hide (show W = (w.alloc (.cells #[.string x.name, .slice x.holds.A x.holds.l.length x.holds.cap, .bool x.hauled] 53)).alloc (.cells #[.string y.name, .slice y.holds.A y.holds.l.length y.holds.cap, .bool y.hauled] 53) by rw [hW2, hW1])
  have HS := hide (SlAt.to hx (hb.mono hB) (by omega) : SlAt W W.heap.size 4 HoldD.cells x.holds)
  have HS' := hide (SlAt.to hy (hb.mono hB) (by omega) : SlAt W W.heap.size 4 HoldD.cells y.holds)
  have HBD := hide hbd
  have HB0 := hide (hbd (After.refl _ _))
  have hm : x.holds.cap ≤ 9223372036854775807 := hx.2.1
  have hlc : x.holds.l.length ≤ x.holds.cap := hx.1
  have hm' : y.holds.cap ≤ 9223372036854775807 := hy.2.1
  have hlc' : y.holds.l.length ≤ y.holds.cap := hy.1
  clear hW1 hW2 hs1 hs2 hh1 hh2 hh1' hb1 hb2 hb hbd hx hy
  rcases ropeEq_cases x y with ⟨c1, hq⟩ | ⟨c1, c2, hq⟩ | ⟨c1, c2, hq⟩
  · rw [hq]
    clear hq
    have c1' : (x.name.toList != y.name.toList) = true := by rw [bne, c1]; rfl
    go_enter Tryz.func20, Tryz.ntmps20
    go_wp2
    go_ret
    rw [← HW.out]
    exact Gives.mk rfl HB0.out
  · rw [hq]
    clear hq
    have c1' : (x.name.toList != y.name.toList) = false := by rw [bne, c1]; rfl
    have c3 : (x.hauled != y.hauled) = true := by simpa using c2
    go_enter Tryz.func20, Tryz.ntmps20
    go_wp2
    go_ret
    rw [← HW.out]
    exact Gives.mk rfl HB0.out
  · rw [hq]
    clear hq
    have c1' : (x.name.toList != y.name.toList) = false := by rw [bne, c1]; rfl
    obtain ⟨nm, ⟨A, cap, l⟩, u⟩ := x
    obtain ⟨nm', ⟨A', cap', l'⟩, u'⟩ := y
    simp only at *
    subst c2
    obtain ⟨res, hres⟩ : ∃ res, res = listEq holdEq l l' := ⟨_, rfl⟩
    rw [← hres]
    have HR := hide hres
    clear hres
    by_cases hl : l.length = l'.length
    · have HL := hide hl
      have HY := hide (fun (k : Nat) hk hu => listEq_yes (eq := holdEq) (k := k) hl hk hu)
      have HN := hide (fun (k : Nat) (x y : HoldD) hx hy h => listEq_no (eq := holdEq) (l := l) (l' := l') (k := k) (x := x) (y := y) hx hy h)
      rw [← HR.out] at HY HN
      rw [← hl] at hlc' hcy HW ⊢
      clear hl HR
      go_enter Tryz.func20, Tryz.ntmps20
      go_wp2
      rw [← HW.out]
      go_loopw [5] (fun v wr => ∃ k : Nat, v = .int .i64 k ∧ k ≤ l.length ∧ Hid (UpTo (eqAt holdEq l') l k) ∧ ∃ x : After W.heap.size W, wr = x.val) (fun v _ => l.length - (intOf v).toNat)
      case atStart => exact ⟨0, rfl, Nat.zero_le _, hide (UpTo.zero _ _), After.refl _ _, rfl⟩
      case round =>
        obtain ⟨k, rfl, hk, hall, x, rfl⟩ := hrel
        by_cases hlt : k < l.length
        · have hlt' : k < l'.length := by rw [← HL.out]; exact hlt
          obtain ⟨b, off, hA, hb, hcell⟩ := HS.out.2.2 (show 0 < l.length by omega)
          obtain ⟨b', off', hA', hb', hcell'⟩ := HS'.out.2.2 (show 0 < l'.length by omega)
          simp only at hA hA'
          subst hA
          subst hA'
          have hx : l[k]? = some l[k] := List.getElem?_eq_getElem hlt
          have hx' : l'[k]? = some l'[k] := List.getElem?_eq_getElem hlt'
          have he := fun x : After W.heap.size W => HoldD.elem hx hb hcell x
          have he' := fun x : After W.heap.size W => HoldD.elem hx' hb' hcell' x
          have HX := hide hx
          have HX' := hide hx'
          have hin : (k : Int) < (l.length : Int) := by omega
          have hi0 : (0 : Int) ≤ (k : Int) := by omega
          clear hcell hcell' hx hx'
          obtain ⟨x1, hx1⟩ : ∃ x1, x1 = l[k] := ⟨_, rfl⟩
          obtain ⟨x2, hx2⟩ : ∃ x2, x2 = l'[k] := ⟨_, rfl⟩
          rw [← hx1] at he HX
          rw [← hx2] at he' HX'
          clear hx1 hx2 hlt' c1 c1'
          rcases holdEq_cases x1 x2 with ⟨c1, hq⟩ | ⟨c1, c2, hq⟩ | ⟨c1, c2, c3, hq⟩ | ⟨c1, c2, c3, c4, hq⟩ | ⟨c1, c2, c3, c4, hq⟩
          all_goals
            have HQ := hide hq
            clear hq
            go_wp2
            refine wp_region_after x (by kernel_rfl) (by kernel_rfl) ?_
            repeat (go_big_quiet_step (fail))
            refine wpQuiet_nil ?_
            intro z
            go_wp2
            first
              | (go_ret; exact Gives.mk (congrArg Value.bool (HN.out k _ _ HX.out HX'.out HQ.out).symm) (HBD.out z))
              | exact ⟨⟨k + 1, by go_num, by omega, hide (upTo_eq hall.out HX.out HX'.out HQ.out), _, rfl⟩, by simp [intOf]; omega⟩
        · go_wp2
          go_ret
          exact Gives.mk (congrArg Value.bool (HY.out k (by omega) hall.out).symm) (HBD.out x)
    · have HN := hide (listEq_len (eq := holdEq) hl)
      rw [← HR.out] at HN
      have hne : ((l.length : Int) != (l'.length : Int)) = true := by simp; omega
      go_enter Tryz.func20, Tryz.ntmps20
      go_wp2
      go_ret
      rw [← HW.out]
      exact Gives.mk (congrArg Value.bool HN.out.symm) HB0.out
set_option maxRecDepth 100000 in
set_option maxHeartbeats 4000000 in
theorem refSameS_any (a b : SysD) (w : World) (B : Nat) (hB : B ≤ w.heap.size) (ha : SysD.at_ w B a) (hb0 : SysD.at_ w B b) :
    Calls Tryz.prog 8 #[.agg #[.slice a.blocks.A a.blocks.l.length a.blocks.cap, .slice a.ropes.A a.ropes.l.length a.ropes.cap], .agg #[.slice b.blocks.A b.blocks.l.length b.blocks.cap, .slice b.ropes.A b.ropes.l.length b.ropes.cap]] w (Gives w (.bool (sameS a b))) := by
  obtain ⟨W1, hW1, hs1, hb1, hh1⟩ := boxed w (.cells #[.slice a.blocks.A a.blocks.l.length a.blocks.cap, .slice a.ropes.A a.ropes.l.length a.ropes.cap] 25)
  obtain ⟨W, hW2, hs2, hb2, hh2⟩ := boxed W1 (.cells #[.slice b.blocks.A b.blocks.l.length b.blocks.cap, .slice b.ropes.A b.ropes.l.length b.ropes.cap] 25)
  have hb : Below w.heap.size w W := hb1.trans (hb2.mono (by omega))
  have hh1' : W.heap[w.heap.size]? = some (.cells #[.slice a.blocks.A a.blocks.l.length a.blocks.cap, .slice a.ropes.A a.ropes.l.length a.ropes.cap] 25 (0, 0)) := (hb2.block _ (by omega)).trans hh1
  rw [hs1] at hh2
  have hcx := fun y : After W.heap.size W => SysD.boxed hh1' (by omega) y
  have hcy := fun y : After W.heap.size W => SysD.boxed hh2 (by omega) y
  have hbd : ∀ y : After W.heap.size W, Below w.heap.size w y.val := fun y => hb.trans (y.below.mono (by omega))
  have haW : SysD.at_ W W.heap.size a := ha.to (hb.mono hB) (by omega)
  have hbW : SysD.at_ W W.heap.size b := hb0.to (hb.mono hB) (by omega)
  have KR := hide fun (y : After W.heap.size W) (r r' : RopeD) (h : r ∈ a.ropes.l) (h' : r' ∈ b.ropes.l) => Gives.after (x := y) (Nat.le_refl _) (sameRope_any r r' y.val W.heap.size y.size (RopeD.at_.to (haW.each r h) y.below (Nat.le_refl _)) (RopeD.at_.to (hbW.each r' h') y.below (Nat.le_refl _)))
  have HW := hide (show W = (w.alloc (.cells #[.slice a.blocks.A a.blocks.l.length a.blocks.cap, .slice a.ropes.A a.ropes.l.length a.ropes.cap] 25)).alloc (.cells #[.slice b.blocks.A b.blocks.l.length b.blocks.cap, .slice b.ropes.A b.ropes.l.length b.ropes.cap] 25) by rw [hW2, hW1])
  have HBD := hide hbd
  have HB0 := hide (hbd (After.refl _ _))
  have HSB := hide haW.blocks
  have HSB' := hide hbW.blocks
  have HSR := hide haW.ropes
  have HSR' := hide hbW.ropes
  have hm1 : a.blocks.cap ≤ 9223372036854775807 := ha.blocks.2.1
  have hm2 : a.blocks.l.length ≤ a.blocks.cap := ha.blocks.1
  have hm3 : b.blocks.cap ≤ 9223372036854775807 := hb0.blocks.2.1
  have hm4 : b.blocks.l.length ≤ b.blocks.cap := hb0.blocks.1
  have hm5 : a.ropes.cap ≤ 9223372036854775807 := ha.ropes.2.1
  have hm6 : a.ropes.l.length ≤ a.ropes.cap := ha.ropes.1
  have hm7 : b.ropes.cap ≤ 9223372036854775807 := hb0.ropes.2.1
  have hm8 : b.ropes.l.length ≤ b.ropes.cap := hb0.ropes.1
  clear hW1 hW2 hs1 hs2 hh1 hh2 hh1' hb1 hb2 hb hbd ha hb0 haW hbW
  obtain ⟨res, hres⟩ : ∃ res, res = sameS a b := ⟨_, rfl⟩
  rw [← hres]
  unfold sameS at hres
  have HR := hide hres
  clear hres
  obtain ⟨⟨A, cap, l⟩, ⟨A2, cap2, m⟩⟩ := a
  obtain ⟨⟨A', cap', l'⟩, ⟨A2', cap2', m'⟩⟩ := b
  simp only at *
  by_cases hl : l.length = l'.length ∧ m.length = m'.length
  · obtain ⟨hl1, hl2⟩ := hl
    have HL1 := hide hl1
    have HL2 := hide hl2
    have HY1 := hide (fun (k : Nat) hk hu => listEq_yes (eq := blockEq) (k := k) hl1 hk hu)
    have HN1 := hide (fun (k : Nat) (x y : BlockD) hx hy h => (show res = false by rw [HR.out, listEq_no (eq := blockEq) (l := l) (l' := l') (k := k) (x := x) (y := y) hx hy h]; rfl))
    have HY2 := hide (fun (k : Nat) hk hu => listEq_yes (eq := ropeEq) (k := k) hl2 hk hu)
    have HN2 := hide (fun (k : Nat) (x y : RopeD) hx hy h => (show res = false by rw [HR.out, listEq_no (eq := ropeEq) (l := m) (l' := m') (k := k) (x := x) (y := y) hx hy h, Bool.and_false]))
    rw [← hl1] at hm4 hcy HW ⊢
    rw [← hl2] at hm8 hcy HW ⊢
    clear hl1 hl2
    go_enter Tryz.func8, Tryz.ntmps8
    go_wp2
    rw [← HW.out]
    go_loopw [5] (fun v wr => ∃ k : Nat, v = .int .i64 k ∧ k ≤ l.length ∧ Hid (UpTo (eqAt blockEq l') l k) ∧ ∃ x : After W.heap.size W, wr = x.val) (fun v _ => l.length - (intOf v).toNat)
    case atStart => exact ⟨0, rfl, Nat.zero_le _, hide (UpTo.zero _ _), After.refl _ _, rfl⟩
    case round =>
      obtain ⟨k, rfl, hk, hall, x, rfl⟩ := hrel
      by_cases hlt : k < l.length
      · have hlt' : k < l'.length := by rw [← HL1.out]; exact hlt
        obtain ⟨b, off, hA, hb, hcell⟩ := HSB.out.2.2 (show 0 < l.length by omega)
        obtain ⟨b', off', hA', hb', hcell'⟩ := HSB'.out.2.2 (show 0 < l'.length by omega)
        simp only at hA hA'
        subst hA
        subst hA'
        have hx : l[k]? = some l[k] := List.getElem?_eq_getElem hlt
        have hx' : l'[k]? = some l'[k] := List.getElem?_eq_getElem hlt'
        have he := fun x : After W.heap.size W => BlockD.elem hx hb hcell x
        have he' := fun x : After W.heap.size W => BlockD.elem hx' hb' hcell' x
        have HX := hide hx
        have HX' := hide hx'
        have hin : (k : Int) < (l.length : Int) := by omega
        have hi0 : (0 : Int) ≤ (k : Int) := by omega
        clear hcell hcell' hx hx'
        obtain ⟨x1, hx1⟩ : ∃ x1, x1 = l[k] := ⟨_, rfl⟩
        obtain ⟨x2, hx2⟩ : ∃ x2, x2 = l'[k] := ⟨_, rfl⟩
        rw [← hx1] at he HX
        rw [← hx2] at he' HX'
        clear hx1 hx2 hlt'
        rcases blockEq_cases x1 x2 with ⟨c1, hq⟩ | ⟨c1, c2, hq⟩ | ⟨c1, c2, hq⟩
        all_goals
          have HQ := hide hq
          clear hq
          go_wp2
          refine wp_region_after x (by kernel_rfl) (by kernel_rfl) ?_
          repeat (go_big_quiet_step (fail))
          refine wpQuiet_nil ?_
          intro z
          go_wp2
          first
            | (go_ret; exact Gives.mk (congrArg Value.bool (HN1.out k _ _ HX.out HX'.out HQ.out).symm) (HBD.out z))
            | exact ⟨⟨k + 1, by go_num, by omega, hide (upTo_eq hall.out HX.out HX'.out HQ.out), _, rfl⟩, by simp [intOf]; omega⟩
      · have HB1 := hide (HY1.out k (by omega) hall.out)
        clear hk
        go_wp2
        go_loopw [6] (fun v wr => ∃ k : Nat, v = .int .i64 k ∧ k ≤ m.length ∧ Hid (UpTo (eqAt ropeEq m') m k) ∧ ∃ x : After W.heap.size W, wr = x.val) (fun v _ => m.length - (intOf v).toNat)
        case atStart => exact ⟨0, rfl, Nat.zero_le _, hide (UpTo.zero _ _), _, rfl⟩
        case round =>
          obtain ⟨k2, rfl, hk2, hall2, x2, rfl⟩ := hrel
          by_cases hlt2 : k2 < m.length
          · have hlt' : k2 < m'.length := by rw [← HL2.out]; exact hlt2
            obtain ⟨b, off, hA, hb, hcell⟩ := HSR.out.2.2 (show 0 < m.length by omega)
            obtain ⟨b', off', hA', hb', hcell'⟩ := HSR'.out.2.2 (show 0 < m'.length by omega)
            simp only at hA hA'
            subst hA
            subst hA'
            have hx : m[k2]? = some m[k2] := List.getElem?_eq_getElem hlt2
            have hx' : m'[k2]? = some m'[k2] := List.getElem?_eq_getElem hlt'
            have he := fun x : After W.heap.size W => RopeD.elem hx hb hcell x
            have he' := fun x : After W.heap.size W => RopeD.elem hx' hb' hcell' x
            have KC := hide (fun y => KR.out y m[k2] m'[k2] (List.getElem_mem hlt2) (List.getElem_mem hlt'))
            have HX := hide hx
            have HX' := hide hx'
            have hin : (k2 : Int) < (m.length : Int) := by omega
            have hi0 : (0 : Int) ≤ (k2 : Int) := by omega
            clear hcell hcell' hx hx'
            obtain ⟨r1, hr1⟩ : ∃ r1, r1 = m[k2] := ⟨_, rfl⟩
            obtain ⟨r2, hr2⟩ : ∃ r2, r2 = m'[k2] := ⟨_, rfl⟩
            rw [← hr1] at he HX KC
            rw [← hr2] at he' HX' KC
            clear hr1 hr2 hlt'
            rcases Bool.eq_false_or_eq_true (ropeEq r1 r2) with hq | hq
            all_goals
              have HQ := hide hq
              rw [hq] at KC
              clear hq
              go_wp2
              refine wp_region_after x2 (by kernel_rfl) (by kernel_rfl) ?_
              repeat (go_big_quiet_step ((go_at_call 20; exact KC.out _)))
              refine wpQuiet_nil ?_
              intro z
              go_wp2
              first
                | (go_ret; exact Gives.mk (congrArg Value.bool (HN2.out k2 _ _ HX.out HX'.out HQ.out).symm) (HBD.out z))
                | exact ⟨⟨k2 + 1, by go_num, by omega, hide (upTo_eq hall2.out HX.out HX'.out HQ.out), _, rfl⟩, by simp [intOf]; omega⟩
          · go_wp2
            go_ret
            exact Gives.mk (congrArg Value.bool (by rw [HR.out, HB1.out, HY2.out k2 (by omega) hall2.out]; rfl)) (HBD.out _)
  · have HN := hide (show res = false by
      rw [HR.out]
      by_cases h1 : l.length = l'.length
      · rw [listEq_len (eq := ropeEq) (fun h2 => hl ⟨h1, h2⟩), Bool.and_false]
      · rw [listEq_len (eq := blockEq) h1]; rfl)
    rcases (show ((l.length : Int) != (l'.length : Int)) = true ∨ (((l.length : Int) != (l'.length : Int)) = false ∧ ((m.length : Int) != (m'.length : Int)) = true) by
      by_cases h1 : l.length = l'.length
      · right; refine ⟨by simp [h1], ?_⟩
        simp; intro h2; exact hl ⟨h1, by omega⟩
      · left; simp; omega) with h1 | ⟨h1, h2⟩
    all_goals
      clear hl
      go_enter Tryz.func8, Tryz.ntmps8
      go_wp2
      go_ret
      first
        | (rw [← HW.out]; exact Gives.mk (congrArg Value.bool HN.out.symm) HB0.out)
        | exact Gives.mk (congrArg Value.bool HN.out.symm) (((Below.refl _ _).alloc (Nat.le_refl _) _).alloc (by simp) _)
end Go.Proofs.YtgamhdbcejkllaaGreatDoor
