/- slices.Equal at blocks and holds, slices.EqualFunc at ropes, reeving.Same; loftblockref10.sameRope, Same. -/
import Derived.Test.YtgamhdbcejkllaaDoorReeveParts
namespace Go.Proofs.YtgamhdbcejkllaaDoor
open Go.RowKit

def eqAt {α : Type} (eq : α → α → Bool) (l' : List α) (i : Nat) (x : α) : Bool := match l'[i]? with | some y => eq x y | none => false
def listEq {α : Type} (eq : α → α → Bool) (l l' : List α) : Bool := decide (l.length = l'.length) && allIdx (eqAt eq l') l
theorem listEq_len {α : Type} {eq : α → α → Bool} {l l' : List α} (h : l.length ≠ l'.length) : listEq eq l l' = false := by rw [listEq, decide_eq_false h]; rfl
theorem listEq_no {α : Type} {eq : α → α → Bool} {l l' : List α} {k : Nat} {x y : α} (hx : l[k]? = some x) (hy : l'[k]? = some y) (h : eq x y = false) : listEq eq l l' = false := by
  rw [listEq, allIdx_no hx (by rw [eqAt, hy]; exact h), Bool.and_false]
theorem listEq_yes {α : Type} {eq : α → α → Bool} {l l' : List α} {k : Nat} (h : l.length = l'.length) (hk : l.length ≤ k) (hu : UpTo (eqAt eq l') l k) : listEq eq l l' = true := by
  rw [listEq, decide_eq_true h, hu.all hk]; rfl
theorem upTo_eq {α : Type} {eq : α → α → Bool} {l l' : List α} {k : Nat} {x y : α} (hu : UpTo (eqAt eq l') l k) (hx : l[k]? = some x) (hy : l'[k]? = some y) (h : eq x y = true) : UpTo (eqAt eq l') l (k + 1) := hu.next hx (by rw [eqAt, hy]; exact h)
def blockEq (x y : BlockD) : Bool := x.name.toList == y.name.toList && (x.weight == y.weight)
def holdEq (x y : HoldD) : Bool := x.block.toList == y.block.toList && ((x.pulls == y.pulls) && ((x.num == y.num) && (x.den == y.den)))
def ropeEq (x y : RopeD) : Bool := x.name.toList == y.name.toList && ((x.hauled == y.hauled) && listEq holdEq x.holds.l y.holds.l)
def sameS (a b : SysD) : Bool := listEq blockEq a.blocks.l b.blocks.l && listEq ropeEq a.ropes.l b.ropes.l
theorem blockEq_cases (x y : BlockD) : ((x.name.toList == y.name.toList) = false ∧ blockEq x y = false) ∨ ((x.name.toList == y.name.toList) = true ∧ (x.weight == y.weight) = false ∧ blockEq x y = false) ∨ ((x.name.toList == y.name.toList) = true ∧ (x.weight == y.weight) = true ∧ blockEq x y = true) := by
  unfold blockEq
  cases (x.name.toList == y.name.toList) <;> cases (x.weight == y.weight) <;> simp
theorem holdEq_cases (x y : HoldD) : ((x.block.toList == y.block.toList) = false ∧ holdEq x y = false) ∨ ((x.block.toList == y.block.toList) = true ∧ (x.pulls == y.pulls) = false ∧ holdEq x y = false) ∨ ((x.block.toList == y.block.toList) = true ∧ (x.pulls == y.pulls) = true ∧ (x.num == y.num) = false ∧ holdEq x y = false) ∨ ((x.block.toList == y.block.toList) = true ∧ (x.pulls == y.pulls) = true ∧ (x.num == y.num) = true ∧ (x.den == y.den) = false ∧ holdEq x y = false) ∨ ((x.block.toList == y.block.toList) = true ∧ (x.pulls == y.pulls) = true ∧ (x.num == y.num) = true ∧ (x.den == y.den) = true ∧ holdEq x y = true) := by
  unfold holdEq
  cases (x.block.toList == y.block.toList) <;> cases (x.pulls == y.pulls) <;> cases (x.num == y.num) <;> cases (x.den == y.den) <;> simp
set_option maxRecDepth 100000 in
set_option maxHeartbeats 4000000 in
theorem equalB_any (A A' : Option Addr) (cap cap' : Nat) (l l' : List BlockD) (w : World) (B : Nat) (hB : B ≤ w.heap.size) (hs : SlAt w B 2 BlockD.cells ⟨A, cap, l⟩) (hs' : SlAt w B 2 BlockD.cells ⟨A', cap', l'⟩) :
    Calls Tryd.prog 42 #[.slice A l.length cap, .slice A' l'.length cap'] w (Gives w (.bool (listEq blockEq l l'))) := by
  have HS := hide hs
  have HS' := hide hs'
  have hm : cap ≤ 9223372036854775807 := hs.2.1
  have hlc : l.length ≤ cap := hs.1
  have hm' : cap' ≤ 9223372036854775807 := hs'.2.1
  have hlc' : l'.length ≤ cap' := hs'.1
  clear hs hs'
  obtain ⟨res, hres⟩ : ∃ res, res = listEq blockEq l l' := ⟨_, rfl⟩
  rw [← hres]
  have HR := hide hres
  clear hres
  by_cases hl : l.length = l'.length
  · have HL := hide hl
    have HY := hide (fun (k : Nat) hk hu => listEq_yes (eq := blockEq) (k := k) hl hk hu)
    have HN := hide (fun (k : Nat) (x y : BlockD) hx hy h => listEq_no (eq := blockEq) (l := l) (l' := l') (k := k) (x := x) (y := y) hx hy h)
    rw [← HR.out] at HY HN
    rw [← hl] at hlc' ⊢
    clear hl HR
    go_enter Tryd.func42, Tryd.ntmps42
    go_wp2
    go_loopw [13] (fun v wr => ∃ k : Nat, v = .int .i64 k ∧ k ≤ l.length ∧ Hid (UpTo (eqAt blockEq l') l k) ∧ ∃ x : After w.heap.size w, wr = x.val) (fun v _ => l.length - (intOf v).toNat)
    case atStart => exact ⟨0, rfl, Nat.zero_le _, hide (UpTo.zero _ _), After.refl _ _, rfl⟩
    case round =>
      obtain ⟨k, rfl, hk, hall, x, rfl⟩ := hrel
      by_cases hlt : k < l.length
      · have hlt' : k < l'.length := by rw [← HL.out]; exact hlt
        obtain ⟨b, off, hA, hb, hcell⟩ := HS.out.2.2 (show 0 < l.length by omega)
        obtain ⟨b', off', hA', hb', hcell'⟩ := HS'.out.2.2 (show 0 < l'.length by omega)
        simp only at hA hA'
        subst hA
        subst hA'
        have hx : l[k]? = some l[k] := List.getElem?_eq_getElem hlt
        have hx' : l'[k]? = some l'[k] := List.getElem?_eq_getElem hlt'
        have he := fun x : After w.heap.size w => BlockD.elem hx (show b < w.heap.size by omega) hcell x
        have he' := fun x : After w.heap.size w => BlockD.elem hx' (show b' < w.heap.size by omega) hcell' x
        have HX := hide hx
        have HX' := hide hx'
        have hin : (k : Int) < (l.length : Int) := by omega
        have hi0 : (0 : Int) ≤ (k : Int) := by omega
        clear hcell hcell' hx hx'
        obtain ⟨x1, hx1⟩ : ∃ x1, x1 = l[k] := ⟨_, rfl⟩
        obtain ⟨x2, hx2⟩ : ∃ x2, x2 = l'[k] := ⟨_, rfl⟩
        rw [← hx1] at he HX
        rw [← hx2] at he' HX'
        clear hx1 hx2 hlt'
        rcases blockEq_cases x1 x2 with ⟨c1, hq⟩ | ⟨c1, c2, hq⟩ | ⟨c1, c2, hq⟩
        all_goals
          have HQ := hide hq
          clear hq
          go_wp2
          refine wp_region_after x (by kernel_rfl) (by kernel_rfl) ?_
          repeat (go_big_quiet_step (fail))
          refine wpQuiet_nil ?_
          intro z
          go_wp2
          first
            | (go_ret; exact Gives.mk (congrArg Value.bool (HN.out k _ _ HX.out HX'.out HQ.out).symm) z.below)
            | exact ⟨⟨k + 1, by go_num, by omega, hide (upTo_eq hall.out HX.out HX'.out HQ.out), _, rfl⟩, by simp [intOf]; omega⟩
      · go_wp2
        go_ret
        exact Gives.mk (congrArg Value.bool (HY.out k (by omega) hall.out).symm) x.below
  · have HN := hide (listEq_len (eq := blockEq) hl)
    rw [← HR.out] at HN
    have hne : ((l.length : Int) == (l'.length : Int)) = false := by simp; omega
    go_enter Tryd.func42, Tryd.ntmps42
    go_wp2
    go_ret
    exact Gives.mk (congrArg Value.bool HN.out.symm) (Below.refl _ _)
set_option maxRecDepth 100000 in
set_option maxHeartbeats 4000000 in
theorem equalH_any (A A' : Option Addr) (cap cap' : Nat) (l l' : List HoldD) (w : World) (B : Nat) (hB : B ≤ w.heap.size) (hs : SlAt w B 4 HoldD.cells ⟨A, cap, l⟩) (hs' : SlAt w B 4 HoldD.cells ⟨A', cap', l'⟩) :
    Calls Tryd.prog 45 #[.slice A l.length cap, .slice A' l'.length cap'] w (Gives w (.bool (listEq holdEq l l'))) := by
  have HS := hide hs
  have HS' := hide hs'
  have hm : cap ≤ 9223372036854775807 := hs.2.1
  have hlc : l.length ≤ cap := hs.1
  have hm' : cap' ≤ 9223372036854775807 := hs'.2.1
  have hlc' : l'.length ≤ cap' := hs'.1
  clear hs hs'
  obtain ⟨res, hres⟩ : ∃ res, res = listEq holdEq l l' := ⟨_, rfl⟩
  rw [← hres]
  have HR := hide hres
  clear hres
  by_cases hl : l.length = l'.length
  · have HL := hide hl
    have HY := hide (fun (k : Nat) hk hu => listEq_yes (eq := holdEq) (k := k) hl hk hu)
    have HN := hide (fun (k : Nat) (x y : HoldD) hx hy h => listEq_no (eq := holdEq) (l := l) (l' := l') (k := k) (x := x) (y := y) hx hy h)
    rw [← HR.out] at HY HN
    rw [← hl] at hlc' ⊢
    clear hl HR
    go_enter Tryd.func45, Tryd.ntmps45
    go_wp2
    go_loopw [13] (fun v wr => ∃ k : Nat, v = .int .i64 k ∧ k ≤ l.length ∧ Hid (UpTo (eqAt holdEq l') l k) ∧ ∃ x : After w.heap.size w, wr = x.val) (fun v _ => l.length - (intOf v).toNat)
    case atStart => exact ⟨0, rfl, Nat.zero_le _, hide (UpTo.zero _ _), After.refl _ _, rfl⟩
    case round =>
      obtain ⟨k, rfl, hk, hall, x, rfl⟩ := hrel
      by_cases hlt : k < l.length
      · have hlt' : k < l'.length := by rw [← HL.out]; exact hlt
        obtain ⟨b, off, hA, hb, hcell⟩ := HS.out.2.2 (show 0 < l.length by omega)
        obtain ⟨b', off', hA', hb', hcell'⟩ := HS'.out.2.2 (show 0 < l'.length by omega)
        simp only at hA hA'
        subst hA
        subst hA'
        have hx : l[k]? = some l[k] := List.getElem?_eq_getElem hlt
        have hx' : l'[k]? = some l'[k] := List.getElem?_eq_getElem hlt'
        have he := fun x : After w.heap.size w => HoldD.elem hx (show b < w.heap.size by omega) hcell x
        have he' := fun x : After w.heap.size w => HoldD.elem hx' (show b' < w.heap.size by omega) hcell' x
        have HX := hide hx
        have HX' := hide hx'
        have hin : (k : Int) < (l.length : Int) := by omega
        have hi0 : (0 : Int) ≤ (k : Int) := by omega
        clear hcell hcell' hx hx'
        obtain ⟨x1, hx1⟩ : ∃ x1, x1 = l[k] := ⟨_, rfl⟩
        obtain ⟨x2, hx2⟩ : ∃ x2, x2 = l'[k] := ⟨_, rfl⟩
        rw [← hx1] at he HX
        rw [← hx2] at he' HX'
        clear hx1 hx2 hlt'
        rcases holdEq_cases x1 x2 with ⟨c1, hq⟩ | ⟨c1, c2, hq⟩ | ⟨c1, c2, c3, hq⟩ | ⟨c1, c2, c3, c4, hq⟩ | ⟨c1, c2, c3, c4, hq⟩
        all_goals
          have HQ := hide hq
          clear hq
          go_wp2
          refine wp_region_after x (by kernel_rfl) (by kernel_rfl) ?_
          repeat (go_big_quiet_step (fail))
          refine wpQuiet_nil ?_
          intro z
          go_wp2
          first
            | (go_ret; exact Gives.mk (congrArg Value.bool (HN.out k _ _ HX.out HX'.out HQ.out).symm) z.below)
            | exact ⟨⟨k + 1, by go_num, by omega, hide (upTo_eq hall.out HX.out HX'.out HQ.out), _, rfl⟩, by simp [intOf]; omega⟩
      · go_wp2
        go_ret
        exact Gives.mk (congrArg Value.bool (HY.out k (by omega) hall.out).symm) x.below
  · have HN := hide (listEq_len (eq := holdEq) hl)
    rw [← HR.out] at HN
    have hne : ((l.length : Int) == (l'.length : Int)) = false := by simp; omega
    go_enter Tryd.func45, Tryd.ntmps45
    go_wp2
    go_ret
    exact Gives.mk (congrArg Value.bool HN.out.symm) (Below.refl _ _)
theorem ropeEq_cases (x y : RopeD) : ((x.name.toList == y.name.toList) = false ∧ ropeEq x y = false) ∨ ((x.name.toList == y.name.toList) = true ∧ x.hauled ≠ y.hauled ∧ ropeEq x y = false) ∨ ((x.name.toList == y.name.toList) = true ∧ x.hauled = y.hauled ∧ ropeEq x y = listEq holdEq x.holds.l y.holds.l) := by
  unfold ropeEq
  cases (x.name.toList == y.name.toList) <;> cases x.hauled <;> cases y.hauled <;> simp
theorem enters_same1 : ∀ args w, (callFunc 44 args).run Tryd.prog w = .ok (.enter 44 args) w := entersOf Tryd.func44 (by kernel_rfl) rfl
set_option maxRecDepth 100000 in
set_option maxHeartbeats 4000000 in
theorem same1_any (x y : RopeD) (w : World) (B : Nat) (hB : B ≤ w.heap.size) (hx : RopeD.at_ w B x) (hy : RopeD.at_ w B y) :
    Calls Tryd.prog 44 #[.agg #[.string x.name, .slice x.holds.A x.holds.l.length x.holds.cap, .bool x.hauled], .agg #[.string y.name, .slice y.holds.A y.holds.l.length y.holds.cap, .bool y.hauled]] w (Gives w (.bool (ropeEq x y))) := by
  obtain ⟨W1, hW1, hs1, hb1, hh1⟩ := boxed w (.cells #[.string x.name, .slice x.holds.A x.holds.l.length x.holds.cap, .bool x.hauled] 40)
  obtain ⟨W, hW2, hs2, hb2, hh2⟩ := boxed W1 (.cells #[.string y.name, .slice y.holds.A y.holds.l.length y.holds.cap, .bool y.hauled] 40)
  have hb : Below w.heap.size w W := hb1.trans (hb2.mono (by omega))
  have hh1' : W.heap[w.heap.size]? = some (.cells #[.string x.name, .slice x.holds.A x.holds.l.length x.holds.cap, .bool x.hauled] 40 (0, 0)) := (hb2.block _ (by omega)).trans hh1
  rw [hs1] at hh2
  have hcx := fun y : After W.heap.size W => RopeD.boxed hh1' (by omega) y
  have hcy := fun y : After W.heap.size W => RopeD.boxed hh2 (by omega) y
  have hbd : ∀ y : After W.heap.size W, Below w.heap.size w y.val := fun y => hb.trans (y.below.mono (by omega))
  have hW : W = (w.alloc (.cells #[.string x.name, .slice x.holds.A x.holds.l.length x.holds.cap, .bool x.hauled] 40)).alloc (.cells #[.string y.name, .slice y.holds.A y.holds.l.length y.holds.cap, .bool y.hauled] 40) := by rw [hW2, hW1]
  have KE := hide (Gives.first (equalH_any x.holds.A y.holds.A x.holds.cap y.holds.cap x.holds.l y.holds.l W W.heap.size (Nat.le_refl _) (SlAt.to hx (hb.mono hB) (by omega)) (SlAt.to hy (hb.mono hB) (by omega))))
  have HW := hide hW
  have HBD := hide hbd
  have HB0 := hide (hbd (After.refl _ _))
  clear hW1 hW2 hs1 hs2 hh1 hh2 hh1' hb1 hb2 hb hbd hW hx hy
  rcases ropeEq_cases x y with ⟨c1, hq⟩ | ⟨c1, c2, hq⟩ | ⟨c1, c2, hq⟩
  · rw [hq]
    clear hq
    go_enter Tryd.func44, Tryd.ntmps44
    go_wp2
    go_ret
    rw [← HW.out]
    exact Gives.mk rfl HB0.out
  · rw [hq]
    clear hq
    have c3 : (x.hauled == y.hauled) = false := by simpa using c2
    go_enter Tryd.func44, Tryd.ntmps44
    go_wp2
    go_ret
    rw [← HW.out]
    exact Gives.mk rfl HB0.out
  · rw [hq]
    clear hq
    have c3 : (x.hauled == y.hauled) = true := by simpa using c2
    clear c2
    go_enter Tryd.func44, Tryd.ntmps44
    go_wp2_with (go_at_call 45; rw [← HW.out]; refine KE.out.mono ?_; rintro e w' ⟨rfl, z, rfl⟩)
    go_ret
    exact Gives.mk rfl (HBD.out _)
set_option maxRecDepth 100000 in
set_option maxHeartbeats 4000000 in
theorem equalR_any (A A' : Option Addr) (cap cap' : Nat) (l l' : List RopeD) (w : World) (B : Nat) (hB : B ≤ w.heap.size) (hs : SlAt w B 3 RopeD.cells ⟨A, cap, l⟩) (hs' : SlAt w B 3 RopeD.cells ⟨A', cap', l'⟩) (hr : ∀ r ∈ l, RopeD.at_ w B r) (hr' : ∀ r ∈ l', RopeD.at_ w B r) :
    Calls Tryd.prog 43 #[.slice A l.length cap, .slice A' l'.length cap', .func (.func 44) #[] #[]] w (Gives w (.bool (listEq ropeEq l l'))) := by
  have eg := enters_same1
  have HS := hide hs
  have HS' := hide hs'
  have HR1 := hide hr
  have HR2 := hide hr'
  have hm : cap ≤ 9223372036854775807 := hs.2.1
  have hlc : l.length ≤ cap := hs.1
  have hm' : cap' ≤ 9223372036854775807 := hs'.2.1
  have hlc' : l'.length ≤ cap' := hs'.1
  clear hs hs' hr hr'
  obtain ⟨res, hres⟩ : ∃ res, res = listEq ropeEq l l' := ⟨_, rfl⟩
  rw [← hres]
  have HR := hide hres
  clear hres
  by_cases hl : l.length = l'.length
  · have HL := hide hl
    have HY := hide (fun (k : Nat) hk hu => listEq_yes (eq := ropeEq) (k := k) hl hk hu)
    have HN := hide (fun (k : Nat) (x y : RopeD) hx hy h => listEq_no (eq := ropeEq) (l := l) (l' := l') (k := k) (x := x) (y := y) hx hy h)
    rw [← HR.out] at HY HN
    rw [← hl] at hlc' ⊢
    clear hl HR
    go_enter Tryd.func43, Tryd.ntmps43
    go_wp2
    go_loopw [7, 8, 9, 17] (fun _ _ _ v wr => ∃ k : Nat, v = .int .i64 k ∧ k ≤ l.length ∧ Hid (UpTo (eqAt ropeEq l') l k) ∧ ∃ x : After w.heap.size w, wr = x.val) (fun _ _ _ v _ => l.length - (intOf v).toNat)
    case atStart => exact ⟨0, rfl, Nat.zero_le _, hide (UpTo.zero _ _), After.refl _ _, rfl⟩
    case round =>
      obtain ⟨k, rfl, hk, hall, x, rfl⟩ := hrel
      by_cases hlt : k < l.length
      · have hlt' : k < l'.length := by rw [← HL.out]; exact hlt
        obtain ⟨b, off, hA, hb, hcell⟩ := HS.out.2.2 (show 0 < l.length by omega)
        obtain ⟨b', off', hA', hb', hcell'⟩ := HS'.out.2.2 (show 0 < l'.length by omega)
        simp only at hA hA'
        subst hA
        subst hA'
        have hx : l[k]? = some l[k] := List.getElem?_eq_getElem hlt
        have hx' : l'[k]? = some l'[k] := List.getElem?_eq_getElem hlt'
        have he := fun x : After w.heap.size w => RopeD.elem hx (show b < w.heap.size by omega) hcell x
        have he' := fun x : After w.heap.size w => RopeD.elem hx' (show b' < w.heap.size by omega) hcell' x
        have hr1 := HR1.out _ (List.getElem_mem hlt)
        have hr2 := HR2.out _ (List.getElem_mem hlt')
        have HX := hide hx
        have HX' := hide hx'
        clear hcell hcell' hx hx'
        obtain ⟨x1, hx1⟩ : ∃ x1, x1 = l[k] := ⟨_, rfl⟩
        obtain ⟨x2, hx2⟩ : ∃ x2, x2 = l'[k] := ⟨_, rfl⟩
        rw [← hx1] at he HX hr1
        rw [← hx2] at he' HX' hr2
        clear hx1 hx2 hlt'
        obtain ⟨V1, hV1, hs1, hb1, hh1⟩ := boxed x.val (.cells #[.string x1.name, .slice x1.holds.A x1.holds.l.length x1.holds.cap, .bool x1.hauled] 40)
        obtain ⟨V, hV2, hs2, hb2, hh2⟩ := boxed V1 (.cells #[.string x2.name, .slice x2.holds.A x2.holds.l.length x2.holds.cap, .bool x2.hauled] 40)
        have hbV : Below w.heap.size w V := x.below.trans ((hb1.trans (hb2.mono (by omega))).mono x.size)
        have he3 := fun o => he' ⟨x.val.alloc o, x.below.alloc x.size o⟩
        simp only at he3
        have KC := hide (Gives.first (same1_any x1 x2 V V.heap.size (Nat.le_refl _) (RopeD.at_.to hr1 (hbV.mono hB) (Nat.le_trans hB hbV.size)) (RopeD.at_.to hr2 (hbV.mono hB) (Nat.le_trans hB hbV.size))))
        have HV := hide (show V = (x.val.alloc (.cells #[.string x1.name, .slice x1.holds.A x1.holds.l.length x1.holds.cap, .bool x1.hauled] 40)).alloc (.cells #[.string x2.name, .slice x2.holds.A x2.holds.l.length x2.holds.cap, .bool x2.hauled] 40) by rw [hV2, hV1])
        have HBV := hide fun z : After V.heap.size V => (hbV.trans (z.below.mono hbV.size) : Below w.heap.size w z.val)
        clear hV1 hV2 hs1 hs2 hb1 hb2 hh1 hh2 hbV hr1 hr2
        rcases Bool.eq_false_or_eq_true (ropeEq x1 x2) with hq | hq
        all_goals
          have HQ := hide hq
          rw [hq] at KC
          clear hq
          go_wp2_with (go_at_call 44; rw [← HV.out]; refine KC.out.mono ?_; rintro e w' ⟨rfl, z, rfl⟩)
          first
            | (go_ret; exact Gives.mk (congrArg Value.bool (HN.out k _ _ HX.out HX'.out HQ.out).symm) (HBV.out _))
            | exact ⟨⟨k + 1, by go_num, by omega, hide (upTo_eq hall.out HX.out HX'.out HQ.out), ⟨_, HBV.out _⟩, rfl⟩, by simp [intOf]; omega⟩
      · go_wp2
        go_ret
        exact Gives.mk (congrArg Value.bool (HY.out k (by omega) hall.out).symm) x.below
  · have HN := hide (listEq_len (eq := ropeEq) hl)
    rw [← HR.out] at HN
    have hne : ((l.length : Int) == (l'.length : Int)) = false := by simp; omega
    go_enter Tryd.func43, Tryd.ntmps43
    go_wp2
    go_ret
    exact Gives.mk (congrArg Value.bool HN.out.symm) (Below.refl _ _)
set_option maxRecDepth 100000 in
set_option maxHeartbeats 4000000 in
theorem sameS_any (a b : SysD) (w : World) (B : Nat) (hB : B ≤ w.heap.size) (ha : SysD.at_ w B a) (hb0 : SysD.at_ w B b) :
    Calls Tryd.prog 15 #[.agg #[.slice a.blocks.A a.blocks.l.length a.blocks.cap, .slice a.ropes.A a.ropes.l.length a.ropes.cap], .agg #[.slice b.blocks.A b.blocks.l.length b.blocks.cap, .slice b.ropes.A b.ropes.l.length b.ropes.cap]] w (Gives w (.bool (sameS a b))) := by
  obtain ⟨W1, hW1, hs1, hb1, hh1⟩ := boxed w (.cells #[.slice a.blocks.A a.blocks.l.length a.blocks.cap, .slice a.ropes.A a.ropes.l.length a.ropes.cap] 25)
  obtain ⟨W, hW2, hs2, hb2, hh2⟩ := boxed W1 (.cells #[.slice b.blocks.A b.blocks.l.length b.blocks.cap, .slice b.ropes.A b.ropes.l.length b.ropes.cap] 25)
  have hb : Below w.heap.size w W := hb1.trans (hb2.mono (by omega))
  have hh1' : W.heap[w.heap.size]? = some (.cells #[.slice a.blocks.A a.blocks.l.length a.blocks.cap, .slice a.ropes.A a.ropes.l.length a.ropes.cap] 25 (0, 0)) := (hb2.block _ (by omega)).trans hh1
  rw [hs1] at hh2
  have hcx := fun y : After W.heap.size W => SysD.boxed hh1' (by omega) y
  have hcy := fun y : After W.heap.size W => SysD.boxed hh2 (by omega) y
  have hbd : ∀ y : After W.heap.size W, Below w.heap.size w y.val := fun y => hb.trans (y.below.mono (by omega))
  have ha' : ∀ v : World, Below W.heap.size W v → SysD.at_ v W.heap.size a := fun v hv => (ha.to (hb.mono hB) (by omega)).to hv (Nat.le_refl _)
  have hb' : ∀ v : World, Below W.heap.size W v → SysD.at_ v W.heap.size b := fun v hv => (hb0.to (hb.mono hB) (by omega)).to hv (Nat.le_refl _)
  have KE := hide (Gives.first (equalB_any a.blocks.A b.blocks.A a.blocks.cap b.blocks.cap a.blocks.l b.blocks.l W W.heap.size (Nat.le_refl _) (ha' W (Below.refl _ _)).blocks (hb' W (Below.refl _ _)).blocks))
  have KF := hide fun y : After W.heap.size W => Gives.after (x := y) (Nat.le_refl _) (equalR_any a.ropes.A b.ropes.A a.ropes.cap b.ropes.cap a.ropes.l b.ropes.l y.val W.heap.size y.size (ha' _ y.below).ropes (hb' _ y.below).ropes (ha' _ y.below).each (hb' _ y.below).each)
  have HW := hide (show W = (w.alloc (.cells #[.slice a.blocks.A a.blocks.l.length a.blocks.cap, .slice a.ropes.A a.ropes.l.length a.ropes.cap] 25)).alloc (.cells #[.slice b.blocks.A b.blocks.l.length b.blocks.cap, .slice b.ropes.A b.ropes.l.length b.ropes.cap] 25) by rw [hW2, hW1])
  have HBD := hide hbd
  clear hW1 hW2 hs1 hs2 hh1 hh2 hh1' hb1 hb2 hb hbd ha hb0 ha' hb'
  unfold sameS
  rcases Bool.eq_false_or_eq_true (listEq blockEq a.blocks.l b.blocks.l) with hq | hq
  all_goals
    rw [hq] at KE ⊢
    clear hq
    go_enter Tryd.func15, Tryd.ntmps15
    go_wp2_with (first
      | (go_at_call 42; rw [← HW.out]; refine KE.out.mono ?_; rintro e w' ⟨rfl, y, rfl⟩)
      | (go_at_call 43; refine (KF.out y).mono ?_; rintro e w' ⟨rfl, y2, rfl⟩))
    go_ret
    exact Gives.mk (by simp) (HBD.out _)
end Go.Proofs.YtgamhdbcejkllaaDoor
