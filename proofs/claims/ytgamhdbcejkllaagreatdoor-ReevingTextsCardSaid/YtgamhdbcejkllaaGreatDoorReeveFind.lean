/- Find a block, find a rope; slices.IndexFunc at blocks; the losses of sheaves. -/
import Derived.Test.YtgamhdbcejkllaaGreatDoorRatioValid
namespace Go.Proofs.YtgamhdbcejkllaaGreatDoor
open Go.RowKit

theorem findB_some {l : List BlockD} {nm : ByteArray} {k : Nat} {x : BlockD} (h : l[k]? = some x) (hp : sameName x.name nm = true) (hn : ∀ j (y : BlockD), j < k → l[j]? = some y → sameName y.name nm = false) : findB l nm = (k : Int) := idx_some h hp hn
theorem findB_none {l : List BlockD} {nm : ByteArray} (hn : ∀ j (y : BlockD), j < l.length → l[j]? = some y → sameName y.name nm = false) : findB l nm = -1 := idx_none hn
theorem findR_some {l : List RopeD} {nm : ByteArray} {k : Nat} {x : RopeD} (h : l[k]? = some x) (hp : sameName x.name nm = true) (hn : ∀ j (y : RopeD), j < k → l[j]? = some y → sameName y.name nm = false) : findR l nm = (k : Int) := idx_some h hp hn
theorem findR_none {l : List RopeD} {nm : ByteArray} (hn : ∀ j (y : RopeD), j < l.length → l[j]? = some y → sameName y.name nm = false) : findR l nm = -1 := idx_none hn

def valBlock (e : BlockD) : Value := .agg #[.string e.name, .int .i64 e.weight]
set_option maxHeartbeats 400000 in
theorem indexBlock_any (A : Option Addr) (cap : Nat) (l : List BlockD) (p : BlockD → Bool) (g : Nat) (lb : Array Value) (eg : ∀ args w, (callFunc g args).run Tryz.prog w = .ok (.enter g args) w) (W : World) (B : Nat) (hB : B ≤ W.heap.size) (hs : SlAt W B 2 BlockD.cells ⟨A, cap, l⟩)
    (hp : Answers Tryz.prog g lb valBlock p W.heap.size W l) :
    Calls Tryz.prog 53 #[.slice A l.length cap, .func (.func g) #[] lb] W (Gives W (.int .i64 (idx p l))) := by
  have HS := hide hs
  have HP := hide hp
  have hm : cap ≤ 9223372036854775807 := hs.2.1
  have hlc : l.length ≤ cap := hs.1
  clear hs hp
  go_enter Tryz.func53, Tryz.ntmps53
  go_wp2
  go_loopw [8] (fun v wr => ∃ k : Nat, v = .int .i64 k ∧ k ≤ l.length ∧ Hid (∀ j y, j < k → l[j]? = some y → p y = false) ∧ ∃ x : After W.heap.size W, wr = x.val) (fun v _ => l.length - (intOf v).toNat)
  case atStart => exact ⟨0, rfl, Nat.zero_le _, fun j y hj => absurd hj (by omega), After.refl _ _, rfl⟩
  case round =>
    obtain ⟨k, rfl, hk, hall, x, rfl⟩ := hrel
    by_cases hlt : k < l.length
    · obtain ⟨b, off, hA, hb, hcell⟩ := HS.out.2.2 (show 0 < l.length by omega)
      simp only at hA
      subst hA
      have hx : l[k]? = some l[k] := List.getElem?_eq_getElem hlt
      have he := fun x : After W.heap.size W => BlockD.elem hx (show b < W.heap.size by omega) hcell x
      have HC := hide hcell
      have HX := hide hx
      clear hcell hx
      cases hpk : p l[k]
      · go_wp2_with fail
        refine (Gives.after (Nat.le_refl _) (HP.out x l[k] (List.getElem_mem hlt))).mono ?_
        rintro e w' ⟨rfl, x, rfl⟩
        go_wp2
        exact ⟨⟨k + 1, by go_num, by omega, none_next hall.out HX.out hpk, _, rfl⟩, by simp [intOf]; omega⟩
      · go_wp2_with fail
        refine (Gives.after (Nat.le_refl _) (HP.out x l[k] (List.getElem_mem hlt))).mono ?_
        rintro e w' ⟨rfl, x, rfl⟩
        go_wp2
        go_ret
        exact Gives.mk (congrArg (Value.int IntKind.i64) (idx_some HX.out hpk hall.out).symm) x.below
    · go_wp2
      go_ret
      exact Gives.mk (congrArg (Value.int IntKind.i64) (idx_none fun j y hj hy => hall.out j y (by omega) hy).symm) x.below
theorem enters_find1 : ∀ args w, (callFunc 54 args).run Tryz.prog w = .ok (.enter 54 args) w := entersOf Tryz.func54 (by kernel_rfl) rfl
set_option maxHeartbeats 400000 in
theorem find1_any (s : BlockD) (nm : ByteArray) (nb : Nat) (w : World) (hn : nb < w.heap.size) (hc : w.cell? ⟨nb, 0, none⟩ = some (.string nm)) :
    Calls Tryz.prog 54 #[.agg #[.string s.name, .int .i64 s.weight], .pointer (some ⟨nb, 0, none⟩)] w (Gives w (.bool (sameName s.name nm))) := by
  have hc' : ∀ o : Obj, (w.alloc o).cell? ⟨nb, 0, none⟩ = some (.string nm) := fun o => by rw [World.cell?_alloc_lt w o ⟨nb, 0, none⟩ hn]; exact hc
  go_enter Tryz.func54, Tryz.ntmps54
  go_wp2
  go_ret
  exact Gives.mk rfl ((Below.refl _ _).alloc (Nat.le_refl _) _)
set_option maxHeartbeats 400000 in
theorem find_any (h : SysD) (nm : ByteArray) (w : World) (B : Nat) (hB : B ≤ w.heap.size) (hat : SysD.at_ w B h) :
    Calls Tryz.prog 31 #[.agg #[.slice h.blocks.A h.blocks.l.length h.blocks.cap, .slice h.ropes.A h.ropes.l.length h.ropes.cap], .string nm] w (Gives w (.int .i64 (findB h.blocks.l nm))) := by
  obtain ⟨W1, hW1, hs1, hb1, _⟩ := boxed w (.cells #[.slice h.blocks.A h.blocks.l.length h.blocks.cap, .slice h.ropes.A h.ropes.l.length h.ropes.cap] 25)
  obtain ⟨W2, hW2, hs2, hb2, hh2⟩ := boxed W1 (.cells #[.string nm] 9)
  have hb : Below w.heap.size w W2 := hb1.trans (hb2.mono (by omega))
  have hcell : ∀ x : After W2.heap.size W2, x.val.cell? ⟨W1.heap.size, 0, none⟩ = some (.string nm) := fun x => x.cells hh2 (by omega) 0 _ rfl
  have hlt : w.heap.size + 1 < W2.heap.size := by omega
  rw [hs1] at hcell
  have HH := hide (hat.to (hb.mono hB) (Nat.le_trans hB (show w.heap.size ≤ W2.heap.size by omega)))
  have HW := hide (show W2 = (w.alloc (.cells #[.slice h.blocks.A h.blocks.l.length h.blocks.cap, .slice h.ropes.A h.ropes.l.length h.ropes.cap] 25)).alloc (.cells #[.string nm] 9) by rw [hW2, hW1])
  clear hW1 hW2 hs1 hs2 hh2 hat hb1 hb2
  go_enter Tryz.func31, Tryz.ntmps31
  go_wp2_with fail
  rw [← HW.out]
  refine (Gives.first (indexBlock_any _ _ _ (fun s => sameName s.name nm) _ _ enters_find1 W2 W2.heap.size (Nat.le_refl _) HH.out.blocks (fun x e _ => by rw [oneOne]; exact find1_any e nm _ x.val (Nat.lt_of_lt_of_le hlt x.size) (hcell x)))).mono ?_
  rintro e w' ⟨rfl, x, rfl⟩
  go_wp2
  go_ret
  exact Gives.mk rfl (hb.trans (x.below.mono (by omega)))
set_option maxHeartbeats 400000 in
theorem refFindB_any (h : SysD) (nm : ByteArray) (w : World) (B : Nat) (hB : B ≤ w.heap.size) (hat : SysD.at_ w B h) :
    Calls Tryz.prog 26 #[.agg #[.slice h.blocks.A h.blocks.l.length h.blocks.cap, .slice h.ropes.A h.ropes.l.length h.ropes.cap], .string nm] w (Gives w (.int .i64 (findB h.blocks.l nm))) := by
  obtain ⟨W, hW, hWs, hWb, hWh⟩ := boxed w (.cells #[.slice h.blocks.A h.blocks.l.length h.blocks.cap, .slice h.ropes.A h.ropes.l.length h.ropes.cap] 25)
  have hc := fun x : After W.heap.size W => SysD.boxed hWh (by omega) x
  have hatx : SysD.at_ W W.heap.size h := hat.to (hWb.mono hB) (by omega)
  obtain ⟨⟨A, cap, l⟩, ropes⟩ := h
  simp only at *
  have hm : cap ≤ 9223372036854775807 := hat.blocks.2.1
  have hlc : l.length ≤ cap := hat.blocks.1
  have HWs := hide hWs
  have HA := hide hatx
  have HWb := hide hWb
  have HW := hide hW
  clear hW hWs hWh hatx hat hWb
  go_enter Tryz.func26, Tryz.ntmps26
  go_wp2
  go_loopw [5] (fun v wr => ∃ k : Nat, v = .int .i64 k ∧ k ≤ l.length ∧ Hid (∀ j (y : BlockD), j < k → l[j]? = some y → sameName y.name nm = false) ∧ ∃ x : After W.heap.size W, wr = x.val) (fun v _ => l.length - (intOf v).toNat)
  case atStart => exact ⟨0, rfl, Nat.zero_le _, fun j y hj => absurd hj (by omega), ⟨W, Below.refl _ _⟩, HW.out.symm⟩
  case round =>
    obtain ⟨k, rfl, hk, hall, x, rfl⟩ := hrel
    by_cases hlt : k < l.length
    · obtain ⟨b, off, hA, hb, hcell⟩ := HA.out.blocks.2.2 (show 0 < l.length by omega)
      simp only at hA
      subst hA
      have hx : l[k]? = some l[k] := List.getElem?_eq_getElem hlt
      have he := fun x : After W.heap.size W => (BlockD.elem hx hb hcell x).1
      have HX := hide hx
      clear hcell hx
      cases hpk : sameName l[k].name nm
      · have hp : (l[k].name.toList == nm.toList) = false := hpk
        go_wp2
        exact ⟨⟨k + 1, by go_num, by omega, none_next hall.out HX.out hpk, _, rfl⟩, by simp [intOf]; omega⟩
      · have hp : (l[k].name.toList == nm.toList) = true := hpk
        go_wp2
        go_ret
        exact Gives.mk (congrArg (Value.int IntKind.i64) (findB_some HX.out hpk hall.out).symm) (HWb.out.trans (x.below.mono (by rw [HWs.out]; omega)))
    · go_wp2
      go_ret
      exact Gives.mk (congrArg (Value.int IntKind.i64) (findB_none fun j y hj hy => hall.out j y (by omega) hy).symm) (HWb.out.trans (x.below.mono (by rw [HWs.out]; omega)))
set_option maxHeartbeats 400000 in
theorem refFindR_any (h : SysD) (nm : ByteArray) (w : World) (B : Nat) (hB : B ≤ w.heap.size) (hat : SysD.at_ w B h) :
    Calls Tryz.prog 27 #[.agg #[.slice h.blocks.A h.blocks.l.length h.blocks.cap, .slice h.ropes.A h.ropes.l.length h.ropes.cap], .string nm] w (Gives w (.int .i64 (findR h.ropes.l nm))) := by
  obtain ⟨W, hW, hWs, hWb, hWh⟩ := boxed w (.cells #[.slice h.blocks.A h.blocks.l.length h.blocks.cap, .slice h.ropes.A h.ropes.l.length h.ropes.cap] 25)
  have hc := fun x : After W.heap.size W => SysD.boxed hWh (by omega) x
  have hatx : SysD.at_ W W.heap.size h := hat.to (hWb.mono hB) (by omega)
  obtain ⟨blocks, ⟨A, cap, l⟩⟩ := h
  simp only at *
  have hm : cap ≤ 9223372036854775807 := hat.ropes.2.1
  have hlc : l.length ≤ cap := hat.ropes.1
  have HWs := hide hWs
  have HA := hide hatx
  have HWb := hide hWb
  have HW := hide hW
  clear hW hWs hWh hatx hat hWb
  go_enter Tryz.func27, Tryz.ntmps27
  go_wp2
  go_loopw [5] (fun v wr => ∃ k : Nat, v = .int .i64 k ∧ k ≤ l.length ∧ Hid (∀ j (y : RopeD), j < k → l[j]? = some y → sameName y.name nm = false) ∧ ∃ x : After W.heap.size W, wr = x.val) (fun v _ => l.length - (intOf v).toNat)
  case atStart => exact ⟨0, rfl, Nat.zero_le _, fun j y hj => absurd hj (by omega), ⟨W, Below.refl _ _⟩, HW.out.symm⟩
  case round =>
    obtain ⟨k, rfl, hk, hall, x, rfl⟩ := hrel
    by_cases hlt : k < l.length
    · obtain ⟨b, off, hA, hb, hcell⟩ := HA.out.ropes.2.2 (show 0 < l.length by omega)
      simp only at hA
      subst hA
      have hx : l[k]? = some l[k] := List.getElem?_eq_getElem hlt
      have he := fun x : After W.heap.size W => (RopeD.elem hx hb hcell x).1
      have HX := hide hx
      clear hcell hx
      cases hpk : sameName l[k].name nm
      · have hp : (l[k].name.toList == nm.toList) = false := hpk
        go_wp2
        exact ⟨⟨k + 1, by go_num, by omega, none_next hall.out HX.out hpk, _, rfl⟩, by simp [intOf]; omega⟩
      · have hp : (l[k].name.toList == nm.toList) = true := hpk
        go_wp2
        go_ret
        exact Gives.mk (congrArg (Value.int IntKind.i64) (findR_some HX.out hpk hall.out).symm) (HWb.out.trans (x.below.mono (by rw [HWs.out]; omega)))
    · go_wp2
      go_ret
      exact Gives.mk (congrArg (Value.int IntKind.i64) (findR_none fun j y hj hy => hall.out j y (by omega) hy).symm) (HWb.out.trans (x.below.mono (by rw [HWs.out]; omega)))

theorem lossOk_eq {n d : Int} (h : fracOk n d = true) : lossOk n d = (decide (d ≤ n) && decide (n ≤ 100)) := by rw [lossOk, h]; rfl
theorem lossOk_no {n d : Int} (h : fracOk n d = false) : lossOk n d = false := by rw [lossOk, h]; rfl
set_option maxRecDepth 100000 in
theorem lossy_any (n d : Int) (hn : I64 n) (w : World) : Calls Tryz.prog 72 #[.agg #[.int .i64 n, .int .i64 d]] w (Gives w (.bool (lossOk n d))) := by
  obtain ⟨W, hW, hWs, hWb, hWh⟩ := boxed w (.cells #[.int .i64 n, .int .i64 d] 55)
  have hc0 := fun y : After W.heap.size W => y.cells hWh (by omega) 0 _ rfl
  have hc1 := fun y : After W.heap.size W => y.cells hWh (by omega) 1 _ rfl
  have HW := hide hW
  have HBD := hide fun y : After W.heap.size W => hWb.trans (y.below.mono (by omega))
  clear hW hWs hWh hWb
  rcases Bool.eq_false_or_eq_true (fracOk n d) with hf | hf
  all_goals
    go_enter Tryz.func72, Tryz.ntmps72
    go_wp2_with (go_at_call 46; rw [← HW.out]; refine (Gives.first (fracValid_any n d hn _)).mono ?_; rintro e w' ⟨rfl, y, rfl⟩)
  all_goals
    go_ret
  all_goals first
    | exact Gives.mk (congrArg Value.bool (by rw [lossOk_no hf])) (HBD.out _)
    | exact Gives.mk (congrArg Value.bool (by rw [lossOk_eq hf]; simp_all <;> omega)) (HBD.out _)
set_option maxRecDepth 100000 in
theorem rightLoss_any (n d : Int) (hn : I64 n) (hd : I64 d) (w : World) : Calls Tryz.prog 70 #[.agg #[.int .i64 n, .int .i64 d]] w (Gives w (.bool (lossOk n d))) := by
  obtain ⟨W, hW, hWs, hWb, hWh⟩ := boxed w (.cells #[.int .i64 n, .int .i64 d] 55)
  have hc0 := fun y : After W.heap.size W => y.cells hWh (by omega) 0 _ rfl
  have hc1 := fun y : After W.heap.size W => y.cells hWh (by omega) 1 _ rfl
  have HW := hide hW
  have HBD := hide fun y : After W.heap.size W => hWb.trans (y.below.mono (by omega))
  clear hW hWs hWh hWb
  rcases Bool.eq_false_or_eq_true (fracOk n d) with hf | hf
  all_goals
    go_enter Tryz.func70, Tryz.ntmps70
    go_wp2_with (go_at_call 83; rw [← HW.out]; refine (Gives.first (refFrac_any n d hn hd _)).mono ?_; rintro e w' ⟨rfl, y, rfl⟩)
  all_goals
    go_ret
  all_goals first
    | exact Gives.mk (congrArg Value.bool (by rw [lossOk_no hf])) (HBD.out _)
    | exact Gives.mk (congrArg Value.bool (by rw [lossOk_eq hf]; simp_all <;> omega)) (HBD.out _)
end Go.Proofs.YtgamhdbcejkllaaGreatDoor
