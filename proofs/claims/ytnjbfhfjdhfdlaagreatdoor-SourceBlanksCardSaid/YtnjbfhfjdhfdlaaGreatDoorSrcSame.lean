/- house.Same says yes of houses that are alike. -/
import Derived.Test.YtnjbfhfjdhfdlaaGreatDoorSrcParse
namespace Go.Proofs.YtnjbfhfjdhfdlaaGreatDoor
open Go.RowKit

set_option maxRecDepth 100000 in
set_option maxHeartbeats 4000000 in
theorem eqRoofs_any (A A' : Option Addr) (cap cap' : Nat) (l : List RoofD) (w : World) (B : Nat) (hB : B ≤ w.heap.size) (hs : SlAt w B 4 RoofD.cells ⟨A, cap, l⟩) (hs' : SlAt w B 4 RoofD.cells ⟨A', cap', l⟩) :
    Calls Tryz.prog 45 #[.slice A l.length cap, .slice A' l.length cap'] w (Gives w (.bool true)) := by
  have HS := hide hs
  have HS' := hide hs'
  have hm : cap ≤ 9223372036854775807 := hs.2.1
  have hlc : l.length ≤ cap := hs.1
  have hm' : cap' ≤ 9223372036854775807 := hs'.2.1
  have hlc' : l.length ≤ cap' := hs'.1
  clear hs hs'
  go_enter Tryz.func45, Tryz.ntmps45
  go_wp2
  go_loopw [13] (fun v wr => ∃ k : Nat, v = .int .i64 k ∧ k ≤ l.length ∧ ∃ x : After w.heap.size w, wr = x.val) (fun v _ => l.length - (intOf v).toNat)
  case atStart => exact ⟨0, rfl, Nat.zero_le _, After.refl _ _, rfl⟩
  case round =>
    obtain ⟨k, rfl, hk, x, rfl⟩ := hrel
    by_cases hlt : k < l.length
    · obtain ⟨b, off, hA, hb, hcell⟩ := HS.out.2.2 (show 0 < l.length by omega)
      obtain ⟨b', off', hA', hb', hcell'⟩ := HS'.out.2.2 (show 0 < l.length by omega)
      simp only at hA hA'
      subst hA
      subst hA'
      have hx : l[k]? = some l[k] := List.getElem?_eq_getElem hlt
      have he := fun x : After w.heap.size w => RoofD.elem hx (show b < w.heap.size by omega) hcell x
      have he' := fun x : After w.heap.size w => RoofD.elem hx (show b' < w.heap.size by omega) hcell' x
      have hin : (k : Int) < (l.length : Int) := by omega
      have hi0 : (0 : Int) ≤ (k : Int) := by omega
      clear hcell hcell' hx
      obtain ⟨x1, hx1⟩ : ∃ x1, x1 = l[k] := ⟨_, rfl⟩
      rw [← hx1] at he he'
      clear hx1
      go_wp2
      refine wp_region_after x (by kernel_rfl) (by kernel_rfl) ?_
      repeat (go_big_quiet_step (fail))
      refine wpQuiet_nil ?_
      intro z
      go_wp2
      exact ⟨⟨k + 1, by go_num, by omega, _, rfl⟩, by simp [intOf]; omega⟩
    · go_wp2
      go_ret
      exact Gives.mk rfl x.below
set_option maxRecDepth 100000 in
set_option maxHeartbeats 4000000 in
theorem eqItems_any (A A' : Option Addr) (cap cap' : Nat) (l : List ItemD) (w : World) (B : Nat) (hB : B ≤ w.heap.size) (hs : SlAt w B 7 ItemD.cells ⟨A, cap, l⟩) (hs' : SlAt w B 7 ItemD.cells ⟨A', cap', l⟩) :
    Calls Tryz.prog 89 #[.slice A l.length cap, .slice A' l.length cap'] w (Gives w (.bool true)) := by
  have HS := hide hs
  have HS' := hide hs'
  have hm : cap ≤ 9223372036854775807 := hs.2.1
  have hlc : l.length ≤ cap := hs.1
  have hm' : cap' ≤ 9223372036854775807 := hs'.2.1
  have hlc' : l.length ≤ cap' := hs'.1
  clear hs hs'
  go_enter Tryz.func89, Tryz.ntmps89
  go_wp2
  go_loopw [13] (fun v wr => ∃ k : Nat, v = .int .i64 k ∧ k ≤ l.length ∧ ∃ x : After w.heap.size w, wr = x.val) (fun v _ => l.length - (intOf v).toNat)
  case atStart => exact ⟨0, rfl, Nat.zero_le _, After.refl _ _, rfl⟩
  case round =>
    obtain ⟨k, rfl, hk, x, rfl⟩ := hrel
    by_cases hlt : k < l.length
    · obtain ⟨b, off, hA, hb, hcell⟩ := HS.out.2.2 (show 0 < l.length by omega)
      obtain ⟨b', off', hA', hb', hcell'⟩ := HS'.out.2.2 (show 0 < l.length by omega)
      simp only at hA hA'
      subst hA
      subst hA'
      have hx : l[k]? = some l[k] := List.getElem?_eq_getElem hlt
      have he := fun x : After w.heap.size w => ItemD.elem hx (show b < w.heap.size by omega) hcell x
      have he' := fun x : After w.heap.size w => ItemD.elem hx (show b' < w.heap.size by omega) hcell' x
      have hin : (k : Int) < (l.length : Int) := by omega
      have hi0 : (0 : Int) ≤ (k : Int) := by omega
      clear hcell hcell' hx
      obtain ⟨x1, hx1⟩ : ∃ x1, x1 = l[k] := ⟨_, rfl⟩
      rw [← hx1] at he he'
      clear hx1
      go_wp2
      refine wp_region_after x (by kernel_rfl) (by kernel_rfl) ?_
      repeat (go_big_quiet_step (fail))
      refine wpQuiet_nil ?_
      intro z
      go_wp2
      exact ⟨⟨k + 1, by go_num, by omega, _, rfl⟩, by simp [intOf]; omega⟩
    · go_wp2
      go_ret
      exact Gives.mk rfl x.below
set_option maxRecDepth 100000 in
set_option maxHeartbeats 4000000 in
theorem eqBricks_any (A A' : Option Addr) (cap cap' : Nat) (l : List BrickD) (w : World) (B : Nat) (hB : B ≤ w.heap.size) (hs : SlAt w B 3 BrickD.cells ⟨A, cap, l⟩) (hs' : SlAt w B 3 BrickD.cells ⟨A', cap', l⟩) :
    Calls Tryz.prog 90 #[.slice A l.length cap, .slice A' l.length cap'] w (Gives w (.bool true)) := by
  have HS := hide hs
  have HS' := hide hs'
  have hm : cap ≤ 9223372036854775807 := hs.2.1
  have hlc : l.length ≤ cap := hs.1
  have hm' : cap' ≤ 9223372036854775807 := hs'.2.1
  have hlc' : l.length ≤ cap' := hs'.1
  clear hs hs'
  go_enter Tryz.func90, Tryz.ntmps90
  go_wp2
  go_loopw [13] (fun v wr => ∃ k : Nat, v = .int .i64 k ∧ k ≤ l.length ∧ ∃ x : After w.heap.size w, wr = x.val) (fun v _ => l.length - (intOf v).toNat)
  case atStart => exact ⟨0, rfl, Nat.zero_le _, After.refl _ _, rfl⟩
  case round =>
    obtain ⟨k, rfl, hk, x, rfl⟩ := hrel
    by_cases hlt : k < l.length
    · obtain ⟨b, off, hA, hb, hcell⟩ := HS.out.2.2 (show 0 < l.length by omega)
      obtain ⟨b', off', hA', hb', hcell'⟩ := HS'.out.2.2 (show 0 < l.length by omega)
      simp only at hA hA'
      subst hA
      subst hA'
      have hx : l[k]? = some l[k] := List.getElem?_eq_getElem hlt
      have he := fun x : After w.heap.size w => BrickD.elem hx (show b < w.heap.size by omega) hcell x
      have he' := fun x : After w.heap.size w => BrickD.elem hx (show b' < w.heap.size by omega) hcell' x
      have hin : (k : Int) < (l.length : Int) := by omega
      have hi0 : (0 : Int) ≤ (k : Int) := by omega
      clear hcell hcell' hx
      obtain ⟨x1, hx1⟩ : ∃ x1, x1 = l[k] := ⟨_, rfl⟩
      rw [← hx1] at he he'
      clear hx1
      go_wp2
      refine wp_region_after x (by kernel_rfl) (by kernel_rfl) ?_
      repeat (go_big_quiet_step (fail))
      refine wpQuiet_nil ?_
      intro z
      go_wp2
      exact ⟨⟨k + 1, by go_num, by omega, _, rfl⟩, by simp [intOf]; omega⟩
    · go_wp2
      go_ret
      exact Gives.mk rfl x.below
set_option maxRecDepth 100000 in
set_option maxHeartbeats 4000000 in
theorem eqInts_any (A A' : Option Addr) (cap cap' : Nat) (l : List Int) (w : World) (B : Nat) (hB : B ≤ w.heap.size) (hs : SlAt w B 1 intCells ⟨A, cap, l⟩) (hs' : SlAt w B 1 intCells ⟨A', cap', l⟩) :
    Calls Tryz.prog 26 #[.slice A l.length cap, .slice A' l.length cap'] w (Gives w (.bool true)) := by
  have HS := hide hs
  have HS' := hide hs'
  have hm : cap ≤ 9223372036854775807 := hs.2.1
  have hlc : l.length ≤ cap := hs.1
  have hm' : cap' ≤ 9223372036854775807 := hs'.2.1
  have hlc' : l.length ≤ cap' := hs'.1
  clear hs hs'
  go_enter Tryz.func26, Tryz.ntmps26
  go_wp2
  go_loopw [13] (fun v wr => ∃ k : Nat, v = .int .i64 k ∧ k ≤ l.length ∧ ∃ x : After w.heap.size w, wr = x.val) (fun v _ => l.length - (intOf v).toNat)
  case atStart => exact ⟨0, rfl, Nat.zero_le _, After.refl _ _, rfl⟩
  case round =>
    obtain ⟨k, rfl, hk, x, rfl⟩ := hrel
    by_cases hlt : k < l.length
    · obtain ⟨b, off, hA, hb, hcell⟩ := HS.out.2.2 (show 0 < l.length by omega)
      obtain ⟨b', off', hA', hb', hcell'⟩ := HS'.out.2.2 (show 0 < l.length by omega)
      simp only at hA hA'
      subst hA
      subst hA'
      have hx : l[k]? = some l[k] := List.getElem?_eq_getElem hlt
      have he := fun x : After w.heap.size w => intElem hx (show b < w.heap.size by omega) hcell x
      have he' := fun x : After w.heap.size w => intElem hx (show b' < w.heap.size by omega) hcell' x
      have hin : (k : Int) < (l.length : Int) := by omega
      have hi0 : (0 : Int) ≤ (k : Int) := by omega
      clear hcell hcell' hx
      obtain ⟨x1, hx1⟩ : ∃ x1, x1 = l[k] := ⟨_, rfl⟩
      rw [← hx1] at he he'
      clear hx1
      go_wp2
      refine wp_region_after x (by kernel_rfl) (by kernel_rfl) ?_
      repeat (go_big_quiet_step (fail))
      refine wpQuiet_nil ?_
      intro z
      go_wp2
      exact ⟨⟨k + 1, by go_num, by omega, _, rfl⟩, by simp [intOf]; omega⟩
    · go_wp2
      go_ret
      exact Gives.mk rfl x.below
set_option maxRecDepth 100000 in
set_option maxHeartbeats 8000000 in
theorem sameSet_any (s s' : SetD) (hp : s.pl = s'.pl) (w : World) (B : Nat) (hB : B ≤ w.heap.size) (hx : SetD.at_ w B s) (hy : SetD.at_ w B s') :
    Calls Tryz.prog 47 #[.agg #[.string s.name, .int .i64 s.depth, .int .i64 s.low, .int .i64 s.high, .int .i64 s.length, .slice s.lines.A s.lines.l.length s.lines.cap, .int .i64 s.pipe, .int .i64 s.arbor, .int .i64 s.purchase, .int .i64 s.most, .int .i64 s.brake, .slice s.items.A s.items.l.length s.items.cap, .slice s.bricks.A s.bricks.l.length s.bricks.cap], .agg #[.string s'.name, .int .i64 s'.depth, .int .i64 s'.low, .int .i64 s'.high, .int .i64 s'.length, .slice s'.lines.A s'.lines.l.length s'.lines.cap, .int .i64 s'.pipe, .int .i64 s'.arbor, .int .i64 s'.purchase, .int .i64 s'.most, .int .i64 s'.brake, .slice s'.items.A s'.items.l.length s'.items.cap, .slice s'.bricks.A s'.bricks.l.length s'.bricks.cap]] w (Gives w (.bool true)) := by
  obtain ⟨nm, d, lo, hi, le, ⟨a1, c1, ls⟩, pi, ar, pu, mo, br, ⟨a2, c2, is⟩, ⟨a3, c3, bs⟩⟩ := s
  obtain ⟨nm', d', lo', hi', le', ⟨a1', c1', ls'⟩, pi', ar', pu', mo', br', ⟨a2', c2', is'⟩, ⟨a3', c3', bs'⟩⟩ := s'
  simp only [SetD.pl, SetP.mk.injEq] at hp
  obtain ⟨rfl, rfl, rfl, rfl, rfl, rfl, rfl, rfl, rfl, rfl, rfl, rfl, rfl⟩ := hp
  simp only
  obtain ⟨W1, hW1, hs1, hb1, hh1⟩ := boxed w (.cells #[.string nm, .int .i64 d, .int .i64 lo, .int .i64 hi, .int .i64 le, .slice a1 ls.length c1, .int .i64 pi, .int .i64 ar, .int .i64 pu, .int .i64 mo, .int .i64 br, .slice a2 is.length c2, .slice a3 bs.length c3] 63)
  obtain ⟨W, hW2, hs2, hb2, hh2⟩ := boxed W1 (.cells #[.string nm, .int .i64 d, .int .i64 lo, .int .i64 hi, .int .i64 le, .slice a1' ls.length c1', .int .i64 pi, .int .i64 ar, .int .i64 pu, .int .i64 mo, .int .i64 br, .slice a2' is.length c2', .slice a3' bs.length c3'] 63)
  have hb : Below w.heap.size w W := hb1.trans (hb2.mono (by omega))
  have hh1' := (hb2.block _ (by omega)).trans hh1
  rw [hs1] at hh2
  have hcx := fun y : After W.heap.size W => SetD.boxed (s := ⟨nm, d, lo, hi, le, ⟨a1, c1, ls⟩, pi, ar, pu, mo, br, ⟨a2, c2, is⟩, ⟨a3, c3, bs⟩⟩) hh1' (by omega) y
  have hcy := fun y : After W.heap.size W => SetD.boxed (s := ⟨nm, d, lo, hi, le, ⟨a1', c1', ls⟩, pi, ar, pu, mo, br, ⟨a2', c2', is⟩, ⟨a3', c3', bs⟩⟩) hh2 (by omega) y
  simp only at hcx hcy
  have hc0 := And.intro (hcx (After.refl _ _)) (hcy (After.refl _ _))
  simp only [After.refl] at hc0
  have hbd : ∀ y : After W.heap.size W, Below w.heap.size w y.val := fun y => hb.trans (y.below.mono (by omega))
  have hxW := hx.to (hb.mono hB) (show B ≤ W.heap.size by omega)
  have hyW := hy.to (hb.mono hB) (show B ≤ W.heap.size by omega)
  have K1 := hide (fun y : After W.heap.size W => Gives.after (x := y) (Nat.le_refl _) (eqInts_any a1 a1' c1 c1' ls y.val W.heap.size y.size (hxW.lines.to y.below (Nat.le_refl _)) (hyW.lines.to y.below (Nat.le_refl _))))
  have K2 := hide (fun y : After W.heap.size W => Gives.after (x := y) (Nat.le_refl _) (eqItems_any a2 a2' c2 c2' is y.val W.heap.size y.size (hxW.items.to y.below (Nat.le_refl _)) (hyW.items.to y.below (Nat.le_refl _))))
  have K3 := hide (fun y : After W.heap.size W => Gives.after (x := y) (Nat.le_refl _) (eqBricks_any a3 a3' c3 c3' bs y.val W.heap.size y.size (hxW.bricks.to y.below (Nat.le_refl _)) (hyW.bricks.to y.below (Nat.le_refl _))))
  have K0 := hide (Gives.first (eqInts_any a1 a1' c1 c1' ls W W.heap.size (Nat.le_refl _) hxW.lines hyW.lines))
  have HBD := hide hbd
  have HW := hide (show (w.alloc (.cells #[.string nm, .int .i64 d, .int .i64 lo, .int .i64 hi, .int .i64 le, .slice a1 ls.length c1, .int .i64 pi, .int .i64 ar, .int .i64 pu, .int .i64 mo, .int .i64 br, .slice a2 is.length c2, .slice a3 bs.length c3] 63)).alloc (.cells #[.string nm, .int .i64 d, .int .i64 lo, .int .i64 hi, .int .i64 le, .slice a1' ls.length c1', .int .i64 pi, .int .i64 ar, .int .i64 pu, .int .i64 mo, .int .i64 br, .slice a2' is.length c2', .slice a3' bs.length c3'] 63) = W by rw [← hW1, ← hW2])
  clear hW1 hW2 hs1 hs2 hb1 hb2 hh1 hh2 hh1' hxW hyW hx hy hbd hb
  go_enter Tryz.func47, Tryz.ntmps47
  go_wp2_with (first
    | (go_at_call 26; rw [HW.out]; refine K0.out.mono ?_; rintro e w' ⟨rfl, y1, rfl⟩; have hcy1 := And.intro (hcx y1) (hcy y1))
    | (go_at_call 89; refine (K2.out y1).mono ?_; rintro e w' ⟨rfl, y2, rfl⟩; have hcy2 := And.intro (hcx y2) (hcy y2))
    | (go_at_call 90; refine (K3.out y2).mono ?_; rintro e w' ⟨rfl, y3, rfl⟩))
  go_ret
  exact Gives.mk rfl (HBD.out _)
theorem enters_sameSet : ∀ args w, (callFunc 47 args).run Tryz.prog w = .ok (.enter 47 args) w := entersOf Tryz.func47 (by kernel_rfl) rfl
set_option maxRecDepth 100000 in
set_option maxHeartbeats 8000000 in
theorem eqSets_any (A A' : Option Addr) (cap cap' : Nat) (l l' : List SetD) (hp : l.map SetD.pl = l'.map SetD.pl) (w : World) (B : Nat) (hB : B ≤ w.heap.size) (hs : SlAt w B 13 SetD.cells ⟨A, cap, l⟩) (hs' : SlAt w B 13 SetD.cells ⟨A', cap', l'⟩) (he1 : ∀ s ∈ l, SetD.at_ w B s) (he2 : ∀ s ∈ l', SetD.at_ w B s) :
    Calls Tryz.prog 46 #[.slice A l.length cap, .slice A' l'.length cap', .func (.func 47) #[] #[]] w (Gives w (.bool true)) := by
  have hl : l.length = l'.length := by have := congrArg List.length hp; simpa using this
  have HS := hide hs
  have HS' := hide hs'
  have HE1 := hide he1
  have HE2 := hide he2
  have HP := hide hp
  have hm : cap ≤ 9223372036854775807 := hs.2.1
  have hlc : l.length ≤ cap := hs.1
  have hm' : cap' ≤ 9223372036854775807 := hs'.2.1
  have hlc' : l'.length ≤ cap' := hs'.1
  have HL := hide hl
  have eg := enters_sameSet
  rw [← hl] at hlc' ⊢
  clear hs hs' he1 he2 hp hl
  go_enter Tryz.func46, Tryz.ntmps46
  go_wp2
  go_loopw [17] (fun v wr => ∃ k : Nat, v = .int .i64 k ∧ k ≤ l.length ∧ ∃ x : After w.heap.size w, wr = x.val) (fun v _ => l.length - (intOf v).toNat)
  case atStart => exact ⟨0, rfl, Nat.zero_le _, After.refl _ _, rfl⟩
  case round =>
    obtain ⟨k, rfl, hk, x, rfl⟩ := hrel
    by_cases hlt : k < l.length
    · have hlt' : k < l'.length := by rw [← HL.out]; exact hlt
      obtain ⟨b, off, hA, hb, hcell⟩ := HS.out.2.2 (show 0 < l.length by omega)
      obtain ⟨b', off', hA', hb', hcell'⟩ := HS'.out.2.2 (show 0 < l'.length by omega)
      simp only at hA hA'
      subst hA
      subst hA'
      obtain ⟨s, hx⟩ : ∃ s, l[k]? = some s := ⟨l[k], List.getElem?_eq_getElem hlt⟩
      obtain ⟨s', hx'⟩ : ∃ s, l'[k]? = some s := ⟨l'[k], List.getElem?_eq_getElem hlt'⟩
      have hpl : s.pl = s'.pl := by
        have h1 := congrArg (fun (m : List SetP) => m[k]?) HP.out
        simp only [List.getElem?_map, hx, hx', Option.map_some, Option.some.injEq] at h1
        exact h1
      have ha1 := HE1.out s (List.mem_of_getElem? hx)
      have ha2 := HE2.out s' (List.mem_of_getElem? hx')
      have he := fun x : After w.heap.size w => SetD.elem hx (show b < w.heap.size by omega) hcell x
      have he' := fun x : After w.heap.size w => SetD.elem hx' (show b' < w.heap.size by omega) hcell' x
      obtain ⟨W1, hW1, hs1, hb1, hh1⟩ := boxed x.val (.cells #[.string s.name, .int .i64 s.depth, .int .i64 s.low, .int .i64 s.high, .int .i64 s.length, .slice s.lines.A s.lines.l.length s.lines.cap, .int .i64 s.pipe, .int .i64 s.arbor, .int .i64 s.purchase, .int .i64 s.most, .int .i64 s.brake, .slice s.items.A s.items.l.length s.items.cap, .slice s.bricks.A s.bricks.l.length s.bricks.cap] 63)
      obtain ⟨W, hW2, hs2, hb2, hh2⟩ := boxed W1 (.cells #[.string s'.name, .int .i64 s'.depth, .int .i64 s'.low, .int .i64 s'.high, .int .i64 s'.length, .slice s'.lines.A s'.lines.l.length s'.lines.cap, .int .i64 s'.pipe, .int .i64 s'.arbor, .int .i64 s'.purchase, .int .i64 s'.most, .int .i64 s'.brake, .slice s'.items.A s'.items.l.length s'.items.cap, .slice s'.bricks.A s'.bricks.l.length s'.bricks.cap] 63)
      have hh1' := (hb2.block _ (by omega)).trans hh1
      rw [hs1] at hh2
      have hbW : Below w.heap.size w W := x.below.trans ((hb1.mono x.size).trans (hb2.mono (by have := x.size; omega)))
      have heW := he' ⟨W1, x.below.trans (hb1.mono x.size)⟩
      simp only at heW
      have hcx := SetD.boxed (B := W.heap.size) hh1' (by omega) (After.refl _ _)
      have hcx1 := SetD.boxed (B := W1.heap.size) hh1 (by omega) (After.refl _ _)
      have hcy := SetD.boxed (B := W.heap.size) hh2 (by omega) (After.refl _ _)
      simp only [After.refl] at hcx hcy hcx1
      have HW1 := hide hW1
      have HW2 := hide hW2
      have KS := hide (Gives.first (sameSet_any s s' hpl W W.heap.size (Nat.le_refl _) (ha1.to (hbW.mono hB) (Nat.le_trans hB hbW.size)) (ha2.to (hbW.mono hB) (Nat.le_trans hB hbW.size))))
      have HBW := hide hbW
      have hin : (k : Int) < (l.length : Int) := by omega
      have hi0 : (0 : Int) ≤ (k : Int) := by omega
      clear hcell hcell' hx hx' hW1 hW2 hh1 hh2 hh1' hb1 hb2 hbW ha1 ha2 hpl
      go_upto_region 6 with fail
      rw [← HW1.out]
      go_upto_region 7 with fail
      rw [← hs1, ← HW2.out]
      go_wp2_with (go_at_call 47; refine KS.out.mono ?_; rintro e w' ⟨rfl, y, rfl⟩)
      exact ⟨⟨k + 1, by go_num, by omega, ⟨_, HBW.out.trans (y.below.mono HBW.out.size)⟩, rfl⟩, by simp [intOf]; omega⟩
    · go_wp2
      go_ret
      exact Gives.mk rfl x.below
set_option maxRecDepth 100000 in
set_option maxHeartbeats 8000000 in
theorem sameHouse_any (h h' : HouseD) (hp : h.pl = h'.pl) (w : World) (B : Nat) (hB : B ≤ w.heap.size) (hx : HouseD.at_ w B h) (hy : HouseD.at_ w B h') :
    Calls Tryz.prog 18 #[.agg #[.string h.name, .int .i64 h.height, .slice h.sets.A h.sets.l.length h.sets.cap, .slice h.roofs.A h.roofs.l.length h.roofs.cap], .agg #[.string h'.name, .int .i64 h'.height, .slice h'.sets.A h'.sets.l.length h'.sets.cap, .slice h'.roofs.A h'.roofs.l.length h'.roofs.cap]] w (Gives w (.bool true)) := by
  obtain ⟨nm, ht, ⟨sA, sc, sl⟩, ⟨rA, rc, rl⟩⟩ := h
  obtain ⟨nm', ht', ⟨sA', sc', sl'⟩, ⟨rA', rc', rl'⟩⟩ := h'
  simp only [HouseD.pl, HouseP.mk.injEq] at hp
  obtain ⟨rfl, rfl, hsl, rfl⟩ := hp
  simp only
  obtain ⟨W1, hW1, hs1, hb1, hh1⟩ := boxed w (.cells #[.string nm, .int .i64 ht, .slice sA sl.length sc, .slice rA rl.length rc] 25)
  obtain ⟨W, hW2, hs2, hb2, hh2⟩ := boxed W1 (.cells #[.string nm, .int .i64 ht, .slice sA' sl'.length sc', .slice rA' rl.length rc'] 25)
  have hb : Below w.heap.size w W := hb1.trans (hb2.mono (by omega))
  have hh1' := (hb2.block _ (by omega)).trans hh1
  rw [hs1] at hh2
  have hcx := fun y : After W.heap.size W => HouseD.boxed (h := ⟨nm, ht, ⟨sA, sc, sl⟩, ⟨rA, rc, rl⟩⟩) hh1' (by omega) y
  have hcy := fun y : After W.heap.size W => HouseD.boxed (h := ⟨nm, ht, ⟨sA', sc', sl'⟩, ⟨rA', rc', rl⟩⟩) hh2 (by omega) y
  simp only at hcx hcy
  have hc0 := And.intro (hcx (After.refl _ _)) (hcy (After.refl _ _))
  simp only [After.refl] at hc0
  have hbd : ∀ y : After W.heap.size W, Below w.heap.size w y.val := fun y => hb.trans (y.below.mono (by omega))
  have hxW := hx.to (hb.mono hB) (show B ≤ W.heap.size by omega)
  have hyW := hy.to (hb.mono hB) (show B ≤ W.heap.size by omega)
  have K0 := hide (Gives.first (eqRoofs_any rA rA' rc rc' rl W W.heap.size (Nat.le_refl _) hxW.roofs hyW.roofs))
  have K1 := hide (fun y : After W.heap.size W => Gives.after (x := y) (Nat.le_refl _) (eqSets_any sA sA' sc sc' sl sl' hsl y.val W.heap.size y.size (hxW.sets.to y.below (Nat.le_refl _)) (hyW.sets.to y.below (Nat.le_refl _)) (fun s hs => (hxW.each s hs).to y.below (Nat.le_refl _)) (fun s hs => (hyW.each s hs).to y.below (Nat.le_refl _))))
  have HBD := hide hbd
  have HW := hide (show (w.alloc (.cells #[.string nm, .int .i64 ht, .slice sA sl.length sc, .slice rA rl.length rc] 25)).alloc (.cells #[.string nm, .int .i64 ht, .slice sA' sl'.length sc', .slice rA' rl.length rc'] 25) = W by rw [← hW1, ← hW2])
  clear hW1 hW2 hs1 hs2 hb1 hb2 hh1 hh2 hh1' hxW hyW hx hy hbd hb hsl
  go_enter Tryz.func18, Tryz.ntmps18
  go_wp2_with (first
    | (go_at_call 45; rw [HW.out]; refine K0.out.mono ?_; rintro e w' ⟨rfl, y1, rfl⟩; have hcy1 := And.intro (hcx y1) (hcy y1))
    | (go_at_call 46; refine (K1.out y1).mono ?_; rintro e w' ⟨rfl, y2, rfl⟩))
  go_ret
  exact Gives.mk rfl (HBD.out _)
end Go.Proofs.YtnjbfhfjdhfdlaaGreatDoor
