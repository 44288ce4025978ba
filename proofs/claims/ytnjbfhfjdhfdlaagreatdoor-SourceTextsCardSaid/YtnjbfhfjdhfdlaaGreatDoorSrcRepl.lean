/- house.Same says yes of houses that are alike. The examples of the chapter hold. loftblockref31.Same says yes of cue sheets that are alike. A newline replaced by blanks, a comment and empty lines; what Parse says of it: in plain Lean. -/
import Derived.Test.YtnjbfhfjdhfdlaaGreatDoorSrcParse
import Derived.ChangeKeysEq
import Derived.Lib.Replace
namespace Go.Proofs.YtnjbfhfjdhfdlaaGreatDoor
open Go.RowKit

set_option maxRecDepth 100000 in
set_option maxHeartbeats 4000000 in
theorem eqRoofs_any (A A' : Option Addr) (cap cap' : Nat) (l : List RoofD) (w : World) (B : Nat) (hB : B ≤ w.heap.size) (hs : SlAt w B 4 RoofD.cells ⟨A, cap, l⟩) (hs' : SlAt w B 4 RoofD.cells ⟨A', cap', l⟩) :
    Calls Tryz.prog 45 #[.slice A l.length cap, .slice A' l.length cap'] w (Gives w (.bool true)) := by
  have HS := hide hs
  have HS' := hide hs'
  have hm : cap ≤ 9223372036854775807 := hs.2.1
  have hlc : l.length ≤ cap := hs.1
  have hm' : cap' ≤ 9223372036854775807 := hs'.2.1
  have hlc' : l.length ≤ cap' := hs'.1
  clear hs hs'
  go_enter Tryz.func45, Tryz.ntmps45
  go_wp2
  go_loopw [13] (fun v wr => ∃ k : Nat, v = .int .i64 k ∧ k ≤ l.length ∧ ∃ x : After w.heap.size w, wr = x.val) (fun v _ => l.length - (intOf v).toNat)
  case atStart => exact ⟨0, rfl, Nat.zero_le _, After.refl _ _, rfl⟩
  case round =>
    obtain ⟨k, rfl, hk, x, rfl⟩ := hrel
    by_cases hlt : k < l.length
    · obtain ⟨b, off, hA, hb, hcell⟩ := HS.out.2.2 (show 0 < l.length by omega)
      obtain ⟨b', off', hA', hb', hcell'⟩ := HS'.out.2.2 (show 0 < l.length by omega)
      simp only at hA hA'
      subst hA
      subst hA'
      have hx : l[k]? = some l[k] := List.getElem?_eq_getElem hlt
      have he := fun x : After w.heap.size w => RoofD.elem hx (show b < w.heap.size by omega) hcell x
      have he' := fun x : After w.heap.size w => RoofD.elem hx (show b' < w.heap.size by omega) hcell' x
      have hin : (k : Int) < (l.length : Int) := by omega
      have hi0 : (0 : Int) ≤ (k : Int) := by omega
      clear hcell hcell' hx
      obtain ⟨x1, hx1⟩ : ∃ x1, x1 = l[k] := ⟨_, rfl⟩
      rw [← hx1] at he he'
      clear hx1
      go_wp2
      refine wp_region_after x (by kernel_rfl) (by kernel_rfl) ?_
      repeat (go_big_quiet_step (fail))
      refine wpQuiet_nil ?_
      intro z
      go_wp2
      exact ⟨⟨k + 1, by go_num, by omega, _, rfl⟩, by simp [intOf]; omega⟩
    · go_wp2
      go_ret
      exact Gives.mk rfl x.below
set_option maxRecDepth 100000 in
set_option maxHeartbeats 4000000 in
theorem eqItems_any (A A' : Option Addr) (cap cap' : Nat) (l : List ItemD) (w : World) (B : Nat) (hB : B ≤ w.heap.size) (hs : SlAt w B 7 ItemD.cells ⟨A, cap, l⟩) (hs' : SlAt w B 7 ItemD.cells ⟨A', cap', l⟩) :
    Calls Tryz.prog 89 #[.slice A l.length cap, .slice A' l.length cap'] w (Gives w (.bool true)) := by
  have HS := hide hs
  have HS' := hide hs'
  have hm : cap ≤ 9223372036854775807 := hs.2.1
  have hlc : l.length ≤ cap := hs.1
  have hm' : cap' ≤ 9223372036854775807 := hs'.2.1
  have hlc' : l.length ≤ cap' := hs'.1
  clear hs hs'
  go_enter Tryz.func89, Tryz.ntmps89
  go_wp2
  go_loopw [13] (fun v wr => ∃ k : Nat, v = .int .i64 k ∧ k ≤ l.length ∧ ∃ x : After w.heap.size w, wr = x.val) (fun v _ => l.length - (intOf v).toNat)
  case atStart => exact ⟨0, rfl, Nat.zero_le _, After.refl _ _, rfl⟩
  case round =>
    obtain ⟨k, rfl, hk, x, rfl⟩ := hrel
    by_cases hlt : k < l.length
    · obtain ⟨b, off, hA, hb, hcell⟩ := HS.out.2.2 (show 0 < l.length by omega)
      obtain ⟨b', off', hA', hb', hcell'⟩ := HS'.out.2.2 (show 0 < l.length by omega)
      simp only at hA hA'
      subst hA
      subst hA'
      have hx : l[k]? = some l[k] := List.getElem?_eq_getElem hlt
      have he := fun x : After w.heap.size w => ItemD.elem hx (show b < w.heap.size by omega) hcell x
      have he' := fun x : After w.heap.size w => ItemD.elem hx (show b' < w.heap.size by omega) hcell' x
      have hin : (k : Int) < (l.length : Int) := by omega
      have hi0 : (0 : Int) ≤ (k : Int) := by omega
      clear hcell hcell' hx
      obtain ⟨x1, hx1⟩ : ∃ x1, x1 = l[k] := ⟨_, rfl⟩
      rw [← hx1] at he he'
      clear hx1
      go_wp2
      refine wp_region_after x (by kernel_rfl) (by kernel_rfl) ?_
      repeat (go_big_quiet_step (fail))
      refine wpQuiet_nil ?_
      intro z
      go_wp2
      exact ⟨⟨k + 1, by go_num, by omega, _, rfl⟩, by simp [intOf]; omega⟩
    · go_wp2
      go_ret
      exact Gives.mk rfl x.below
set_option maxRecDepth 100000 in
set_option maxHeartbeats 4000000 in
theorem eqBricks_any (A A' : Option Addr) (cap cap' : Nat) (l : List BrickD) (w : World) (B : Nat) (hB : B ≤ w.heap.size) (hs : SlAt w B 3 BrickD.cells ⟨A, cap, l⟩) (hs' : SlAt w B 3 BrickD.cells ⟨A', cap', l⟩) :
    Calls Tryz.prog 90 #[.slice A l.length cap, .slice A' l.length cap'] w (Gives w (.bool true)) := by
  have HS := hide hs
  have HS' := hide hs'
  have hm : cap ≤ 9223372036854775807 := hs.2.1
  have hlc : l.length ≤ cap := hs.1
  have hm' : cap' ≤ 9223372036854775807 := hs'.2.1
  have hlc' : l.length ≤ cap' := hs'.1
  clear hs hs'
  go_enter Tryz.func90, Tryz.ntmps90
  go_wp2
  go_loopw [13] (fun v wr => ∃ k : Nat, v = .int .i64 k ∧ k ≤ l.length ∧ ∃ x : After w.heap.size w, wr = x.val) (fun v _ => l.length - (intOf v).toNat)
  case atStart => exact ⟨0, rfl, Nat.zero_le _, After.refl _ _, rfl⟩
  case round =>
    obtain ⟨k, rfl, hk, x, rfl⟩ := hrel
    by_cases hlt : k < l.length
    · obtain ⟨b, off, hA, hb, hcell⟩ := HS.out.2.2 (show 0 < l.length by omega)
      obtain ⟨b', off', hA', hb', hcell'⟩ := HS'.out.2.2 (show 0 < l.length by omega)
      simp only at hA hA'
      subst hA
      subst hA'
      have hx : l[k]? = some l[k] := List.getElem?_eq_getElem hlt
      have he := fun x : After w.heap.size w => BrickD.elem hx (show b < w.heap.size by omega) hcell x
      have he' := fun x : After w.heap.size w => BrickD.elem hx (show b' < w.heap.size by omega) hcell' x
      have hin : (k : Int) < (l.length : Int) := by omega
      have hi0 : (0 : Int) ≤ (k : Int) := by omega
      clear hcell hcell' hx
      obtain ⟨x1, hx1⟩ : ∃ x1, x1 = l[k] := ⟨_, rfl⟩
      rw [← hx1] at he he'
      clear hx1
      go_wp2
      refine wp_region_after x (by kernel_rfl) (by kernel_rfl) ?_
      repeat (go_big_quiet_step (fail))
      refine wpQuiet_nil ?_
      intro z
      go_wp2
      exact ⟨⟨k + 1, by go_num, by omega, _, rfl⟩, by simp [intOf]; omega⟩
    · go_wp2
      go_ret
      exact Gives.mk rfl x.below
set_option maxRecDepth 100000 in
set_option maxHeartbeats 4000000 in
theorem eqInts_any (A A' : Option Addr) (cap cap' : Nat) (l : List Int) (w : World) (B : Nat) (hB : B ≤ w.heap.size) (hs : SlAt w B 1 intCells ⟨A, cap, l⟩) (hs' : SlAt w B 1 intCells ⟨A', cap', l⟩) :
    Calls Tryz.prog 26 #[.slice A l.length cap, .slice A' l.length cap'] w (Gives w (.bool true)) := by
  have HS := hide hs
  have HS' := hide hs'
  have hm : cap ≤ 9223372036854775807 := hs.2.1
  have hlc : l.length ≤ cap := hs.1
  have hm' : cap' ≤ 9223372036854775807 := hs'.2.1
  have hlc' : l.length ≤ cap' := hs'.1
  clear hs hs'
  go_enter Tryz.func26, Tryz.ntmps26
  go_wp2
  go_loopw [13] (fun v wr => ∃ k : Nat, v = .int .i64 k ∧ k ≤ l.length ∧ ∃ x : After w.heap.size w, wr = x.val) (fun v _ => l.length - (intOf v).toNat)
  case atStart => exact ⟨0, rfl, Nat.zero_le _, After.refl _ _, rfl⟩
  case round =>
    obtain ⟨k, rfl, hk, x, rfl⟩ := hrel
    by_cases hlt : k < l.length
    · obtain ⟨b, off, hA, hb, hcell⟩ := HS.out.2.2 (show 0 < l.length by omega)
      obtain ⟨b', off', hA', hb', hcell'⟩ := HS'.out.2.2 (show 0 < l.length by omega)
      simp only at hA hA'
      subst hA
      subst hA'
      have hx : l[k]? = some l[k] := List.getElem?_eq_getElem hlt
      have he := fun x : After w.heap.size w => intElem hx (show b < w.heap.size by omega) hcell x
      have he' := fun x : After w.heap.size w => intElem hx (show b' < w.heap.size by omega) hcell' x
      have hin : (k : Int) < (l.length : Int) := by omega
      have hi0 : (0 : Int) ≤ (k : Int) := by omega
      clear hcell hcell' hx
      obtain ⟨x1, hx1⟩ : ∃ x1, x1 = l[k] := ⟨_, rfl⟩
      rw [← hx1] at he he'
      clear hx1
      go_wp2
      refine wp_region_after x (by kernel_rfl) (by kernel_rfl) ?_
      repeat (go_big_quiet_step (fail))
      refine wpQuiet_nil ?_
      intro z
      go_wp2
      exact ⟨⟨k + 1, by go_num, by omega, _, rfl⟩, by simp [intOf]; omega⟩
    · go_wp2
      go_ret
      exact Gives.mk rfl x.below
set_option maxRecDepth 100000 in
set_option maxHeartbeats 8000000 in
theorem sameSet_any (s s' : SetD) (hp : s.pl = s'.pl) (w : World) (B : Nat) (hB : B ≤ w.heap.size) (hx : SetD.at_ w B s) (hy : SetD.at_ w B s') :
    Calls Tryz.prog 47 #[.agg #[.string s.name, .int .i64 s.depth, .int .i64 s.low, .int .i64 s.high, .int .i64 s.length, .slice s.lines.A s.lines.l.length s.lines.cap, .int .i64 s.pipe, .int .i64 s.arbor, .int .i64 s.purchase, .int .i64 s.most, .int .i64 s.brake, .slice s.items.A s.items.l.length s.items.cap, .slice s.bricks.A s.bricks.l.length s.bricks.cap], .agg #[.string s'.name, .int .i64 s'.depth, .int .i64 s'.low, .int .i64 s'.high, .int .i64 s'.length, .slice s'.lines.A s'.lines.l.length s'.lines.cap, .int .i64 s'.pipe, .int .i64 s'.arbor, .int .i64 s'.purchase, .int .i64 s'.most, .int .i64 s'.brake, .slice s'.items.A s'.items.l.length s'.items.cap, .slice s'.bricks.A s'.bricks.l.length s'.bricks.cap]] w (Gives w (.bool true)) := by
  obtain ⟨nm, d, lo, hi, le, ⟨a1, c1, ls⟩, pi, ar, pu, mo, br, ⟨a2, c2, is⟩, ⟨a3, c3, bs⟩⟩ := s
  obtain ⟨nm', d', lo', hi', le', ⟨a1', c1', ls'⟩, pi', ar', pu', mo', br', ⟨a2', c2', is'⟩, ⟨a3', c3', bs'⟩⟩ := s'
  simp only [SetD.pl, SetP.mk.injEq] at hp
  obtain ⟨rfl, rfl, rfl, rfl, rfl, rfl, rfl, rfl, rfl, rfl, rfl, rfl, rfl⟩ := hp
  simp only
  obtain ⟨W1, hW1, hs1, hb1, hh1⟩ := boxed w (.cells #[.string nm, .int .i64 d, .int .i64 lo, .int .i64 hi, .int .i64 le, .slice a1 ls.length c1, .int .i64 pi, .int .i64 ar, .int .i64 pu, .int .i64 mo, .int .i64 br, .slice a2 is.length c2, .slice a3 bs.length c3] 63)
  obtain ⟨W, hW2, hs2, hb2, hh2⟩ := boxed W1 (.cells #[.string nm, .int .i64 d, .int .i64 lo, .int .i64 hi, .int .i64 le, .slice a1' ls.length c1', .int .i64 pi, .int .i64 ar, .int .i64 pu, .int .i64 mo, .int .i64 br, .slice a2' is.length c2', .slice a3' bs.length c3'] 63)
  have hb : Below w.heap.size w W := hb1.trans (hb2.mono (by omega))
  have hh1' := (hb2.block _ (by omega)).trans hh1
  rw [hs1] at hh2
  have hcx := fun y : After W.heap.size W => SetD.boxed (s := ⟨nm, d, lo, hi, le, ⟨a1, c1, ls⟩, pi, ar, pu, mo, br, ⟨a2, c2, is⟩, ⟨a3, c3, bs⟩⟩) hh1' (by omega) y
  have hcy := fun y : After W.heap.size W => SetD.boxed (s := ⟨nm, d, lo, hi, le, ⟨a1', c1', ls⟩, pi, ar, pu, mo, br, ⟨a2', c2', is⟩, ⟨a3', c3', bs⟩⟩) hh2 (by omega) y
  simp only at hcx hcy
  have hc0 := And.intro (hcx (After.refl _ _)) (hcy (After.refl _ _))
  simp only [After.refl] at hc0
  have hbd : ∀ y : After W.heap.size W, Below w.heap.size w y.val := fun y => hb.trans (y.below.mono (by omega))
  have hxW := hx.to (hb.mono hB) (show B ≤ W.heap.size by omega)
  have hyW := hy.to (hb.mono hB) (show B ≤ W.heap.size by omega)
  have K1 := hide (fun y : After W.heap.size W => Gives.after (x := y) (Nat.le_refl _) (eqInts_any a1 a1' c1 c1' ls y.val W.heap.size y.size (hxW.lines.to y.below (Nat.le_refl _)) (hyW.lines.to y.below (Nat.le_refl _))))
  have K2 := hide (fun y : After W.heap.size W => Gives.after (x := y) (Nat.le_refl _) (eqItems_any a2 a2' c2 c2' is y.val W.heap.size y.size (hxW.items.to y.below (Nat.le_refl _)) (hyW.items.to y.below (Nat.le_refl _))))
  have K3 := hide (fun y : After W.heap.size W => Gives.after (x := y) (Nat.le_refl _) (eqBricks_any a3 a3' c3 c3' bs y.val W.heap.size y.size (hxW.bricks.to y.below (Nat.le_refl _)) (hyW.bricks.to y.below (Nat.le_refl _))))
  have K0 := hide (Gives.first (eqInts_any a1 a1' c1 c1' ls W W.heap.size (Nat.le_refl _) hxW.lines hyW.lines))
  have HBD := hide hbd
  have HW := hide (show (w.alloc (.cells #[.string nm, .int .i64 d, .int .i64 lo, .int .i64 hi, .int .i64 le, .slice a1 ls.length c1, .int .i64 pi, .int .i64 ar, .int .i64 pu, .int .i64 mo, .int .i64 br, .slice a2 is.length c2, .slice a3 bs.length c3] 63)).alloc (.cells #[.string nm, .int .i64 d, .int .i64 lo, .int .i64 hi, .int .i64 le, .slice a1' ls.length c1', .int .i64 pi, .int .i64 ar, .int .i64 pu, .int .i64 mo, .int .i64 br, .slice a2' is.length c2', .slice a3' bs.length c3'] 63) = W by rw [← hW1, ← hW2])
  clear hW1 hW2 hs1 hs2 hb1 hb2 hh1 hh2 hh1' hxW hyW hx hy hbd hb
  go_enter Tryz.func47, Tryz.ntmps47
  go_wp2_with (first
    | (go_at_call 26; rw [HW.out]; refine K0.out.mono ?_; rintro e w' ⟨rfl, y1, rfl⟩; have hcy1 := And.intro (hcx y1) (hcy y1))
    | (go_at_call 89; refine (K2.out y1).mono ?_; rintro e w' ⟨rfl, y2, rfl⟩; have hcy2 := And.intro (hcx y2) (hcy y2))
    | (go_at_call 90; refine (K3.out y2).mono ?_; rintro e w' ⟨rfl, y3, rfl⟩))
  go_ret
  exact Gives.mk rfl (HBD.out _)
theorem enters_sameSet : ∀ args w, (callFunc 47 args).run Tryz.prog w = .ok (.enter 47 args) w := entersOf Tryz.func47 (by kernel_rfl) rfl
set_option maxRecDepth 100000 in
set_option maxHeartbeats 8000000 in
theorem eqSets_any (A A' : Option Addr) (cap cap' : Nat) (l l' : List SetD) (hp : l.map SetD.pl = l'.map SetD.pl) (w : World) (B : Nat) (hB : B ≤ w.heap.size) (hs : SlAt w B 13 SetD.cells ⟨A, cap, l⟩) (hs' : SlAt w B 13 SetD.cells ⟨A', cap', l'⟩) (he1 : ∀ s ∈ l, SetD.at_ w B s) (he2 : ∀ s ∈ l', SetD.at_ w B s) :
    Calls Tryz.prog 46 #[.slice A l.length cap, .slice A' l'.length cap', .func (.func 47) #[] #[]] w (Gives w (.bool true)) := by
  have hl : l.length = l'.length := by have := congrArg List.length hp; simpa using this
  have HS := hide hs
  have HS' := hide hs'
  have HE1 := hide he1
  have HE2 := hide he2
  have HP := hide hp
  have hm : cap ≤ 9223372036854775807 := hs.2.1
  have hlc : l.length ≤ cap := hs.1
  have hm' : cap' ≤ 9223372036854775807 := hs'.2.1
  have hlc' : l'.length ≤ cap' := hs'.1
  have HL := hide hl
  have eg := enters_sameSet
  rw [← hl] at hlc' ⊢
  clear hs hs' he1 he2 hp hl
  go_enter Tryz.func46, Tryz.ntmps46
  go_wp2
  go_loopw [17] (fun v wr => ∃ k : Nat, v = .int .i64 k ∧ k ≤ l.length ∧ ∃ x : After w.heap.size w, wr = x.val) (fun v _ => l.length - (intOf v).toNat)
  case atStart => exact ⟨0, rfl, Nat.zero_le _, After.refl _ _, rfl⟩
  case round =>
    obtain ⟨k, rfl, hk, x, rfl⟩ := hrel
    by_cases hlt : k < l.length
    · have hlt' : k < l'.length := by rw [← HL.out]; exact hlt
      obtain ⟨b, off, hA, hb, hcell⟩ := HS.out.2.2 (show 0 < l.length by omega)
      obtain ⟨b', off', hA', hb', hcell'⟩ := HS'.out.2.2 (show 0 < l'.length by omega)
      simp only at hA hA'
      subst hA
      subst hA'
      obtain ⟨s, hx⟩ : ∃ s, l[k]? = some s := ⟨l[k], List.getElem?_eq_getElem hlt⟩
      obtain ⟨s', hx'⟩ : ∃ s, l'[k]? = some s := ⟨l'[k], List.getElem?_eq_getElem hlt'⟩
      have hpl : s.pl = s'.pl := by
        have h1 := congrArg (fun (m : List SetP) => m[k]?) HP.out
        simp only [List.getElem?_map, hx, hx', Option.map_some, Option.some.injEq] at h1
        exact h1
      have ha1 := HE1.out s (List.mem_of_getElem? hx)
      have ha2 := HE2.out s' (List.mem_of_getElem? hx')
      have he := fun x : After w.heap.size w => SetD.elem hx (show b < w.heap.size by omega) hcell x
      have he' := fun x : After w.heap.size w => SetD.elem hx' (show b' < w.heap.size by omega) hcell' x
      obtain ⟨W1, hW1, hs1, hb1, hh1⟩ := boxed x.val (.cells #[.string s.name, .int .i64 s.depth, .int .i64 s.low, .int .i64 s.high, .int .i64 s.length, .slice s.lines.A s.lines.l.length s.lines.cap, .int .i64 s.pipe, .int .i64 s.arbor, .int .i64 s.purchase, .int .i64 s.most, .int .i64 s.brake, .slice s.items.A s.items.l.length s.items.cap, .slice s.bricks.A s.bricks.l.length s.bricks.cap] 63)
      obtain ⟨W, hW2, hs2, hb2, hh2⟩ := boxed W1 (.cells #[.string s'.name, .int .i64 s'.depth, .int .i64 s'.low, .int .i64 s'.high, .int .i64 s'.length, .slice s'.lines.A s'.lines.l.length s'.lines.cap, .int .i64 s'.pipe, .int .i64 s'.arbor, .int .i64 s'.purchase, .int .i64 s'.most, .int .i64 s'.brake, .slice s'.items.A s'.items.l.length s'.items.cap, .slice s'.bricks.A s'.bricks.l.length s'.bricks.cap] 63)
      have hh1' := (hb2.block _ (by omega)).trans hh1
      rw [hs1] at hh2
      have hbW : Below w.heap.size w W := x.below.trans ((hb1.mono x.size).trans (hb2.mono (by have := x.size; omega)))
      have heW := he' ⟨W1, x.below.trans (hb1.mono x.size)⟩
      simp only at heW
      have hcx := SetD.boxed (B := W.heap.size) hh1' (by omega) (After.refl _ _)
      have hcx1 := SetD.boxed (B := W1.heap.size) hh1 (by omega) (After.refl _ _)
      have hcy := SetD.boxed (B := W.heap.size) hh2 (by omega) (After.refl _ _)
      simp only [After.refl] at hcx hcy hcx1
      have HW1 := hide hW1
      have HW2 := hide hW2
      have KS := hide (Gives.first (sameSet_any s s' hpl W W.heap.size (Nat.le_refl _) (ha1.to (hbW.mono hB) (Nat.le_trans hB hbW.size)) (ha2.to (hbW.mono hB) (Nat.le_trans hB hbW.size))))
      have HBW := hide hbW
      have hin : (k : Int) < (l.length : Int) := by omega
      have hi0 : (0 : Int) ≤ (k : Int) := by omega
      clear hcell hcell' hx hx' hW1 hW2 hh1 hh2 hh1' hb1 hb2 hbW ha1 ha2 hpl
      go_upto_region 6 with fail
      rw [← HW1.out]
      go_upto_region 7 with fail
      rw [← hs1, ← HW2.out]
      go_wp2_with (go_at_call 47; refine KS.out.mono ?_; rintro e w' ⟨rfl, y, rfl⟩)
      exact ⟨⟨k + 1, by go_num, by omega, ⟨_, HBW.out.trans (y.below.mono HBW.out.size)⟩, rfl⟩, by simp [intOf]; omega⟩
    · go_wp2
      go_ret
      exact Gives.mk rfl x.below
set_option maxRecDepth 100000 in
set_option maxHeartbeats 8000000 in
theorem sameHouse_any (h h' : HouseD) (hp : h.pl = h'.pl) (w : World) (B : Nat) (hB : B ≤ w.heap.size) (hx : HouseD.at_ w B h) (hy : HouseD.at_ w B h') :
    Calls Tryz.prog 18 #[.agg #[.string h.name, .int .i64 h.height, .slice h.sets.A h.sets.l.length h.sets.cap, .slice h.roofs.A h.roofs.l.length h.roofs.cap], .agg #[.string h'.name, .int .i64 h'.height, .slice h'.sets.A h'.sets.l.length h'.sets.cap, .slice h'.roofs.A h'.roofs.l.length h'.roofs.cap]] w (Gives w (.bool true)) := by
  obtain ⟨nm, ht, ⟨sA, sc, sl⟩, ⟨rA, rc, rl⟩⟩ := h
  obtain ⟨nm', ht', ⟨sA', sc', sl'⟩, ⟨rA', rc', rl'⟩⟩ := h'
  simp only [HouseD.pl, HouseP.mk.injEq] at hp
  obtain ⟨rfl, rfl, hsl, rfl⟩ := hp
  simp only
  obtain ⟨W1, hW1, hs1, hb1, hh1⟩ := boxed w (.cells #[.string nm, .int .i64 ht, .slice sA sl.length sc, .slice rA rl.length rc] 25)
  obtain ⟨W, hW2, hs2, hb2, hh2⟩ := boxed W1 (.cells #[.string nm, .int .i64 ht, .slice sA' sl'.length sc', .slice rA' rl.length rc'] 25)
  have hb : Below w.heap.size w W := hb1.trans (hb2.mono (by omega))
  have hh1' := (hb2.block _ (by omega)).trans hh1
  rw [hs1] at hh2
  have hcx := fun y : After W.heap.size W => HouseD.boxed (h := ⟨nm, ht, ⟨sA, sc, sl⟩, ⟨rA, rc, rl⟩⟩) hh1' (by omega) y
  have hcy := fun y : After W.heap.size W => HouseD.boxed (h := ⟨nm, ht, ⟨sA', sc', sl'⟩, ⟨rA', rc', rl⟩⟩) hh2 (by omega) y
  simp only at hcx hcy
  have hc0 := And.intro (hcx (After.refl _ _)) (hcy (After.refl _ _))
  simp only [After.refl] at hc0
  have hbd : ∀ y : After W.heap.size W, Below w.heap.size w y.val := fun y => hb.trans (y.below.mono (by omega))
  have hxW := hx.to (hb.mono hB) (show B ≤ W.heap.size by omega)
  have hyW := hy.to (hb.mono hB) (show B ≤ W.heap.size by omega)
  have K0 := hide (Gives.first (eqRoofs_any rA rA' rc rc' rl W W.heap.size (Nat.le_refl _) hxW.roofs hyW.roofs))
  have K1 := hide (fun y : After W.heap.size W => Gives.after (x := y) (Nat.le_refl _) (eqSets_any sA sA' sc sc' sl sl' hsl y.val W.heap.size y.size (hxW.sets.to y.below (Nat.le_refl _)) (hyW.sets.to y.below (Nat.le_refl _)) (fun s hs => (hxW.each s hs).to y.below (Nat.le_refl _)) (fun s hs => (hyW.each s hs).to y.below (Nat.le_refl _))))
  have HBD := hide hbd
  have HW := hide (show (w.alloc (.cells #[.string nm, .int .i64 ht, .slice sA sl.length sc, .slice rA rl.length rc] 25)).alloc (.cells #[.string nm, .int .i64 ht, .slice sA' sl'.length sc', .slice rA' rl.length rc'] 25) = W by rw [← hW1, ← hW2])
  clear hW1 hW2 hs1 hs2 hb1 hb2 hh1 hh2 hh1' hxW hyW hx hy hbd hb hsl
  go_enter Tryz.func18, Tryz.ntmps18
  go_wp2_with (first
    | (go_at_call 45; rw [HW.out]; refine K0.out.mono ?_; rintro e w' ⟨rfl, y1, rfl⟩; have hcy1 := And.intro (hcx y1) (hcy y1))
    | (go_at_call 46; refine (K1.out y1).mono ?_; rintro e w' ⟨rfl, y2, rfl⟩))
  go_ret
  exact Gives.mk rfl (HBD.out _)
end Go.Proofs.YtnjbfhfjdhfdlaaGreatDoor
namespace Go.Proofs.YtnjbfhfjdhfdlaaGreatDoor
open Go Go.RowKit Go.Lib

def aw1 : ByteArray := ⟨#[104, 111, 117, 115, 101, 32, 104, 32, 56, 48, 48, 48, 10]⟩
def aw2 : ByteArray := ⟨#[104, 111, 117, 115, 101, 32, 104, 32, 56, 48, 48, 48, 10, 115, 101, 116, 32, 115, 32, 48, 32, 48, 32, 56, 48, 48, 48, 32, 49, 48, 48, 48, 32, 53, 32, 57, 32, 49, 32, 49, 48, 48, 32, 49, 48, 10]⟩
def aw3 : ByteArray := ⟨#[104, 111, 117, 115, 101, 32, 104, 32, 56, 48, 48, 48, 10, 115, 101, 116, 32, 115, 32, 48, 32, 48, 32, 56, 48, 48, 48, 32, 49, 48, 48, 48, 32, 53, 32, 57, 32, 49, 32, 49, 48, 48, 32, 49, 48, 32, 48, 32, 49, 48, 48, 48, 10]⟩
set_option maxRecDepth 100000 in
theorem aw_1 : srcE (toks (bs aw1)) = ((⟨⟨#[104]⟩, 8000, [], []⟩, ⟨[], []⟩), (0, 0), 0) := by kernel_rfl
set_option maxRecDepth 100000 in
theorem aw_2 : srcE (toks (bs aw2)) = ((zeroH, zeroS), (2, 33), 7) := by kernel_rfl
set_option maxRecDepth 100000 in
theorem aw_3 : srcE (toks (bs aw3)) = ((⟨⟨#[104]⟩, 8000, [⟨⟨#[115]⟩, 0, 0, 8000, 1000, [0, 1000], 5, 9, 1, 100, 10, [], []⟩], []⟩, ⟨[], []⟩), (0, 0), 0) := by kernel_rfl
theorem three_boxed (w : World) (o1 o2 o3 : Obj) : ∃ V : World, V = ((w.alloc o1).alloc o2).alloc o3 ∧ V.heap.size = w.heap.size + 3 ∧ Below w.heap.size w V ∧ V.heap[w.heap.size]? = some o1 ∧ V.heap[w.heap.size + 1]? = some o2 ∧ V.heap[w.heap.size + 1 + 1]? = some o3 := by
  obtain ⟨V1, hV1, hs1, hb1, hh1⟩ := boxed w o1
  obtain ⟨V2, hV2, hs2, hb2, hh2⟩ := boxed V1 o2
  obtain ⟨V3, hV3, hs3, hb3, hh3⟩ := boxed V2 o3
  rw [hs1] at hs2 hb2 hh2
  rw [hs2] at hs3 hb3 hh3
  exact ⟨V3, by rw [hV3, hV2, hV1], by omega, (hb1.trans (hb2.mono (by omega))).trans (hb3.mono (by omega)), (hb3.block _ (by omega)).trans ((hb2.block _ (by omega)).trans hh1), (hb3.block _ (by omega)).trans hh2, hh3⟩
set_option maxRecDepth 100000 in
set_option maxHeartbeats 8000000 in
theorem awake31_any (w : World) (ht : TabsS w) : Calls Tryz.prog 8 #[] w (Gives w (.bool true)) := by
  have P1 := parse_any aw1 (by decide) w ht
  rw [aw_1] at P1
  have HT := hide ht
  have HP1 := hide P1
  clear P1 ht
  have qPos : ∀ w : World, (binOp .eql 40 (.agg #[.int .i64 2, .int .i64 33]) (.agg #[.int .i64 2, .int .i64 33])).run Tryz.prog w = .ok (.bool true) w := fun w => by kernel_rfl
  go_enter Tryz.func8, Tryz.ntmps8
  go_wp2_with fail
  refine HP1.out.mono ?_
  rintro e w1 ⟨hb1, ⟨n1, t1, ⟨A1, c1, l1⟩, ⟨R1, rc1, r1⟩⟩, s1, rfl, -, -, hp1, -, -⟩
  simp only [HouseD.pl, HouseP.mk.injEq] at hp1
  obtain ⟨rfl, rfl, -, -⟩ := hp1
  obtain ⟨V1, hV1, hs1, hv1, hh1, -, -⟩ := three_boxed w1 (.cells #[.string ⟨#[104]⟩, .int .i64 8000, .slice A1 l1.length c1, .slice R1 r1.length rc1] 25 (0, 0)) (.cells #[.slice s1.cues.A s1.cues.l.length s1.cues.cap, .slice s1.apart.A s1.apart.l.length s1.apart.cap] 29 (0, 0)) (.cells #[.int .i64 0, .int .i64 0] 40 (0, 0))
  have hbV1 : Below w.heap.size w V1 := hb1.trans (hv1.mono hb1.size)
  have P2 := parse_any aw2 (by decide) V1 (HT.out.below hbV1)
  rw [aw_2] at P2
  have HP2 := hide P2
  have HV1 := hide hV1
  clear P2 hV1 HP1
  go_wp2_with fail
  rw [← HV1.out]
  refine HP2.out.mono ?_
  rintro e w2 ⟨hb2, ⟨n2, t2, ⟨A2, c2, l2⟩, ⟨R2, rc2, r2⟩⟩, s2, rfl, -, -, -, -, -⟩
  obtain ⟨V2, hV2, hs2, hv2, hh2, -, hh3⟩ := three_boxed w2 (.cells #[.string n2, .int .i64 t2, .slice A2 l2.length c2, .slice R2 r2.length rc2] 25 (0, 0)) (.cells #[.slice s2.cues.A s2.cues.l.length s2.cues.cap, .slice s2.apart.A s2.apart.l.length s2.apart.cap] 29 (0, 0)) (.cells #[.int .i64 2, .int .i64 33] 40 (0, 0))
  have hbV2 : Below V1.heap.size V1 V2 := hb2.trans (hv2.mono hb2.size)
  have hbwV2 : Below w.heap.size w V2 := hbV1.trans (hbV2.mono hbV1.size)
  have P3 := parse_any aw3 (by decide) V2 (HT.out.below hbwV2)
  rw [aw_3] at P3
  have HP3 := hide P3
  have HV2 := hide hV2
  clear P3 hV2 HP2
  go_wp2_with fail
  rw [← HV2.out]
  refine HP3.out.mono ?_
  rintro e w3 ⟨hb3, ⟨n3, t3, ⟨A3, c3, l3⟩, ⟨R3, rc3, r3⟩⟩, s3, rfl, hat, -, hp3, -, -⟩
  simp only [HouseD.pl, HouseP.mk.injEq] at hp3
  obtain ⟨-, -, hp4, -⟩ := hp3
  obtain ⟨x3, rfl, hx3⟩ : ∃ x, l3 = [x] ∧ x.pl = ⟨⟨#[115]⟩, 0, 0, 8000, 1000, [0, 1000], 5, 9, 1, 100, 10, [], []⟩ := by
    match l3, hp4 with
    | [x], h => exact ⟨x, rfl, by simpa using h⟩
    | [], h => simp at h
    | _ :: _ :: _, h => simp at h
  have hln : x3.lines.l = [0, 1000] := congrArg SetP.lines hx3
  obtain ⟨xb, xo, hA, hxb, hcell⟩ := hat.sets.2.2 (by simp)
  simp only at hA
  subst hA
  have hatx := hat.each x3 (by simp)
  obtain ⟨V3, hV3, hs3, hv3, hh4, -, -⟩ := three_boxed w3 (.cells #[.string n3, .int .i64 t3, .slice (some ⟨xb, xo, none⟩) 1 c3, .slice R3 r3.length rc3] 25 (0, 0)) (.cells #[.slice s3.cues.A s3.cues.l.length s3.cues.cap, .slice s3.apart.A s3.apart.l.length s3.apart.cap] 29 (0, 0)) (.cells #[.int .i64 0, .int .i64 0] 40 (0, 0))
  have hbV3 : Below V2.heap.size V2 V3 := hb3.trans (hv3.mono hb3.size)
  have z1 := hb1.size
  have z2 := hb2.size
  have z3 := hb3.size
  have g1 : V3.heap[w1.heap.size]? = _ := (hbV3.block w1.heap.size (by omega)).trans ((hbV2.block w1.heap.size (by omega)).trans hh1)
  have g2 : V3.heap[w2.heap.size + 1 + 1]? = _ := (hbV3.block (w2.heap.size + 1 + 1) (by omega)).trans hh3
  obtain ⟨xn, xd, xl, xh, xle, ⟨lA, lc, ll⟩, xp, xar, xpu, xm, xbr, xi, xbk⟩ := x3
  simp only at hln
  subst hln
  have c5 : V3.cell? ⟨xb, xo + 5, none⟩ = some (.slice lA 2 lc) := by
    have h := hcell 0 _ rfl 5 _ rfl
    refine (World.cell?_of_block (a := ⟨xb, xo + 5, none⟩) (hv3.block xb hxb)).trans ?_
    simpa [SetD.cells] using h
  have c1 : V3.cell? ⟨w1.heap.size, 0, none⟩ = some (.string ⟨#[104]⟩) ∧ V3.cell? ⟨w1.heap.size, 1, none⟩ = some (.int .i64 8000) := ⟨(Joins.cell_of_block g1 0).trans rfl, (Joins.cell_of_block g1 1).trans rfl⟩
  have c2 : V3.cell? ⟨w2.heap.size + 1 + 1, 0, none⟩ = some (.int .i64 2) ∧ V3.cell? ⟨w2.heap.size + 1 + 1, 1, none⟩ = some (.int .i64 33) := ⟨(Joins.cell_of_block g2 0).trans rfl, (Joins.cell_of_block g2 1).trans rfl⟩
  have c3 : V3.cell? ⟨w3.heap.size, 2, none⟩ = some (.slice (some ⟨xb, xo, none⟩) 1 c3) := (Joins.cell_of_block hh4 2).trans rfl
  obtain ⟨V4, hV4, hs4, hv4, hh5⟩ := boxed V3 (.cells #[.int .i64 0, .int .i64 1000] 3)
  have hl1 := (hatx.lines.to hv3 (show w3.heap.size ≤ V3.heap.size by omega)).to hv4 (show V3.heap.size ≤ V4.heap.size by omega)
  have KE := hide (Gives.first (eqInts_any lA (some ⟨V3.heap.size, 0, none⟩) lc 2 [0, 1000] V4 V4.heap.size (Nat.le_refl _) hl1 (ints_at [0, 1000] (by simp) hh5)))
  rw [hs3] at KE
  have hbV4 : Below w.heap.size w V4 := hbwV2.trans (hbV3.mono hbwV2.size) |>.trans (hv4.mono (by have := hbwV2.size; omega))
  have HB4 := hide hbV4
  have HV3 := hide hV3
  have HV4 := hide hV4
  clear hx3 hp4 hV3 hV4 hh1 hh2 hh3 hh4 hh5 g1 g2 hcell hat hatx hl1 hbV4 HP3
  simp only
  go_upto_region 4 with fail
  rw [← HV3.out]
  go_wp2_with (go_at_call 26; rw [← HV4.out]; refine KE.out.mono ?_; rintro e w' ⟨rfl, y, rfl⟩)
  go_ret
  exact Gives.mk rfl (HB4.out.trans (y.below.mono HB4.out.size))
end Go.Proofs.YtnjbfhfjdhfdlaaGreatDoor
namespace Go.Proofs.YtnjbfhfjdhfdlaaGreatDoor
open Go.RowKit

theorem eqStr (d : Nat) (a : ByteArray) (w : World) : (Op.equalIn (d + 1) 9 (.string a) (.string a)).run Tryz.prog w = .ok true w := by
  simp only [Op.equalIn, Sem.run_bind, run_underlying Tryz.underlying9, Result.andThen_ok]
  have h : (a == a) = true := by
    show (a.data == a.data) = true
    simp
  simp [h]
theorem partPair0 (a b : ByteArray) (w : World) : (part 9 #[.string a, .string b] 0).run Tryz.prog w = .ok (.string a) w := by kernel_rfl
theorem partPair1 (a b : ByteArray) (w : World) : (part 9 #[.string a, .string b] 1).run Tryz.prog w = .ok (.string b) w := by kernel_rfl
theorem eqPair (a b : ByteArray) (w : World) : (Op.equal 83 (.agg #[.string a, .string b]) (.agg #[.string a, .string b])).run Tryz.prog w = .ok true w := by
  have hc : Tryz.prog.cellsOf 9 = 1 := by kernel_rfl
  obtain ⟨i, hi, _⟩ := info_parts (show (Tryz.prog.info? 9).map (fun i => (i.zero, i.size, i.bytes)) = some (some (.string ⟨#[]⟩), 1, 16) by kernel_rfl)
  obtain ⟨n, hn⟩ : ∃ n, Op.maxDepth = n + 1 + 1 := ⟨9998, rfl⟩
  unfold Op.equal
  rw [hn, run_equalIn_array (d := n + 1) (i := i) (hu := Tryz.underlying83) (hi := hi), hc]
  rw [show List.range 2 = [0, 1] from rfl]
  simp [Op.eqItems, partPair0, partPair1, eqStr n]
theorem neqPair (a b : ByteArray) (w : World) : (binOp .neq 83 (.agg #[.string a, .string b]) (.agg #[.string a, .string b])).run Tryz.prog w = .ok (.bool false) w := by
  simp [binOp, go_sem, eqPair]
theorem two_new (x : World) (o o' : Obj) : (((x.alloc o).alloc o').drew).heap[x.heap.size]? = some o ∧ (((x.alloc o).alloc o').drew).heap[x.heap.size + 1]? = some o' := by
  have e : (x.alloc o).heap.size = x.heap.size + 1 := by simp
  exact ⟨(heap_alloc_old (x.alloc o) o' (by omega)).trans (heap_alloc_new x o), by rw [← e]; exact heap_alloc_new (x.alloc o) o'⟩
set_option maxRecDepth 100000 in
set_option maxHeartbeats 8000000 in
theorem sameSheet_any (s s' : SheetD) (hp : s.pl = s'.pl) (w : World) (B : Nat) (hB : B ≤ w.heap.size) (hx : SheetD.at_ w B s) (hy : SheetD.at_ w B s') :
    Calls Tryz.prog 19 #[.agg #[.slice s.cues.A s.cues.l.length s.cues.cap, .slice s.apart.A s.apart.l.length s.apart.cap], .agg #[.slice s'.cues.A s'.cues.l.length s'.cues.cap, .slice s'.apart.A s'.apart.l.length s'.apart.cap]] w (Gives w (.bool true)) := by
  obtain ⟨⟨cA, cc, cl⟩, ⟨pA, pc, pl⟩⟩ := s
  obtain ⟨⟨cA', cc', cl'⟩, ⟨pA', pc', pl'⟩⟩ := s'
  simp only [SheetD.pl, SheetP.mk.injEq] at hp
  obtain ⟨hcl, rfl⟩ := hp
  simp only
  have hl : cl'.length = cl.length := by have := congrArg List.length hcl; simpa using this.symm
  obtain ⟨W1, hW1, hs1, hb1, hh1⟩ := boxed w (.cells #[.slice cA cl.length cc, .slice pA pl.length pc] 29)
  obtain ⟨W, hW2, hs2, hb2, hh2⟩ := boxed W1 (.cells #[.slice cA' cl.length cc', .slice pA' pl.length pc'] 29)
  have hb : Below w.heap.size w W := hb1.trans (hb2.mono (by omega))
  have hh1' := (hb2.block _ (by omega)).trans hh1
  rw [hs1] at hh2
  have hcx := fun y : After W.heap.size W => SheetD.boxed (s := ⟨⟨cA, cc, cl⟩, ⟨pA, pc, pl⟩⟩) hh1' (by omega) y
  have hcy := fun y : After W.heap.size W => And.intro (y.cells hh2 (by omega) 0 _ rfl) (y.cells hh2 (by omega) 1 _ rfl)
  simp only at hcx
  have hc0 := And.intro (hcx (After.refl _ _)) (hcy (After.refl _ _))
  simp only [After.refl] at hc0
  have hbd : ∀ y : After W.heap.size W, Below w.heap.size w y.val := fun y => hb.trans (y.below.mono (by omega))
  have HXW := hide (hx.to (hb.mono hB) (show B ≤ W.heap.size by omega))
  have HYW := hide (hy.to (hb.mono hB) (show B ≤ W.heap.size by omega))
  have hm1 : cc ≤ 9223372036854775807 := hx.cues.2.1
  have hm2 : cl.length ≤ cc := hx.cues.1
  have hm3 : cc' ≤ 9223372036854775807 := hy.cues.2.1
  have hm4 : cl'.length ≤ cc' := hy.cues.1
  have hm5 : pc ≤ 9223372036854775807 := hx.apart.2.1
  have hm6 : pl.length ≤ pc := hx.apart.1
  have hm7 : pc' ≤ 9223372036854775807 := hy.apart.2.1
  have hm8 : pl.length ≤ pc' := hy.apart.1
  have HBD := hide hbd
  have HP := hide hcl
  rw [hl] at hm4 ⊢
  have HL := hide hl
  have HW := hide (show (w.alloc (.cells #[.slice cA cl.length cc, .slice pA pl.length pc] 29)).alloc (.cells #[.slice cA' cl.length cc', .slice pA' pl.length pc'] 29) = W by rw [← hW1, ← hW2])
  clear hW1 hW2 hs1 hs2 hb1 hb2 hh1 hh2 hh1' hx hy hbd hb hcl hl
  have qPair := neqPair
  go_enter Tryz.func19, Tryz.ntmps19
  go_upto_region 1 with fail
  rw [HW.out]
  go_wp2_with fail
  go_loopw [5] (fun v wr => ∃ k : Nat, v = .int .i64 k ∧ k ≤ cl.length ∧ ∃ x : After W.heap.size W, wr = x.val) (fun v _ => cl.length - (intOf v).toNat)
  case atStart => exact ⟨0, rfl, Nat.zero_le _, After.refl _ _, rfl⟩
  case round =>
    obtain ⟨k, rfl, hk, x, rfl⟩ := hrel
    have hcxx := And.intro (hcx x) (hcy x)
    by_cases hlt : k < cl.length
    · have hlt' : k < cl'.length := by rw [HL.out]; exact hlt
      obtain ⟨b, off, hA, hb, hcell⟩ := HXW.out.cues.2.2 (show 0 < cl.length by omega)
      obtain ⟨b', off', hA', hb', hcell'⟩ := HYW.out.cues.2.2 (show 0 < cl'.length by omega)
      simp only at hA hA'
      subst hA
      subst hA'
      obtain ⟨q, hq⟩ : ∃ s, cl[k]? = some s := ⟨cl[k], List.getElem?_eq_getElem hlt⟩
      obtain ⟨q', hq'⟩ : ∃ s, cl'[k]? = some s := ⟨cl'[k], List.getElem?_eq_getElem hlt'⟩
      have hpl : q.pl = q'.pl := by
        have h1 := congrArg (fun (m : List CueP) => m[k]?) HP.out
        simp only [List.getElem?_map, hq, hq', Option.map_some, Option.some.injEq] at h1
        exact h1
      have ha1 := HXW.out.each q (List.mem_of_getElem? hq)
      have ha2 := HYW.out.each q' (List.mem_of_getElem? hq')
      have he := fun x : After W.heap.size W => CueD.elem hq hb hcell x
      have he' := fun x : After W.heap.size W => CueD.elem hq' hb' hcell' x
      clear hcell hcell' hq hq'
      obtain ⟨nm, af, lk, dl, ⟨mA, mc, ml⟩, cr, pw⟩ := q
      obtain ⟨nm', af', lk', dl', ⟨mA', mc', ml'⟩, cr', pw'⟩ := q'
      simp only [CueD.pl, CueP.mk.injEq] at hpl
      obtain ⟨rfl, rfl, rfl, rfl, rfl, rfl, rfl⟩ := hpl
      simp only at he he'
      have hin : (k : Int) < (cl.length : Int) := by omega
      have hi0 : (0 : Int) ≤ (k : Int) := by omega
      have hex := And.intro (he x) (he' x)
      have hmc : mc ≤ 9223372036854775807 := ha1.moves.2.1
      have hmlc : ml.length ≤ mc := ha1.moves.1
      have hmc' : mc' ≤ 9223372036854775807 := ha2.moves.2.1
      have hmlc' : ml.length ≤ mc' := ha2.moves.1
      have HA1 := hide ha1
      have HA2 := hide ha2
      clear ha1 ha2
      have A1 : ∀ o : Obj, Below W.heap.size W (x.val.alloc o) := fun o => x.below.alloc x.size o
      have A2 : ∀ o o' : Obj, Below W.heap.size W ((x.val.alloc o).alloc o') := fun o o' => (A1 o).alloc (A1 o).size o'
      have fA := fun o => And.intro (hcx ⟨_, A1 o⟩) (And.intro (hcy ⟨_, A1 o⟩) (And.intro (he ⟨_, A1 o⟩) (he' ⟨_, A1 o⟩)))
      have fAA := fun o o' => And.intro (hcx ⟨_, A2 o o'⟩) (And.intro (hcy ⟨_, A2 o o'⟩) (And.intro (he ⟨_, A2 o o'⟩) (he' ⟨_, A2 o o'⟩)))
      simp only at fA fAA
      go_upto_region 6 with fail
      go_cut [6, 7] (fun a c wx => ∃ g g' : Nat, a = .pointer (some ⟨g, 0, none⟩) ∧ c = .pointer (some ⟨g', 0, none⟩) ∧ wx.heap[g]? = some (.cells #[.string nm, .string af, .int .i64 lk, .int .i64 dl, .slice mA ml.length mc, .int .i64 cr, .int .i64 pw] 80 (0, 0)) ∧ wx.heap[g']? = some (.cells #[.string nm, .string af, .int .i64 lk, .int .i64 dl, .slice mA' ml.length mc', .int .i64 cr, .int .i64 pw] 80 (0, 0)) ∧ Below W.heap.size W wx)
      case first =>
        go_region
        all_goals
          go_wp2_with fail
          go_meet
          first
            | exact ⟨_, _, rfl, rfl, (two_new x.val _ _).1, (two_new x.val _ _).2, (A2 _ _).drew⟩
            | exact ⟨_, _, rfl, rfl, (two_new x.val _ _).2, (two_new x.val _ _).1, (A2 _ _).drew⟩
      case rest =>
        obtain ⟨g, g', rfl, rfl, hg, hg', hbV⟩ := hcut
        have hgs := (Array.getElem?_eq_some_iff.1 hg).1
        have hgs' := (Array.getElem?_eq_some_iff.1 hg').1
        have hcq := fun y : After wc.heap.size wc => CueD.boxed (q := ⟨nm, af, lk, dl, ⟨mA, mc, ml⟩, cr, pw⟩) hg hgs y
        have hcq' := fun y : After wc.heap.size wc => CueD.boxed (q := ⟨nm, af, lk, dl, ⟨mA', mc', ml⟩, cr, pw⟩) hg' hgs' y
        simp only at hcq hcq'
        have hcq0 := And.intro (hcq (After.refl _ _)) (hcq' (After.refl _ _))
        simp only [After.refl] at hcq0
        have HM1 := hide (HA1.out.moves.to hbV hbV.size)
        have HM2 := hide (HA2.out.moves.to hbV hbV.size)
        have HBV := hide hbV
        clear hg hg' hbV fA fAA A1 A2 he he' hex
        go_wp2_with fail
        go_loopw [8] (fun v wr => ∃ j : Nat, v = .int .i64 j ∧ j ≤ ml.length ∧ ∃ z : After wc.heap.size wc, wr = z.val) (fun v _ => ml.length - (intOf v).toNat)
        case atStart => exact ⟨0, rfl, Nat.zero_le _, After.refl _ _, rfl⟩
        case round =>
          obtain ⟨j, rfl, hj, z, rfl⟩ := hrel
          have hzq := And.intro (hcq z) (hcq' z)
          by_cases hjl : j < ml.length
          · obtain ⟨b1, off1, hA, hb1, hcell⟩ := HM1.out.2.2 (show 0 < ml.length by omega)
            obtain ⟨b2, off2, hA', hb2, hcell'⟩ := HM2.out.2.2 (show 0 < ml.length by omega)
            simp only at hA hA'
            subst hA
            subst hA'
            obtain ⟨m, hm⟩ : ∃ s, ml[j]? = some s := ⟨ml[j], List.getElem?_eq_getElem hjl⟩
            have hme := fun x : After wc.heap.size wc => MoveD.elem hm hb1 hcell x
            have hme' := fun x : After wc.heap.size wc => MoveD.elem hm hb2 hcell' x
            have hjn : (j : Int) < (ml.length : Int) := by omega
            have hj0 : (0 : Int) ≤ (j : Int) := by omega
            clear hcell hcell' hm
            go_wp2_with fail
            refine wp_region_after z (by kernel_rfl) (by kernel_rfl) ?_
            repeat (go_big_quiet_step (fail))
            refine wpQuiet_nil ?_
            intro z2
            go_wp2_with fail
            exact ⟨⟨j + 1, by go_num, by omega, _, rfl⟩, by simp [intOf]; omega⟩
          · go_wp2_with fail
            exact ⟨⟨k + 1, by go_num, by omega, ⟨_, HBV.out.trans (z.below.mono HBV.out.size)⟩, rfl⟩, by simp [intOf]; omega⟩
    · go_wp2_with fail
      go_loopw [9] (fun v wr => ∃ j : Nat, v = .int .i64 j ∧ j ≤ pl.length ∧ ∃ z : After W.heap.size W, wr = z.val) (fun v _ => pl.length - (intOf v).toNat)
      case atStart => exact ⟨0, rfl, Nat.zero_le _, x, rfl⟩
      case round =>
        obtain ⟨j, rfl, hj, z, rfl⟩ := hrel
        have hzq := And.intro (hcx z) (hcy z)
        by_cases hjl : j < pl.length
        · obtain ⟨b1, off1, hA, hb1, hcell⟩ := HXW.out.apart.2.2 (show 0 < pl.length by omega)
          obtain ⟨b2, off2, hA', hb2, hcell'⟩ := HYW.out.apart.2.2 (show 0 < pl.length by omega)
          simp only at hA hA'
          subst hA
          subst hA'
          obtain ⟨m, hm⟩ : ∃ s, pl[j]? = some s := ⟨pl[j], List.getElem?_eq_getElem hjl⟩
          have hme := fun x : After W.heap.size W => pairElem hm hb1 hcell x
          have hme' := fun x : After W.heap.size W => pairElem hm hb2 hcell' x
          have hjn : (j : Int) < (pl.length : Int) := by omega
          have hj0 : (0 : Int) ≤ (j : Int) := by omega
          clear hcell hcell' hm
          go_wp2_with fail
          refine wp_region_after z (by kernel_rfl) (by kernel_rfl) ?_
          repeat (go_big_quiet_step (fail))
          refine wpQuiet_nil ?_
          intro z2
          go_wp2_with fail
          exact ⟨⟨j + 1, by go_num, by omega, _, rfl⟩, by simp [intOf]; omega⟩
        · go_wp2_with fail
          go_ret
          exact Gives.mk rfl (HBD.out _)
end Go.Proofs.YtnjbfhfjdhfdlaaGreatDoor
namespace Go.Proofs.YtnjbfhfjdhfdlaaGreatDoor
open Go Go.RowKit Go.Lib

theorem index_cons (c : UInt8) (l : List UInt8) (h : c ≠ 10) : index (c :: l) [10] = if index l [10] == -1 then -1 else index l [10] + 1 := by
  rw [index_one, index_one, indexByte, if_neg (by simpa using h)]
theorem replK_cons {c : UInt8} (h : c ≠ 10) (new : List UInt8) (k : Nat) (l : List UInt8) : replaceK [10] new k (c :: l) = c :: replaceK [10] new k l := by
  cases k with
  | zero => rfl
  | succ k =>
    by_cases hm : index l [10] = -1
    · have h1 : index (c :: l) [10] = -1 := by rw [index_cons c l h, if_pos (by simpa using hm)]
      rw [replaceK, replaceK, if_pos (by simpa using h1), if_pos (by simpa using hm)]
    · obtain ⟨i, hi⟩ : ∃ i : Nat, index l [10] = i := ⟨(index l [10]).toNat, by have := index_ge l [10]; omega⟩
      have h1 : index (c :: l) [10] = ((i + 1 : Nat) : Int) := by rw [index_cons c l h, if_neg (by simpa using hm), hi]; rfl
      rw [replaceK_hit _ _ _ _ _ h1, replaceK_hit _ _ _ _ _ hi]
      show (c :: l).take (i + 1) ++ new ++ replaceK [10] new k ((c :: l).drop (i + 1 + 1)) = c :: (l.take i ++ new ++ replaceK [10] new k (l.drop (i + 1)))
      rw [List.take_succ_cons, List.drop_succ_cons]
      rfl
theorem replK_line (new : List UInt8) (k : Nat) (l : List UInt8) : replaceK [10] new (k + 1) (10 :: l) = new ++ replaceK [10] new k l := by
  have h1 : index (10 :: l) [10] = ((0 : Nat) : Int) := by rw [index_one, indexByte]; rfl
  rw [replaceK_hit _ _ _ _ _ h1]
  rfl
theorem replK_all (cm : List UInt8) : ∀ l : List UInt8, replaceK [10] (sepL cm) (l.count 10) l = replL cm l
  | [] => rfl
  | c :: l => by
    by_cases h : c = 10
    · subst h
      rw [List.count_cons_self, replK_line, replK_all cm l, replL, if_pos rfl]
    · rw [List.count_cons_of_ne h, replK_cons h, replK_all cm l, replL, if_neg h]
theorem replaceAll_repl (cm l : List UInt8) : replaceAll l [10] (sepL cm) = replL cm l := by
  have h1 : ¬ (([10] : List UInt8) == sepL cm) = true := by simp [sepL]
  have h2 : replaceNum l [10] (-1) = l.count 10 := by rw [replaceNum, if_pos (Or.inl (by decide)), count_one]
  rw [replaceAll, replace, if_neg h1, h2, replK_all]
theorem replL_len (cm : List UInt8) : ∀ l : List UInt8, (replL cm l).length ≤ l.length * (cm.length + 11)
  | [] => by simp [replL]
  | c :: l => by
    have h := replL_len cm l
    rw [replL]
    split
    · simp only [sepL, List.length_append, List.length_cons, List.length_nil, Nat.add_mul] at h ⊢
      omega
    · simp only [List.length_cons, Nat.add_mul] at h ⊢
      omega
theorem no_newline {l : List UInt8} : ¬ 0 ≤ indexByte l 10 → ∀ c ∈ l, c ≠ 10 := by
  induction l with
  | nil => intro _ c hc; cases hc
  | cons b l ih =>
    intro h c hc
    rw [indexByte] at h
    by_cases hb : b = 10
    · rw [if_pos (by simpa using hb)] at h; exact absurd (Int.le_refl 0) h
    · rw [if_neg (by simpa using hb)] at h
      rcases List.mem_cons.1 hc with rfl | hc
      · exact hb
      · refine ih (fun h0 => h ?_) c hc
        rw [if_neg (by simp; omega)]
        omega
theorem srcE_blanks {cm l : List UInt8} (hcm : ∀ c ∈ cm, c ≠ 10) : (srcE (toks l)).1 = (srcE (toks (wideL cm l))).1 ∧ (srcE (toks l)).2.2 = (srcE (toks (wideL cm l))).2.2 := by
  rcases blanks_same (l := l) hcm with ⟨a, b, a', b', h1, h2⟩ | ⟨L, L', h1, h2, h3⟩
  · rw [h1, h2]; exact ⟨rfl, rfl⟩
  · rw [h1, h2]
    simp only [srcE]
    cases hx : readR L with
    | error q =>
      cases hy : readR L' with
      | error q' => exact ⟨rfl, rfl⟩
      | ok v => rw [hx, hy] at h3; exact h3.elim
    | ok v =>
      cases hy : readR L' with
      | error q' => rw [hx, hy] at h3; exact h3.elim
      | ok v' =>
        obtain ⟨a, r⟩ := v
        obtain ⟨a', r'⟩ := v'
        rw [hx, hy] at h3
        obtain ⟨rfl, _⟩ := h3
        exact ⟨rfl, rfl⟩
end Go.Proofs.YtnjbfhfjdhfdlaaGreatDoor
