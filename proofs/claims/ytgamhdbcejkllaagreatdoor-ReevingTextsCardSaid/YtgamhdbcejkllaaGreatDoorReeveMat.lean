/- The matrix of the pulls in memory, and reeving.Matrix. -/
import Derived.Test.YtgamhdbcejkllaaGreatDoorReeveSmall
import Derived.Deep.OwnRows
import Derived.Lib.UnsafeStr
import Derived.Deep.DrawnRows
namespace Go.Proofs.YtgamhdbcejkllaaGreatDoor
open Go.RowKit

/-- the outer slice lies in block n0, its rows in the blocks behind it; row r holds f r c at c -/
structure MatAt (n0 R C : Nat) (f : Nat → Nat → Int) (w : World) : Prop where
  outer : w.rowIs n0 45 R (fun r => .slice (some ⟨n0 + 1 + r, 0, none⟩) C C)
  inner : ∀ r, r < R → w.rowIs (n0 + 1 + r) 3 C (fun c => .int .i64 (f r c))
  size : n0 + 1 + R ≤ w.heap.size
section
variable {n0 R C : Nat} {f g : Nat → Nat → Int} {w w' : World}
theorem MatAt.below (h : MatAt n0 R C f w) (hb : Below (n0 + 1 + R) w w') : MatAt n0 R C f w' :=
  ⟨h.outer.of_block (hb.block _ (by omega)), fun r hr => (h.inner r hr).of_block (hb.block _ (by omega)), Nat.le_trans h.size hb.size⟩
theorem MatAt.congr (h : MatAt n0 R C f w) (e : ∀ r c, r < R → c < C → f r c = g r c) : MatAt n0 R C g w :=
  ⟨h.outer, fun r hr => (h.inner r hr).congr fun c hc => by rw [e r c hr hc], h.size⟩
theorem MatAt.set (h : MatAt n0 R C f w) {r : Nat} (c : Nat) (hr : r < R) (v : Int) : MatAt n0 R C (fun i j => if i = r ∧ j = c then v else f i j) (w.setCell ⟨n0 + 1 + r, c, none⟩ (.int .i64 v)) := by
  refine ⟨h.outer.setOther (by simp only; omega) _, fun i hi => ?_, by simpa [World.setCell] using h.size⟩
  by_cases e : i = r
  · subst e
    refine ((h.inner i hi).set c _).congr fun j _ => ?_
    by_cases e : j = c <;> simp [e]
  · refine ((h.inner i hi).setOther (by simp only; omega) _).congr fun j _ => ?_
    simp [e]
theorem MatAt.outerCell (h : MatAt n0 R C f w) {r : Nat} (hr : r < R) : w.cell? ⟨n0, r, none⟩ = some (.slice (some ⟨n0 + 1 + r, 0, none⟩) C C) := h.outer.cell hr
theorem MatAt.cell (h : MatAt n0 R C f w) {r c : Nat} (hr : r < R) (hc : c < C) : w.cell? ⟨n0 + 1 + r, c, none⟩ = some (.int .i64 (f r c)) := (h.inner r hr).cell hc
theorem MatAt.frozen (h : MatAt n0 R C f w) {r : Nat} (hr : r < R) (c : Nat) : w.frozen? ⟨n0 + 1 + r, c, none⟩ = false := (h.inner r hr).frozen c
end
/-- while the rows are made: k of them lie behind the outer slice -/
structure Making (n0 R C k : Nat) (w : World) : Prop where
  outer : w.rowIs n0 45 R (fun r => if r < k then .slice (some ⟨n0 + 1 + r, 0, none⟩) C C else .slice none 0 0)
  inner : ∀ r, r < k → w.rowIs (n0 + 1 + r) 3 C (fun _ => .int .i64 0)
  size : w.heap.size = n0 + 1 + k
section
variable {n0 R C k : Nat} {w : World}
theorem Making.start (w : World) (R C : Nat) : Making w.heap.size R C 0 (w.alloc (.cells (madeCells #[.slice none 0 0] R) 45)) :=
  ⟨(World.rowIs_made w _ R _).congr fun r _ => by simp, fun r hr => absurd hr (by omega), by simp⟩
theorem Making.next (h : Making n0 R C k w) : Making n0 R C (k + 1) ((w.setCell ⟨n0, k, none⟩ (.slice (some ⟨w.heap.size, 0, none⟩) C C)).alloc (.cells (madeCells #[.int .i64 0] C) 3)) := by
  have hz := h.size
  refine ⟨((h.outer.set k _).alloc _).congr fun r _ => ?_, fun r hr => ?_, by simp [World.setCell, hz]; omega⟩
  · by_cases e : r = k
    · subst e; simp [hz]
    · by_cases e' : r < k
      · simp [e, e', Nat.lt_succ_of_lt e']
      · simp [e, e', show ¬ r < k + 1 by omega]
  · by_cases e : r = k
    · subst e
      have := World.rowIs_made (w.setCell ⟨n0, r, none⟩ (.slice (some ⟨w.heap.size, 0, none⟩) C C)) (.int .i64 0) C 3
      rwa [show (w.setCell ⟨n0, r, none⟩ (.slice (some ⟨w.heap.size, 0, none⟩) C C)).heap.size = n0 + 1 + r by simp [World.setCell, hz]] at this
    · exact ((h.inner r (by omega)).setOther (by simp only; omega) _).alloc _
theorem Making.done (h : Making n0 R C R w) : MatAt n0 R C (fun _ _ => 0) w :=
  ⟨h.outer.congr fun r hr => by simp [hr], h.inner, by have := h.size; omega⟩
end
theorem infoRowsI : (Tryz.prog.info? 45).map (fun i => (i.zero, i.size, i.bytes)) = some (some (.slice none 0 0), 1, 24) := by kernel_rfl
theorem infoInts : (Tryz.prog.info? 3).map (fun i => (i.zero, i.size, i.bytes)) = some (some (.int .i64 0), 1, 8) := by kernel_rfl

/-- the pulls of the holds at the block of place i -/
def pullIdx (bl : List BlockD) (i : Nat) (hs : List HoldD) : Int := (hs.map fun h => if findB bl h.block = (i : Int) then h.pulls else 0).sum
theorem pullIdx_next {bl : List BlockD} {i j : Nat} {hs : List HoldD} {h : HoldD} (hj : hs[j]? = some h) : pullIdx bl i (hs.take (j + 1)) = pullIdx bl i (hs.take j) + (if findB bl h.block = (i : Int) then h.pulls else 0) := by
  rw [pullIdx, pullIdx, List.take_add_one, hj]; simp
def smallPulls (hs : List HoldD) : Prop := ∀ h ∈ hs, -2 ≤ h.pulls ∧ h.pulls ≤ 2
theorem pullIdx_bound (bl : List BlockD) (i : Nat) : ∀ (hs : List HoldD), smallPulls hs → -(2 * (hs.length : Int)) ≤ pullIdx bl i hs ∧ pullIdx bl i hs ≤ 2 * (hs.length : Int)
  | [], _ => by simp [pullIdx]
  | h :: hs, hp => by
    have h1 := pullIdx_bound bl i hs (fun x hx => hp x (by simp [hx]))
    have h2 := hp h (by simp)
    have e : pullIdx bl i (h :: hs) = (if findB bl h.block = (i : Int) then h.pulls else 0) + pullIdx bl i hs := by simp [pullIdx]
    rw [e]
    simp only [List.length_cons]
    split <;> omega
/-- the matrix while the walk has done k ropes whole and j holds of the next -/
def matF (bl : List BlockD) (rl : List RopeD) (i c : Nat) : Int := match rl[c]? with | some r => pullIdx bl i r.holds.l | none => 0
def matG (bl : List BlockD) (rl : List RopeD) (k : Nat) (i c : Nat) : Int := if c < k then matF bl rl i c else 0
theorem pullOk_small {bl : List BlockD} {h : HoldD} {e : Bool} (hp : pullOk bl h e = true) : -2 ≤ h.pulls ∧ h.pulls ≤ 2 := by
  unfold pullOk at hp
  split at hp
  · simp at hp; omega
  · split at hp
    · cases hp
    · split at hp
      · simp at hp; omega
      · simp at hp; omega
theorem sysOk_parts {s : SysD} (h : sysOk s = true) : (1 ≤ s.blocks.l.length ∧ s.blocks.l.length ≤ 6 ∧ 1 ≤ s.ropes.l.length ∧ s.ropes.l.length ≤ 6) ∧ (∀ j y, s.blocks.l[j]? = some y → blockAt s.blocks.l j y = true) ∧ (∀ j y, s.ropes.l[j]? = some y → ropeAt s.blocks.l s.ropes.l j y = true) := by
  rw [sysOk, Bool.and_eq_true, Bool.and_eq_true, Bool.and_eq_true, sysHead_iff, betweenB_iff, betweenB_iff] at h
  exact ⟨by omega, allIdx_iff.1 h.1.1.2, allIdx_iff.1 h.1.2⟩
theorem ropeOk_of {s : SysD} (h : sysOk s = true) {r : RopeD} (hr : r ∈ s.ropes.l) : ropeOk s.blocks.l r = true := by
  obtain ⟨j, hj, e⟩ := List.getElem_of_mem hr
  have := (sysOk_parts h).2.2 j r (by rw [List.getElem?_eq_getElem hj, e])
  rw [ropeAt, Bool.and_eq_true] at this
  exact this.2
theorem ropeOk_parts {bl : List BlockD} {r : RopeD} (h : ropeOk bl r = true) : 2 ≤ r.holds.l.length ∧ r.holds.l.length ≤ 10 ∧ ∀ j y, r.holds.l[j]? = some y → holdOk bl y (isEnd r.holds.l.length j) = true := by
  rw [ropeOk, Bool.and_eq_true, Bool.and_eq_true, betweenB_iff] at h
  exact ⟨by omega, by omega, allIdx_iff.1 h.1.2⟩
theorem small_of_rope {bl : List BlockD} {r : RopeD} (h : ropeOk bl r = true) : smallPulls r.holds.l := fun x hx => by
  obtain ⟨j, hj, e⟩ := List.getElem_of_mem hx
  have := (ropeOk_parts h).2.2 j x (by rw [List.getElem?_eq_getElem hj, e])
  rw [holdOk, Bool.and_eq_true] at this
  exact pullOk_small this.2
theorem smallPulls_take {hs : List HoldD} (h : smallPulls hs) (j : Nat) : smallPulls (hs.take j) := fun x hx => h x (List.mem_of_mem_take hx)
theorem findB_lt (l : List BlockD) (nm : ByteArray) : -1 ≤ findB l nm ∧ findB l nm < (l.length : Int) := by
  have key : ∀ (l : List BlockD) (i : Nat), -1 ≤ idxFrom (fun b => sameName b.name nm) i l ∧ idxFrom (fun b => sameName b.name nm) i l < ((i + l.length : Nat) : Int) ∨ idxFrom (fun b => sameName b.name nm) i l = -1 := by
    intro l
    induction l with
    | nil => intro i; right; rfl
    | cons x l ih =>
      intro i
      rw [idxFrom]
      cases hx : sameName x.name nm
      · simp only [Bool.false_eq_true, if_false]
        rcases ih (i + 1) with h | h
        · left; simp only [List.length_cons]; omega
        · right; exact h
      · left; simp only [if_true, List.length_cons]; omega
  have := key l 0
  unfold findB idx
  omega

set_option maxRecDepth 100000 in
set_option maxHeartbeats 4000000 in
theorem matrix_bad (s : SysD) (hok : s.ok) (hv : sysOk s = false) (w : World) (B : Nat) (hB : B ≤ w.heap.size) (hat : SysD.at_ w B s) :
    Calls Tryz.prog 12 #[.agg #[.slice s.blocks.A s.blocks.l.length s.blocks.cap, .slice s.ropes.A s.ropes.l.length s.ropes.cap]] w (Gives w (.tuple #[.slice none 0 0, .int .i64 1])) := by
  obtain ⟨W, hW, hWs, hWb, hWh⟩ := boxed w (.cells #[.slice s.blocks.A s.blocks.l.length s.blocks.cap, .slice s.ropes.A s.ropes.l.length s.ropes.cap] 25)
  have hc := fun y : After W.heap.size W => SysD.boxed hWh (by omega) y
  have KV := hide (Gives.first (validS_any s hok W W.heap.size (Nat.le_refl _) (hat.to (hWb.mono hB) (by omega))))
  have HW := hide hW
  have HBD := hide fun y : After W.heap.size W => hWb.trans (y.below.mono (by omega))
  rw [hv] at KV
  clear hW hWs hWh hWb hat
  go_enter Tryz.func12, Tryz.ntmps12
  go_wp2_with (go_at_call 15; rw [← HW.out]; refine KV.out.mono ?_; rintro e w' ⟨rfl, y, rfl⟩)
  go_returns
  exact Gives.mk rfl (HBD.out _)
set_option maxRecDepth 100000 in
set_option maxHeartbeats 8000000 in
theorem matrix_good (s : SysD) (hok : s.ok) (hv : sysOk s = true) (w : World) (B : Nat) (hB : B ≤ w.heap.size) (hat : SysD.at_ w B s) :
    Calls Tryz.prog 12 #[.agg #[.slice s.blocks.A s.blocks.l.length s.blocks.cap, .slice s.ropes.A s.ropes.l.length s.ropes.cap]] w fun e w' => ∃ n0, w.heap.size ≤ n0 ∧ e = .returned (.tuple #[.slice (some ⟨n0, 0, none⟩) s.blocks.l.length s.blocks.l.length, .int .i64 0]) ∧ MatAt n0 s.blocks.l.length s.ropes.l.length (matF s.blocks.l s.ropes.l) w' ∧ Below w.heap.size w w' := by
  obtain ⟨⟨hR1, hR6, hC1, hC6⟩, _, _⟩ := sysOk_parts hv
  obtain ⟨W, hW, hWs, hWb, hWh⟩ := boxed w (.cells #[.slice s.blocks.A s.blocks.l.length s.blocks.cap, .slice s.ropes.A s.ropes.l.length s.ropes.cap] 25)
  have hc := fun y : After W.heap.size W => SysD.boxed hWh (by omega) y
  have hatW : SysD.at_ W W.heap.size s := hat.to (hWb.mono hB) (by omega)
  have KV := hide (Gives.first (validS_any s hok W W.heap.size (Nat.le_refl _) hatW))
  have KF := hide fun (v : World) (hv : Below W.heap.size W v) (nm : ByteArray) => find_any s nm v W.heap.size hv.size (hatW.to hv (Nat.le_refl _))
  have hsm : ∀ r ∈ s.ropes.l, smallPulls r.holds.l ∧ r.holds.l.length ≤ 10 ∧ SlAt W W.heap.size 4 HoldD.cells r.holds := fun r hr => ⟨small_of_rope (ropeOk_of hv hr), (ropeOk_parts (ropeOk_of hv hr)).2.1, hatW.each r hr⟩
  have HSM := hide hsm
  have HFL := hide (findB_lt s.blocks.l)
  have hmk1 := fun v : World => run_make_row' (P := Tryz.prog) 41 45 (.slice none 0 0) 24 Tryz.underlying41 infoRowsI rfl .i64 .i64 s.blocks.l.length (by omega) (by omega) v
  have hmk2 := fun v : World => run_make_row' (P := Tryz.prog) 45 3 (.int .i64 0) 8 Tryz.underlying45 infoInts rfl .i64 .i64 s.ropes.l.length (by omega) (by omega) v
  have hlcr : s.ropes.l.length ≤ s.ropes.cap := hat.ropes.1
  have hmr : s.ropes.cap ≤ 9223372036854775807 := hat.ropes.2.1
  have HSR := hide hatW.ropes
  have HW := hide hW
  have HWs := hide hWs
  have HWb := hide hWb
  rw [hv] at KV
  clear hW hWs hWh hWb hat hatW hsm hv
  obtain ⟨⟨A, cap, l⟩, ⟨A', cap', l'⟩⟩ := s
  simp only at *
  go_enter Tryz.func12, Tryz.ntmps12
  go_wp2_with (go_at_call 15; rw [← HW.out]; refine KV.out.mono ?_; rintro e w' ⟨rfl, y, rfl⟩)
  obtain ⟨n0, hn0⟩ : ∃ n0, n0 = y.val.heap.size := ⟨_, rfl⟩
  have hyb := y.below
  have hys := y.size
  have hWn : W.heap.size ≤ n0 := by omega
  rw [← hn0]
  have HN := hide hn0
  clear hn0
  go_loopw [5, 20] (fun _ v wr => ∃ k : Nat, v = .int .i64 k ∧ k ≤ l.length ∧ Making n0 l.length l'.length k wr ∧ Below W.heap.size W wr) (fun _ v _ => l.length - (intOf v).toNat)
  case atStart => exact ⟨0, rfl, Nat.zero_le _, by rw [HN.out]; exact Making.start _ _ _, hyb.alloc hys _⟩
  case round =>
    obtain ⟨k, rfl, hk, hM, hBw⟩ := hrel
    have hsize := hM.size
    have hnz : n0 < wr.heap.size := by omega
    have hcw := hc ⟨wr, hBw⟩
    simp only at hcw
    have hcw2 := fun o => hc ⟨wr.alloc o, hBw.alloc (by omega) o⟩
    simp only at hcw2
    clear hsize
    have HM := hide hM
    have HB := hide hBw
    by_cases hlt : k < l.length
    · obtain ⟨old, hold⟩ : ∃ v, wr.cell? ⟨n0, k, none⟩ = some v := ⟨_, hM.outer.cell hlt⟩
      have hfz : wr.frozen? ⟨n0, k, none⟩ = false := hM.outer.frozen k
      clear hM hBw
      go_wp2
      exact ⟨⟨k + 1, by go_num, by omega, HM.out.next, (HB.out.setCell (p := ⟨n0, k, none⟩) hWn _).alloc (by have := HB.out.size; simpa [World.setCell] using this) _⟩, by simp [intOf]; omega⟩
    · have ekR : k = l.length := by omega
      subst ekR
      have HP := hide hM.done
      clear hM HM HB hcw2
      go_wp2
      have HPS := hide (show MatAt n0 l.length l'.length (matG l l' 0) wr from HP.out.congr fun r c _ _ => by simp [matG])
      have HB0 := hide hBw
      clear HP hcw hBw
      go_loopw [6, 7, 34] (fun _ _ v wr => ∃ k : Nat, v = .int .i64 k ∧ k ≤ l'.length ∧ Hid (MatAt n0 l.length l'.length (matG l l' k) wr) ∧ Hid (Below W.heap.size W wr)) (fun _ _ v _ => l'.length - (intOf v).toNat)
      case atStart => exact ⟨0, rfl, Nat.zero_le _, HPS, HB0⟩
      case round =>
        obtain ⟨k, rfl, hk, HP, HB1⟩ := hrel
        by_cases hlt : k < l'.length
        · obtain ⟨b, off, hA, hb, hcell⟩ := HSR.out.2.2 (show 0 < l'.length by omega)
          simp only at hA
          subst hA
          have hx : l'[k]? = some l'[k] := List.getElem?_eq_getElem hlt
          have he := RopeD.elem hx hb hcell ⟨_, HB1.out⟩
          simp only at he
          obtain ⟨hsp, hl10, hsl⟩ := HSM.out l'[k] (List.getElem_mem hlt)
          have hpz := HP.out.size
          obtain ⟨V, hV, hVs, hVb, hVh⟩ := boxed wr (.cells #[.string l'[k].name, .slice l'[k].holds.A l'[k].holds.l.length l'[k].holds.cap, .bool l'[k].hauled] 53)
          have HP0 := hide (show MatAt n0 l.length l'.length (fun i c => if c = k then pullIdx l i (l'[k].holds.l.take 0) else matG l l' k i c) V from (HP.out.below (hVb.mono hpz)).congr fun r c _ _ => by
            by_cases e : c = k
            · subst e; simp [matG, pullIdx]
            · simp [e])
          have HB2 := hide (HB1.out.trans (hVb.mono HB1.out.size) : Below W.heap.size W V)
          have HV := hide hV
          have HSP := hide hsp
          have HSL := hide hsl
          have HX := hide hx
          obtain ⟨r, hr⟩ : ∃ r, r = l'[k] := ⟨_, rfl⟩
          rw [← hr] at he HSP HSL HX HP0 HV hl10
          have hlk : Hid (r = l'[k]) := hide hr
          clear hr hV hVs hVb hVh hcell hx hsp hsl
          obtain ⟨rn, ⟨A2, cap2, l2⟩, rh⟩ := r
          simp only at he HSP HSL HX HP0 HV hl10
          have hlc2 := HSL.out.1
          have hm2 := HSL.out.2.1
          unfold maxLen at hm2
          simp only at hlc2
          go_wp2
          rw [← HV.out]
          go_loopw [9, 10, 42] (fun _ _ v wr => ∃ j : Nat, v = .int .i64 j ∧ j ≤ l2.length ∧ Hid (MatAt n0 l.length l'.length (fun i c => if c = k then pullIdx l i (l2.take j) else matG l l' k i c) wr) ∧ Hid (Below W.heap.size W wr)) (fun _ _ v _ => l2.length - (intOf v).toNat)
          case atStart => exact ⟨0, rfl, Nat.zero_le _, HP0, HB2⟩
          case round =>
            obtain ⟨j, rfl, hj, HP3, HB3⟩ := hrel
            clear he
            by_cases hjt : j < l2.length
            · obtain ⟨b2, off2, hA2, hb2, hcell2⟩ := HSL.out.2.2 (show 0 < l2.length by omega)
              simp only at hA2
              subst hA2
              have hx2 : l2[j]? = some l2[j] := List.getElem?_eq_getElem hjt
              have he2 := HoldD.elem hx2 hb2 hcell2 ⟨_, HB3.out⟩
              simp only at he2
              have hpz3 := HP3.out.size
              obtain ⟨V2, hV2, hVs2, hVb2, hVh2⟩ := boxed wr (.cells #[.string l2[j].block, .int .i64 l2[j].pulls, .int .i64 l2[j].num, .int .i64 l2[j].den] 57)
              have hcw3 := fun o => hc ⟨wr.alloc o, HB3.out.alloc HB3.out.size o⟩
              simp only at hcw3
              have hh2 := fun y : After V2.heap.size V2 => HoldD.boxed hVh2 (by omega) y
              have hPy := fun y : After V2.heap.size V2 => HP3.out.below ((hVb2.trans (y.below.mono (by omega))).mono hpz3)
              have HBy := hide fun y : After V2.heap.size V2 => (HB3.out.trans ((hVb2.trans (y.below.mono (by omega))).mono HB3.out.size) : Below W.heap.size W y.val)
              have HV2 := hide hV2
              have HPy := hide hPy
              have HNX := hide (fun i => pullIdx_next (bl := l) (i := i) hx2)
              have hpb := (HSP.out l2[j] (List.getElem_mem hjt))
              obtain ⟨q, hq⟩ : ∃ q : Int, q = findB l l2[j].block := ⟨_, rfl⟩
              have hqb := HFL.out l2[j].block
              rw [← hq] at hqb
              have HQ := hide hq
              clear hcell2 hx2 hV2 hVs2 hVb2 hVh2 hPy hq
              rcases (show q < 0 ∨ ∃ n : Nat, q = (n : Int) ∧ n < l.length from by
                by_cases h : q < 0
                · exact Or.inl h
                · exact Or.inr ⟨q.toNat, by omega, by omega⟩) with hneg | ⟨n, rfl, hn⟩
              · go_wp2_with (go_at_call 31; rw [← HV2.out]; have hcf := KF.out V2 (HBy.out (After.refl _ _)) l2[j].block; rw [← HQ.out] at hcf; refine (Gives.first hcf).mono ?_; clear hcf; rintro e w' ⟨rfl, y3, rfl⟩)
                refine ⟨⟨j + 1, by go_num, by omega, hide ((HPy.out y3).congr fun r c _ _ => ?_), hide (HBy.out y3)⟩, by simp [intOf]; omega⟩
                by_cases e : c = k
                · simp only [e, if_true]; rw [HNX.out, ← HQ.out, if_neg (by omega), Int.add_zero]
                · simp only [e, if_false]
              · have hoc := fun y => (HPy.out y).outerCell hn
                have hic := fun y => (HPy.out y).cell hn hlt
                have hfz := fun y => (HPy.out y).frozen hn k
                simp only [if_true] at hic
                obtain ⟨old, hold⟩ : ∃ old, old = pullIdx l n (l2.take j) := ⟨_, rfl⟩
                have hob := pullIdx_bound l n (l2.take j) (smallPulls_take HSP.out j)
                rw [List.length_take] at hob
                rw [← hold] at hic hob
                have hmin : min j l2.length = j := by omega
                rw [hmin] at hob
                have hqi : (0 : Int) ≤ (n : Int) := by omega
                have hqj : (n : Int) < (l.length : Int) := by omega
                have hki : (0 : Int) ≤ (k : Int) := by omega
                have hkj : (k : Int) < (l'.length : Int) := by omega
                have HOLD := hide hold
                clear hold hmin
                go_wp2_with (go_at_call 31; rw [← HV2.out]; have hcf := KF.out V2 (HBy.out (After.refl _ _)) l2[j].block; rw [← HQ.out] at hcf; refine (Gives.first hcf).mono ?_; clear hcf; rintro e w' ⟨rfl, y3, rfl⟩; have hoc3 := hoc y3; have hic3 := hic y3; have hfz3 := hfz y3; have hh3 := hh2 y3; clear hoc hic hfz hh2)
                go_region
                go_simp
                go_wp2
                refine ⟨⟨j + 1, by go_num, by omega, hide ((((HPy.out y3).set k hn _).below ((Below.refl _ _).drew)).congr fun r c _ _ => ?_), hide (((HBy.out y3).setCell (p := ⟨n0 + 1 + n, k, none⟩) (by simp only; omega) _).drew)⟩, by simp [intOf]; omega⟩
                by_cases e : c = k
                · subst e
                  simp only [and_true, if_true]
                  rw [HNX.out, ← HQ.out]
                  by_cases e2 : r = n
                  · subst e2; simp [HOLD.out]
                  · rw [if_neg e2, if_neg (by omega), Int.add_zero]
                · simp only [e, and_false, if_false]
            · have ejl : j = l2.length := by omega
              subst ejl
              have HMG := hide (HP3.out.congr (g := matG l l' (k + 1)) fun r c _ _ => by
                by_cases e : c = k
                · subst e; simp [matG, matF, HX.out]
                · by_cases e2 : c < k
                  · simp [matG, e, e2, Nat.lt_succ_of_lt e2]
                  · simp [matG, e, e2, show ¬ c < k + 1 by omega])
              go_wp2
              exact ⟨⟨k + 1, by go_num, by omega, HMG, HB3⟩, by simp [intOf]; omega⟩
        · have ekl : k = l'.length := by omega
          subst ekl
          have HMF := hide (HP.out.congr (g := matF l l') fun r c _ hc => by simp [matG, hc])
          go_wp2
          go_returns
          exact ⟨n0, by have := HWs.out; omega, rfl, HMF.out, HWb.out.trans (HB1.out.mono (by have := HWs.out; omega))⟩
end Go.Proofs.YtgamhdbcejkllaaGreatDoor
