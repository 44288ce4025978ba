/- reeving.Parts of a valid system. -/
import Derived.Test.YtgamhdbcejkllaaDoorReeveMat
namespace Go.Proofs.YtgamhdbcejkllaaDoor
open Go.RowKit

def rowTo (f : Nat → Nat → Int) (i k : Nat) : Int := ((List.range k).map (f i)).sum
theorem rowTo_next (f : Nat → Nat → Int) (i k : Nat) : rowTo f i (k + 1) = rowTo f i k + f i k := by simp [rowTo, List.range_succ]
def MatSmall (f : Nat → Nat → Int) : Prop := ∀ i k, -20 ≤ f i k ∧ f i k ≤ 20
theorem rowTo_bound {f : Nat → Nat → Int} (h : MatSmall f) (i : Nat) : ∀ k : Nat, -(20 * (k : Int)) ≤ rowTo f i k ∧ rowTo f i k ≤ 20 * (k : Int)
  | 0 => by simp [rowTo]
  | k + 1 => by
    have h1 := rowTo_bound h i k
    have h2 := h i k
    rw [rowTo_next]; omega
theorem matF_small {s : SysD} (h : sysOk s = true) : MatSmall (matF s.blocks.l s.ropes.l) := fun i k => by
  unfold matF
  cases hk : s.ropes.l[k]? with
  | none => simp
  | some r =>
    have hr := ropeOk_of h (List.mem_of_getElem? hk)
    have h1 := pullIdx_bound s.blocks.l i r.holds.l (small_of_rope hr)
    have h2 := (ropeOk_parts hr).2.1
    simp only; omega
def partsV (s : SysD) (nm : ByteArray) : Value := if findB s.blocks.l nm < 0 then .tuple #[.int .i64 0, .int .i64 9] else .tuple #[.int .i64 (rowTo (matF s.blocks.l s.ropes.l) (findB s.blocks.l nm).toNat s.ropes.l.length), .int .i64 0]

set_option maxRecDepth 100000 in
set_option maxHeartbeats 4000000 in
theorem parts_bad (s : SysD) (nm : ByteArray) (hok : s.ok) (hv : sysOk s = false) (w : World) (B : Nat) (hB : B ≤ w.heap.size) (hat : SysD.at_ w B s) :
    Calls Tryd.prog 11 #[.agg #[.slice s.blocks.A s.blocks.l.length s.blocks.cap, .slice s.ropes.A s.ropes.l.length s.ropes.cap], .string nm] w (Gives w (.tuple #[.int .i64 0, .int .i64 1])) := by
  obtain ⟨W, hW, hWs, hWb, hWh⟩ := boxed w (.cells #[.slice s.blocks.A s.blocks.l.length s.blocks.cap, .slice s.ropes.A s.ropes.l.length s.ropes.cap] 25)
  have KM := hide (Gives.first (matrix_bad s hok hv W W.heap.size (Nat.le_refl _) (hat.to (hWb.mono hB) (by omega))))
  have HW := hide hW
  have HBD := hide fun y : After W.heap.size W => hWb.trans (y.below.mono (by omega))
  clear hW hWs hWh hWb hat hv
  go_enter Tryd.func11, Tryd.ntmps11
  go_wp2_with (go_at_call 10; rw [← HW.out]; refine KM.out.mono ?_; rintro e w' ⟨rfl, y, rfl⟩)
  go_returns
  exact Gives.mk rfl (HBD.out _)
set_option maxRecDepth 100000 in
set_option maxHeartbeats 4000000 in
theorem parts_good (s : SysD) (nm : ByteArray) (hok : s.ok) (hv : sysOk s = true) (w : World) (B : Nat) (hB : B ≤ w.heap.size) (hat : SysD.at_ w B s) :
    Calls Tryd.prog 11 #[.agg #[.slice s.blocks.A s.blocks.l.length s.blocks.cap, .slice s.ropes.A s.ropes.l.length s.ropes.cap], .string nm] w (Gives w (partsV s nm)) := by
  obtain ⟨⟨hR1, hR6, hC1, hC6⟩, _, _⟩ := sysOk_parts hv
  obtain ⟨W, hW, hWs, hWb, hWh⟩ := boxed w (.cells #[.slice s.blocks.A s.blocks.l.length s.blocks.cap, .slice s.ropes.A s.ropes.l.length s.ropes.cap] 25)
  have hc := fun y : After W.heap.size W => SysD.boxed hWh (by omega) y
  have hatW : SysD.at_ W W.heap.size s := hat.to (hWb.mono hB) (by omega)
  have KM := hide (matrix_good s hok hv W W.heap.size (Nat.le_refl _) hatW)
  have KF := hide fun (y : After W.heap.size W) => find_any s nm y.val W.heap.size y.size (hatW.to y.below (Nat.le_refl _))
  have HBD := hide fun y : After W.heap.size W => hWb.trans (y.below.mono (by omega))
  have HS := hide (matF_small hv)
  have hlcb : s.blocks.l.length ≤ s.blocks.cap := hat.blocks.1
  have hmb : s.blocks.cap ≤ 9223372036854775807 := hat.blocks.2.1
  have HW := hide hW
  obtain ⟨f, hf⟩ : ∃ f, f = matF s.blocks.l s.ropes.l := ⟨_, rfl⟩
  obtain ⟨q, hq⟩ : ∃ q : Int, q = findB s.blocks.l nm := ⟨_, rfl⟩
  have hqb := findB_lt s.blocks.l nm
  unfold partsV
  rw [← hq] at hqb
  rw [← hq, ← hf]
  rw [← hq] at KF
  rw [← hf] at KM
  rw [← hf] at HS
  clear hW hWs hWh hWb hat hatW hv hf hq
  rcases (show q < 0 ∨ ∃ n : Nat, q = (n : Int) ∧ n < s.blocks.l.length from by
    by_cases h : q < 0
    · exact Or.inl h
    · exact Or.inr ⟨q.toNat, by omega, by omega⟩) with hneg | ⟨n, rfl, hn⟩
  · rw [if_pos hneg]
    go_enter Tryd.func11, Tryd.ntmps11
    go_wp2_with (first
      | (go_at_call 10; rw [← HW.out]; refine KM.out.mono ?_; rintro e w' ⟨n0, hn0, rfl, hP, hb⟩; obtain ⟨y, rfl⟩ := After.exists_iff hb; clear hb)
      | (go_at_call 34; refine (Gives.after (Nat.le_refl _) (KF.out y)).mono ?_; rintro e w' ⟨rfl, y2, rfl⟩))
    go_returns
    exact Gives.mk rfl (HBD.out _)
  · rw [if_neg (by omega), Int.toNat_natCast]
    have hqi : (0 : Int) ≤ (n : Int) := by omega
    have hqj : (n : Int) < (s.blocks.l.length : Int) := by omega
    go_enter Tryd.func11, Tryd.ntmps11
    go_wp2_with (first
      | (go_at_call 10; rw [← HW.out]; refine KM.out.mono ?_; rintro e w' ⟨n0, hn0, rfl, hP, hb⟩; obtain ⟨y, rfl⟩ := After.exists_iff hb; clear hb)
      | (go_at_call 34; have hps := hP.size; refine (KF.out y).mono ?_; rintro e w' ⟨rfl, hb⟩; have hP2 := hP.below (hb.mono hps); obtain ⟨y2, rfl⟩ := After.exists_iff (y.below.trans (hb.mono y.size)); have hoc := hP2.outerCell hn))
    have HP := hide hP2
    clear hP hP2 hb hps
    go_loopw [9, 11, 30] (fun u _ v wr => ∃ k : Nat, v = .int .i64 k ∧ u = .int .i64 (rowTo f n k) ∧ k ≤ s.ropes.l.length ∧ wr = y2.val) (fun _ _ v _ => s.ropes.l.length - (intOf v).toNat)
    case atStart => exact ⟨0, rfl, by simp [rowTo], Nat.zero_le _, rfl⟩
    case round =>
      obtain ⟨k, rfl, rfl, hk, rfl⟩ := hrel
      have hrb := rowTo_bound HS.out n k
      have hfb := HS.out n k
      by_cases hlt : k < s.ropes.l.length
      · have hic := HP.out.cell hn hlt
        have HNX := hide (rowTo_next f n k)
        obtain ⟨a, ha⟩ : ∃ a, a = rowTo f n k := ⟨_, rfl⟩
        obtain ⟨b, hb⟩ : ∃ b, b = f n k := ⟨_, rfl⟩
        rw [← ha, ← hb] at HNX
        rw [← ha] at hrb ⊢
        rw [← hb] at hfb hic
        clear ha hb
        go_wp2
        exact ⟨⟨k + 1, by go_num, by rw [HNX.out], by omega, trivial⟩, by simp [intOf]; omega⟩
      · have hkC : k = s.ropes.l.length := by omega
        subst hkC
        go_wp2
        go_returns
        exact Gives.mk rfl (HBD.out _)
end Go.Proofs.YtgamhdbcejkllaaDoor
