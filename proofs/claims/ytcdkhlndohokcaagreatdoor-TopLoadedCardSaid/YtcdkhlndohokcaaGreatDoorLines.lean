/- The lift lines of a set: batten.lines. -/
import Derived.Test.YtcdkhlndohokcaaGreatDoorSpecSet
namespace Go.Proofs.YtcdkhlndohokcaaGreatDoor
open Go.RowKit

theorem linesOk_no {l : List Int} {len : Int} {k : Nat} {y : Int} (hy : l[k]? = some y) (h : lineAt l len k y = false) : linesOk l len = false := by rw [linesOk, allIdx_no hy h, Bool.and_false]
theorem linesOk_len {l : List Int} {len : Int} (h : betweenB (l.length : Int) 2 10 = false) : linesOk l len = false := by rw [linesOk, h]; rfl
theorem linesOk_yes {l : List Int} {len : Int} {k : Nat} (h : betweenB (l.length : Int) 2 10 = true) (hk : l.length ≤ k) (hu : UpTo (lineAt l len) l k) : linesOk l len = true := by rw [linesOk, h, hu.all hk]; rfl
/-- ascending numbers lie between the first and the last -/
theorem asc_le {l : List Int} (h : ∀ j, 0 < j → j < l.length → nth l (j - 1) < nth l j) : ∀ d i, i + d < l.length → nth l i ≤ nth l (i + d)
  | 0, _, _ => Int.le_refl _
  | d + 1, i, hi => by
    have h1 := asc_le h d i (by omega)
    have h2 := h (i + d + 1) (by omega) (by omega)
    rw [show i + d + 1 - 1 = i + d by omega] at h2
    rw [show i + (d + 1) = i + d + 1 by omega]
    omega
theorem asc_next {l : List Int} {k : Nat} (h : ∀ j, 0 < j → j < k → nth l (j - 1) < nth l j) (hk : nth l (k - 1) < nth l k) : ∀ j, 0 < j → j < k + 1 → nth l (j - 1) < nth l j := fun j h0 h1 => by
  by_cases e : j = k
  · subst e; exact hk
  · exact h j h0 (by omega)
theorem linesOk_of {l : List Int} {len : Int} (hb : betweenB (l.length : Int) 2 10 = true) (h0 : 0 ≤ nth l 0) (h1 : nth l (l.length - 1) ≤ len) (h : ∀ j, 0 < j → j < l.length → nth l (j - 1) < nth l j) : linesOk l len = true := by
  refine linesOk_yes hb (Nat.le_refl _) fun j y hj hy => ?_
  have e : nth l j = y := nth_of hy
  have a := asc_le h j 0 (by omega)
  have b := asc_le h (l.length - 1 - j) j (by omega)
  rw [show j + (l.length - 1 - j) = l.length - 1 by omega] at b
  rw [Nat.zero_add] at a
  rw [lineAt, betweenB_iff.2 ⟨by omega, by omega⟩, Bool.true_and]
  by_cases hz : j = 0
  · simp [hz]
  · have := h j (by omega) hj
    simp [hz]; rw [← e]; simpa using this
theorem linesOk_first {l : List Int} {len : Int} (h : nth l 0 < 0) (hl : 0 < l.length) : linesOk l len = false :=
  linesOk_no (k := 0) (y := nth l 0) (nth_get hl) (by rw [lineAt, betweenB_false.2 (Or.inl h)]; rfl)
theorem linesOk_last {l : List Int} {len : Int} (h : len < nth l (l.length - 1)) (hl : 0 < l.length) : linesOk l len = false :=
  linesOk_no (k := l.length - 1) (y := nth l (l.length - 1)) (nth_get (by omega)) (by rw [lineAt, betweenB_false.2 (Or.inr h)]; rfl)
theorem linesOk_drop {l : List Int} {len : Int} {k : Nat} (hk : k < l.length) (h0 : 0 < k) (h : nth l k ≤ nth l (k - 1)) : linesOk l len = false :=
  linesOk_no (k := k) (y := nth l k) (nth_get hk) (by
    have e1 : decide (k = 0) = false := decide_eq_false (by omega)
    have e2 : decide (nth l (k - 1) < nth l k) = false := decide_eq_false (by omega)
    rw [lineAt, e1, e2]; simp)

set_option maxHeartbeats 2000000 in
theorem lines_any (A : Option Addr) (cap : Nat) (l : List Int) (len : Int) (w : World) (B : Nat) (hB : B ≤ w.heap.size) (hs : SlAt w B 1 intCells ⟨A, cap, l⟩) :
    Calls Tryz.prog 59 #[.slice A l.length cap, .int .i64 len] w (Gives w (.bool (linesOk l len))) := by
  have hm : cap ≤ 9223372036854775807 := hs.2.1
  have hlc : l.length ≤ cap := hs.1
  have HS := hide hs
  clear hs
  cases hbt : betweenB (l.length : Int) 2 10
  · have HBT := hide (linesOk_len (len := len) hbt)
    go_enter Tryz.func59, Tryz.ntmps59
    go_wp2_with (go_at_call 58; refine (Gives.first (betweenBatten_any _ _ _ _)).mono ?_; rintro e w' ⟨rfl, y, rfl⟩)
    go_ret
    exact Gives.mk (congrArg Value.bool HBT.out.symm) (After.below _)
  · obtain ⟨hl2, hl10⟩ := betweenB_iff.1 hbt
    obtain ⟨b, off, hA, hb, hcell⟩ := HS.out.2.2 (show 0 < l.length by omega)
    simp only at hA
    subst hA
    have hel : ∀ k, k < l.length → ∀ x : After w.heap.size w, x.val.cell? ⟨b, off + k, none⟩ = some (.int .i64 (nth l k)) := fun k hk x =>
      intElem (l := l) (k := k) (nth_get hk) (show b < w.heap.size by omega) hcell x
    have he0 := fun x => hel 0 (by omega) x
    have hel1 := fun x => hel (l.length - 1) (by omega) x
    rw [Nat.add_zero] at he0
    have HEL := hide hel
    clear hel hcell
    have hin : (l.length : Int) - 1 < (l.length : Int) := by omega
    have hi0 : (0 : Int) ≤ (l.length : Int) - 1 := by omega
    go_enter Tryz.func59, Tryz.ntmps59
    go_wp2_with (go_at_call 58; refine (Gives.first (betweenBatten_any _ _ _ _)).mono ?_; rintro e w' ⟨rfl, y, rfl⟩)
    · go_ret
      exact Gives.mk (congrArg Value.bool ((by rcases ‹_ ∨ _› with h | h; · exact linesOk_first h (by omega)
                                               · exact linesOk_last h (by omega) : linesOk l len = false)).symm) (After.below _)
    · obtain ⟨hf0, hfl⟩ := (‹_ ∧ _› : 0 ≤ nth l 0 ∧ nth l (l.length - 1) ≤ len)
      go_loopw [5] (fun v wr => ∃ k : Nat, v = .int .i64 k ∧ 1 ≤ k ∧ k ≤ l.length ∧ Hid (∀ j, 0 < j → j < k → nth l (j - 1) < nth l j) ∧ ∃ x : After w.heap.size w, wr = x.val) (fun v _ => l.length - (intOf v).toNat)
      case atStart => exact ⟨1, rfl, Nat.le_refl _, by omega, fun j h0 h1 => absurd h1 (by omega), _, rfl⟩
      case round =>
        obtain ⟨k, rfl, h1k, hk, hall, x, rfl⟩ := hrel
        by_cases hlt : k < l.length
        · have hek := fun x => HEL.out k hlt x
          have hek1 := fun x => HEL.out (k - 1) (by omega) x
          have hin2 : (k : Int) < (l.length : Int) := by omega
          have hi02 : (0 : Int) ≤ (k : Int) := by omega
          have hin3 : (k : Int) - 1 < (l.length : Int) := by omega
          have hi03 : (0 : Int) ≤ (k : Int) - 1 := by omega
          by_cases hle : nth l k ≤ nth l (k - 1)
          · go_wp2
            refine wp_region_after x (by kernel_rfl) (by kernel_rfl) ?_
            repeat (go_big_quiet_step (fail))
            refine wpQuiet_nil ?_
            intro z
            go_wp2
            go_ret
            exact Gives.mk (congrArg Value.bool (linesOk_drop hlt (by omega) hle).symm) (After.below _)
          · go_wp2
            refine wp_region_after x (by kernel_rfl) (by kernel_rfl) ?_
            repeat (go_big_quiet_step (fail))
            refine wpQuiet_nil ?_
            intro z
            go_wp2
            exact ⟨⟨k + 1, by go_num, by omega, by omega, asc_next hall.out (by omega), _, rfl⟩, by simp [intOf]; omega⟩
        · go_wp2
          go_ret
          exact Gives.mk (congrArg Value.bool (linesOk_of hbt hf0 hfl (fun j h0 h1 => hall.out j h0 (by omega))).symm) (After.below _)
    · go_ret
      exact Gives.mk (congrArg Value.bool (linesOk_first ‹_› (by omega)).symm) (After.below _)
end Go.Proofs.YtcdkhlndohokcaaGreatDoor
