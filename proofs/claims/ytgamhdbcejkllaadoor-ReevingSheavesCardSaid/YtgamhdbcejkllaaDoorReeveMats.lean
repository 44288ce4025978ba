/- Matrices as rows: slices.EqualFunc at matrices, same; loftblockref10.Matrix. -/
import Derived.Test.YtgamhdbcejkllaaDoorReevePull
import Derived.Test.YtgamhdbcejkllaaDoorQuietTail
namespace Go.Proofs.YtgamhdbcejkllaaDoor
open Go.RowKit

def rowL (f : Nat → Nat → Int) (i k : Nat) : List Int := (List.range k).map (f i)
theorem rowL_next (f : Nat → Nat → Int) (i k : Nat) : rowL f i (k + 1) = rowL f i k ++ [f i k] := by simp [rowL, List.range_succ]
theorem rowL_length (f : Nat → Nat → Int) (i k : Nat) : (rowL f i k).length = k := by simp [rowL]
/-- a matrix that can be read: R rows of C numbers -/
def MatRows (w : World) (v : Value) (f : Nat → Nat → Int) (R C : Nat) : Prop := ∃ g cap, v = .slice (some ⟨g, 0, none⟩) R cap ∧ g < w.heap.size ∧ ∀ i, i < R → ∃ vr, w.cell? ⟨g, i, none⟩ = some vr ∧ IntRow w vr (rowL f i C)
theorem MatRows.below {w w' : World} {v : Value} {f : Nat → Nat → Int} {R C : Nat} (h : MatRows w v f R C) (hb : Below w.heap.size w w') : MatRows w' v f R C := by
  obtain ⟨g, cap, hv, hg, hr⟩ := h
  refine ⟨g, cap, hv, Nat.lt_of_lt_of_le hg hb.size, fun i hi => ?_⟩
  obtain ⟨vr, h1, h2⟩ := hr i hi
  exact ⟨vr, (hb.cell (p := ⟨g, i, none⟩) hg).trans h1, h2.below hb⟩
theorem MatAt.rows {w : World} {n0 R C : Nat} {f : Nat → Nat → Int} (h : MatAt n0 R C f w) : MatRows w (.slice (some ⟨n0, 0, none⟩) R R) f R C := by
  have hz := h.size
  refine ⟨n0, R, rfl, by omega, fun i hi => ⟨_, h.outerCell hi, n0 + 1 + i, C, by rw [rowL_length], by omega, fun j x hx => ?_⟩⟩
  have hj : j < C := by have := (List.getElem?_eq_some_iff.1 hx).1; rwa [rowL_length] at this
  rw [Nat.zero_add, h.cell hi hj]
  have : f i j = x := by simpa [rowL, hj] using hx
  rw [this]
theorem enters_equalI : ∀ args w, (callFunc 25 args).run Tryd.prog w = .ok (.enter 25 args) w := entersOf Tryd.func25 (by kernel_rfl) rfl
set_option maxRecDepth 100000 in
set_option maxHeartbeats 4000000 in
theorem equalM_any (v v' : Value) (f : Nat → Nat → Int) (R C : Nat) (hR : R ≤ 100) (hC : C ≤ 100) (w : World) (h : MatRows w v f R C) (h' : MatRows w v' f R C) :
    Calls Tryd.prog 47 #[v, v', .func (.func 25) #[] #[]] w (Gives w (.bool true)) := by
  have eg := enters_equalI
  have HR := hide fun y : After w.heap.size w => h.below y.below
  have HR' := hide fun y : After w.heap.size w => h'.below y.below
  obtain ⟨g, cap, rfl, hg, _⟩ := h
  obtain ⟨g', cap', rfl, hg', _⟩ := h'
  go_enter Tryd.func47, Tryd.ntmps47
  go_wp2
  go_loopw [7, 8, 9, 17] (fun _ _ _ v wr => ∃ k : Nat, v = .int .i64 k ∧ k ≤ R ∧ ∃ x : After w.heap.size w, wr = x.val) (fun _ _ _ v _ => R - (intOf v).toNat)
  case atStart => exact ⟨0, rfl, Nat.zero_le _, After.refl _ _, rfl⟩
  case round =>
    obtain ⟨k, rfl, hk, x, rfl⟩ := hrel
    by_cases hlt : k < R
    · obtain ⟨a1, c1, e1, _, hr1⟩ := HR.out x
      obtain ⟨a2, c2, e2, _, hr2⟩ := HR'.out x
      injection e1 with e1 _ e3
      injection e2 with e2 _ e4
      injection e1 with e1
      injection e2 with e2
      injection e1 with e1
      injection e2 with e2
      subst e1 e2 e3 e4
      obtain ⟨vr, hv1, hi1⟩ := hr1 k hlt
      obtain ⟨vr', hv2, hi2⟩ := hr2 k hlt
      have KE := hide (Gives.after (x := x) (Nat.le_refl _) (equalRow hi1 hi2 (by rw [rowL_length]; omega) (by rw [rowL_length]; omega)))
      have hbt : (rowL f k C == rowL f k C) = true := by simp
      rw [hbt] at KE
      clear hr1 hr2 hi1 hi2 hbt
      go_wp2_with (go_at_call 25; refine KE.out.mono ?_; rintro e w' ⟨rfl, z, rfl⟩)
      exact ⟨⟨k + 1, by go_num, by omega, _, rfl⟩, by simp [intOf]; omega⟩
    · go_wp2
      go_ret
      exact Gives.mk rfl x.below
set_option maxRecDepth 100000 in
theorem same_any (v v' : Value) (f : Nat → Nat → Int) (R C : Nat) (hR : R ≤ 100) (hC : C ≤ 100) (w : World) (h : MatRows w v f R C) (h' : MatRows w v' f R C) :
    Calls Tryd.prog 21 #[v, v'] w (Gives w (.bool true)) := by
  have KE := hide (equalM_any v v' f R C hR hC w h h')
  go_enter Tryd.func21, Tryd.ntmps21
  go_wp2_with (go_at_call 47; refine KE.out.mono ?_; rintro e w' ⟨rfl, hb⟩)
  go_ret
  exact Gives.mk rfl hb
end Go.Proofs.YtgamhdbcejkllaaDoor
