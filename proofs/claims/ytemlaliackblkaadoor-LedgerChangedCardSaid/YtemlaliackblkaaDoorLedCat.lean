/- slices.Grow at nil and slices.Concat of two rows of bytes. -/
import Derived.Test.YtemlaliackblkaaDoorLedOwn
import Derived.Laws.AppendOwnNone
namespace Go.Proofs.YtemlaliackblkaaDoor
open Go.RowKit

set_option maxRecDepth 100000 in
set_option maxHeartbeats 2000000 in
theorem grow_any (n : Nat) (hn : n ≤ 140737488355328) (w : World) : Calls Tryd.prog 66 #[.slice none 0 0, .int .i64 n] w fun e w' => ∃ v, e = .returned v ∧ OwnSt 5 1 byteCells w v [] w' := by
  rcases Nat.eq_zero_or_pos n with h0 | h0
  · subst h0
    go_enter Tryd.func66, Tryd.ntmps66
    go_wp2
    go_ret
    exact ⟨_, rfl, OwnSt.start _ _ _ (Below.refl _ _)⟩
  · obtain ⟨i0, hi, hz0, hz1, hz2⟩ := info_parts infoByte
    have happ := Lib.run_append_nil_zeros (P := Tryd.prog) w 22 3 22 5 i0 (.int .u8 0) .i64 .i64 Tryd.underlying22 Tryd.underlying3 hi hz0 n h0 (by rw [hz1]; omega) (by omega) (by rw [hz2]; omega)
    generalize hcap : grownCap w n 0 5 = cap2 at happ
    have hcapge : n ≤ cap2 := by rw [← hcap]; exact grownCap_ge w _ 0 5
    have hcaple : cap2 ≤ maxLen := by rw [← hcap]; exact grownCap_le_maxLen w _ 0 5 (by unfold maxLen; omega)
    generalize hZ : (Builtin.zeroCells (Value.int .u8 0).cells n ++ Builtin.zeroCells (Value.int .u8 0).cells (cap2 - n)) = Z at happ
    have hZs : Z.size = cap2 := by rw [← hZ]; simp [size_zeroCells, Value.cells]; omega
    have HO := hide (show OwnSt 5 1 byteCells w (.slice (some ⟨w.heap.size, 0, none⟩) 0 cap2) [] (w.drew.alloc (.cells Z 5)) from
      ⟨⟨rfl, Or.inr ⟨w.heap.size, cap2, Z, rfl, Nat.le_refl _, heap_alloc_new w.drew _, Nat.zero_le _, hcaple, by rw [hZs]; omega, rfl⟩⟩, (Below.refl _ _).drew.alloc (Nat.le_refl _) _⟩)
    have hst := fun W : World => slice_to (P := Tryd.prog) W 22 5 1 Tryd.underlying22 Tryd.sizeOf5 (some ⟨w.heap.size, 0, none⟩) n cap2 0 (Nat.zero_le _)
    have HAPP := hide happ
    clear hcap hZ happ hcapge
    have hcapi : (0 : Int) ≤ (cap2 : Int) := by omega
    go_enter Tryd.func66, Tryd.ntmps66
    go_wp2_with (at_builtin; refine Lib.wpList_append_run _ rfl _ _ _ _ rfl _ _ rfl rfl _ _ HAPP.out ?_)
    go_ret
    exact ⟨_, rfl, HO.out⟩
/-- the two parts, as far as they are laid -/
def partsTo (l l' : List UInt8) : Nat → List UInt8
  | 0 => []
  | 1 => l
  | _ => l ++ l'
set_option maxRecDepth 100000 in
set_option maxHeartbeats 4000000 in
theorem concat_any (A A' : Option Addr) (cap cap' : Nat) (l l' : List UInt8) (hA : A = none → cap = 0) (hA' : A' = none → cap' = 0) (hl : l.length + l'.length ≤ 140737488355328) (g : Nat) (w : World) (B : Nat) (hB : B ≤ w.heap.size) (hs : SlAt w B 1 byteCells ⟨A, cap, l⟩) (hs' : SlAt w B 1 byteCells ⟨A', cap', l'⟩)
    (hg : g < w.heap.size) (h0 : w.cell? ⟨g, 0, none⟩ = some (.slice A l.length cap)) (h1 : w.cell? ⟨g, 1, none⟩ = some (.slice A' l'.length cap')) :
    Calls Tryd.prog 48 #[.slice (some ⟨g, 0, none⟩) 2 2] w fun e w' => ∃ v, e = .returned v ∧ OwnSt 5 1 byteCells w v (l ++ l') w' := by
  obtain ⟨i0, hi, hz0, hz1, hz2⟩ := info_parts infoByte
  have hc0 := fun y : After w.heap.size w => y.cell h0 hg
  have hc1 := fun y : After w.heap.size w => y.cell h1 hg
  have HS := hide (fun y : After w.heap.size w => hs.to (y.below.mono hB) hB)
  have HS' := hide (fun y : After w.heap.size w => hs'.to (y.below.mono hB) hB)
  have HC := hide (And.intro hA hA')
  have KG := hide (fun v : World => grow_any (l.length + l'.length) hl v)
  have HI := hide (And.intro hi (And.intro hz0 (And.intro hz1 hz2)))
  clear hs hs' h0 h1 hA hA' hi hz0 hz1 hz2
  go_enter Tryd.func48, Tryd.ntmps48
  go_wp2
  go_loopw [3, 11] (fun s v wr => ∃ k : Nat, v = .int .i64 k ∧ k ≤ 2 ∧ s = .int .i64 ((partsTo l l' k).length : Nat) ∧ ∃ x : After w.heap.size w, wr = x.val) (fun _ v _ => 2 - (intOf v).toNat)
  case atStart => exact ⟨0, rfl, Nat.zero_le _, rfl, After.refl _ _, rfl⟩
  case round =>
    obtain ⟨k, rfl, hk, rfl, x, rfl⟩ := hrel
    have hx0 := hc0 x
    have hx1 := hc1 x
    rcases (show k = 0 ∨ k = 1 ∨ k = 2 by omega) with rfl | rfl | rfl
    · simp only [partsTo, List.length_nil]
      go_wp2
      exact ⟨⟨1, by go_num, by omega, by simp, _, rfl⟩, by simp [intOf]⟩
    · simp only [partsTo]
      go_wp2
      exact ⟨⟨2, by go_num, by omega, by simp, _, rfl⟩, by simp [intOf]⟩
    · simp only [partsTo, List.length_append]
      have e2 : ((l.length + l'.length : Nat) : Int) = (l.length : Int) + (l'.length : Int) := by omega
      go_wp2_with fail
      rw [e2] at KG
      refine (KG.out _).mono ?_
      rintro e w1 ⟨u, rfl, st⟩
      have HST := hide (show OwnSt 5 1 byteCells w u [] w1 from ⟨Joins.ownsRow_le st.own x.size, x.below.trans (st.bel.mono x.size)⟩)
      clear st
      go_wp2
      go_loopw [6, 27] (fun u v wr => ∃ k : Nat, v = .int .i64 k ∧ k ≤ 2 ∧ Hid (OwnSt 5 1 byteCells w u (partsTo l l' k) wr)) (fun _ v _ => 2 - (intOf v).toNat)
      case atStart => exact ⟨0, rfl, Nat.zero_le _, HST⟩
      case round =>
        obtain ⟨k, rfl, hk, st⟩ := hrel
        have hb := st.out.bel
        have hy0 := hc0 ⟨wr, hb⟩
        have hy1 := hc1 ⟨wr, hb⟩
        have hsA := HS.out ⟨wr, hb⟩
        have hsB := HS'.out ⟨wr, hb⟩
        simp only at hy0 hy1 hsA hsB
        obtain ⟨hi, hz0, hz1, hz2⟩ := HI.out
        have hsz := hb.size
        rcases (show k = 0 ∨ k = 1 ∨ k = 2 by omega) with rfl | rfl | rfl
        · have HSA := hide hsA
          have HB := hide hb
          clear hsA hsB hb
          cases A with
          | none =>
            have hlz := slAt_nil HSA.out
            have hxv : Value.slice none l.length cap = .slice none 0 0 := by rw [HC.out.1 rfl, hlz]; rfl
            have HLZ := hide hlz
            clear hlz
            go_wp2_with (at_builtin; refine wpList_append_own_none rfl _ _ 22 rfl w.heap.size 5 i0 1 Tryd.underlying22 hi _ _ _ rfl st.out.own (by first | rfl | exact hxv) ?_)
            go_wp2
            exact ⟨⟨1, by go_num, by omega, by rw [HLZ.out]; exact st⟩, by simp [intOf]⟩
          | some a =>
            go_wp2_with (at_builtin; refine wpList_append_own _ rfl _ _ 22 rfl w.heap.size 5 i0 (.int .u8 0) 1 1 Tryd.underlying22 hi hz0 hz1 hz2 rfl (by decide) _ _ _ rfl st.out.own a l.length cap (l.flatMap byteCells) rfl (by rw [flat_len byteCells_len]) (slAt_flat byteCells_len HSA.out) (byte_one l) (by simp only [partsTo, List.length_nil]; unfold maxLen; omega) (by simp only [partsTo, List.length_nil]; omega) (by omega) ?_)
            intro v' w2 hown hgrow _
            have HN := hide (OwnSt.append st.out (Below.refl _ _) hown hgrow)
            clear hown hgrow
            go_wp2
            exact ⟨⟨1, by go_num, by omega, HN⟩, by simp [intOf]⟩
        · have HSB := hide hsB
          have HB := hide hb
          clear hsA hsB hb
          cases A' with
          | none =>
            have hlz := slAt_nil HSB.out
            have hxv : Value.slice none l'.length cap' = .slice none 0 0 := by rw [HC.out.2 rfl, hlz]; rfl
            have HLZ := hide hlz
            clear hlz
            go_wp2_with (at_builtin; refine wpList_append_own_none rfl _ _ 22 rfl w.heap.size 5 i0 1 Tryd.underlying22 hi _ _ _ rfl st.out.own (by first | rfl | exact hxv) ?_)
            go_wp2
            exact ⟨⟨2, by go_num, by omega, by rw [show partsTo l l' 2 = l from (show l ++ l' = l by rw [HLZ.out, List.append_nil])]; exact st⟩, by simp [intOf]⟩
          | some a =>
            go_wp2_with (at_builtin; refine wpList_append_own _ rfl _ _ 22 rfl w.heap.size 5 i0 (.int .u8 0) 1 1 Tryd.underlying22 hi hz0 hz1 hz2 rfl (by decide) _ _ _ rfl st.out.own a l'.length cap' (l'.flatMap byteCells) rfl (by rw [flat_len byteCells_len]) (slAt_flat byteCells_len HSB.out) (byte_one l') (by simp only [partsTo]; unfold maxLen; omega) (by simp only [partsTo]; omega) (by omega) ?_)
            intro v' w2 hown hgrow _
            have HN := hide (OwnSt.append st.out (Below.refl _ _) hown hgrow)
            clear hown hgrow
            go_wp2
            exact ⟨⟨2, by go_num, by omega, HN⟩, by simp [intOf]⟩
        · clear hsA hsB hb
          go_wp2
          go_ret
          exact ⟨_, rfl, st.out⟩
end Go.Proofs.YtemlaliackblkaaDoor
