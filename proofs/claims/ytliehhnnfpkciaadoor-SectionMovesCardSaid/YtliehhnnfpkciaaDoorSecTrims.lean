/- loftblockref32.Trims and loftblocklaw32.big. -/
import Derived.Test.YtliehhnnfpkciaaDoorSecSpec
import Derived.Test.YtliehhnnfpkciaaDoorSecRef
namespace Go.Proofs.YtliehhnnfpkciaaDoor
open Go.RowKit

set_option maxHeartbeats 4000000 in
theorem refTrims_any (h : HouseD) (trims : Sl Int) (w : World) (B : Nat) (hB : B ≤ w.heap.size) (hat : HouseD.at_ w B h) (hatT : SlAt w B 1 intCells trims) :
    Calls Tryd.prog 49 #[.agg #[.string h.name, .int .i64 h.height, .slice h.sets.A h.sets.l.length h.sets.cap, .slice h.roofs.A h.roofs.l.length h.roofs.cap], .slice trims.A trims.l.length trims.cap] w (Gives w (.int .i64 (trimsE h.sets.l trims.l))) := by
  obtain ⟨W, hW, hWs, hWb, hWh⟩ := boxed w (.cells #[.string h.name, .int .i64 h.height, .slice h.sets.A h.sets.l.length h.sets.cap, .slice h.roofs.A h.roofs.l.length h.roofs.cap] 25)
  have hc := fun y : After W.heap.size W => HouseD.boxed hWh (by omega) y
  have hbd : ∀ y : After W.heap.size W, Below w.heap.size w y.val := fun y => hWb.trans (y.below.mono (by omega))
  have hatW : HouseD.at_ W W.heap.size h := hat.to (hWb.mono hB) (by omega)
  have hatTW : SlAt W W.heap.size 1 intCells trims := hatT.to (hWb.mono hB) (by omega)
  have hlc : h.sets.l.length ≤ h.sets.cap := hat.sets.1
  have hm : h.sets.cap ≤ 9223372036854775807 := hat.sets.2.1
  have htc : trims.l.length ≤ trims.cap := hatT.1
  have htm : trims.cap ≤ 9223372036854775807 := hatT.2.1
  have HSL := hide hatW.sets
  have HTR := hide hatTW
  have HW := hide hW
  have HBD := hide hbd
  clear hW hWs hWh hWb hbd hat hatW hatT hatTW
  obtain ⟨name, height, ⟨A, cap, l⟩, roofs⟩ := h
  obtain ⟨TA, tcap, tr⟩ := trims
  simp only at *
  by_cases hlen : tr.length = l.length
  · have HLN := hide hlen
    rw [hlen]
    rw [hlen] at htc
    clear hlen
    go_enter Tryd.func49, Tryd.ntmps49
    go_wp2
    rw [← HW.out]
    go_loopw [5] (fun v wr => ∃ k : Nat, v = .int .i64 k ∧ k ≤ l.length ∧ Hid (∀ i, i < k → trimOk l tr i = true) ∧ ∃ x : After W.heap.size W, wr = x.val) (fun v _ => l.length - (intOf v).toNat)
    case atStart => exact ⟨0, rfl, Nat.zero_le _, hide (fun i hi => absurd hi (by omega)), After.refl _ _, rfl⟩
    case round =>
      obtain ⟨k, rfl, hk, HD, x, rfl⟩ := hrel
      by_cases hlt : k < l.length
      · have hkt : k < tr.length := by have := HLN.out; omega
        obtain ⟨b, off, hA, hbk, hcell⟩ := HSL.out.2.2 (show 0 < l.length by omega)
        obtain ⟨bt, offt, hTA, hbt, hcellt⟩ := HTR.out.2.2 (show 0 < tr.length by omega)
        simp only at hA hTA
        subst hA
        subst hTA
        have hx : l[k]? = some l[k] := List.getElem?_eq_getElem hlt
        have he := fun x : After W.heap.size W => (SetD.elem hx hbk hcell x).2.2
        have hxt : tr[k]? = some (nth tr k) := nth_get hkt
        have htr := fun x : After W.heap.size W => intElem hxt hbt hcellt x
        have hto : trimOk l tr k = (decide (l[k].low ≤ nth tr k) && decide (nth tr k ≤ l[k].high)) := by rw [trimOk, setN_of hx]
        have HTO := hide hto
        have HKT := hide hkt
        have kt0 : (0 : Int) ≤ (k : Int) := by omega
        have kl1 : (k : Int) < (l.length : Int) := by omega
        clear hcell hcellt hx hxt hto hkt
        generalize nth tr k = t at *
        by_cases q1 : t < l[k].low
        · have g1 : decide (t < l[k].low) = true := by simp; omega
          have HEB := hide (trimsE_bad HLN.out HKT.out (by rw [HTO.out]; simp; omega))
          go_wp2_with fail
          refine wp_region_after x (by kernel_rfl) (by kernel_rfl) ?_
          repeat (go_big_quiet_step (fail))
          refine wpQuiet_nil ?_
          intro y
          go_wp2
          go_ret
          exact Gives.mk (by rw [HEB.out]; rfl) (HBD.out _)
        · have g1 : decide (t < l[k].low) = false := by simp; omega
          by_cases q2 : l[k].high < t
          · have g2 : decide (l[k].high < t) = true := by simp; omega
            have HEB := hide (trimsE_bad HLN.out HKT.out (by rw [HTO.out]; simp; omega))
            go_wp2_with fail
            refine wp_region_after x (by kernel_rfl) (by kernel_rfl) ?_
            repeat (go_big_quiet_step (fail))
            refine wpQuiet_nil ?_
            intro y
            go_wp2
            go_ret
            exact Gives.mk (by rw [HEB.out]; rfl) (HBD.out _)
          · have g2 : decide (l[k].high < t) = false := by simp; omega
            have HD2 := hide (show ∀ i, i < k + 1 → trimOk l tr i = true from fun i hi => by
              by_cases h : i = k
              · rw [h, HTO.out]; simp; omega
              · exact HD.out i (by omega))
            go_wp2_with fail
            refine wp_region_after x (by kernel_rfl) (by kernel_rfl) ?_
            repeat (go_big_quiet_step (fail))
            refine wpQuiet_nil ?_
            intro y
            go_wp2
            exact ⟨⟨k + 1, by go_num, by omega, HD2, _, rfl⟩, by simp [intOf]; omega⟩
      · have ek : k = l.length := by omega
        subst ek
        have HE := hide (trimsE_ok HLN.out (fun i hi => HD.out i (by have := HLN.out; omega)))
        go_wp2
        go_ret
        exact Gives.mk (by rw [HE.out]; rfl) (HBD.out _)
  · have hle : ((tr.length : Int) == (l.length : Int)) = false := by simp; omega
    have HE := hide (trimsE_len hlen)
    clear hlen
    go_enter Tryd.func49, Tryd.ntmps49
    go_wp2
    go_ret
    rw [← HW.out]
    exact Gives.mk (by rw [HE.out]; rfl) (HBD.out (After.refl _ W))
end Go.Proofs.YtliehhnnfpkciaaDoor
