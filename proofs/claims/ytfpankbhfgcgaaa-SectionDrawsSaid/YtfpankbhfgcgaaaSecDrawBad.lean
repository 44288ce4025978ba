/- section.Draw where it refuses: the numbers given, the count of the trims, a trim out of its range. -/
import Derived.Test.YtfpankbhfgcgaaaSecSpec
import Derived.Test.YtfpankbhfgcgaaaSecSize
namespace Go.Proofs.Ytfpankbhfgcgaaa
open Go.RowKit

theorem trimsE_two {l : List SetD} {tr : List Int} (h : tr.length = l.length) (h0 : trimsE l tr ≠ 0) : trimsE l tr = 2 := by
  unfold trimsE at *
  rw [if_pos h] at *
  split at h0
  · omega
  · rw [if_neg ‹_›]
set_option maxHeartbeats 2000000 in
set_option maxRecDepth 100000 in
theorem secDraw_given (h : HouseD) (hok : h.ok) (trims : Sl Int) (scale : Int) (h0 : secE h scale ≠ 0) (w : World) (B : Nat) (hB : B ≤ w.heap.size) (hat : HouseD.at_ w B h) :
    Calls Try.prog 18 #[.agg #[.string h.name, .int .i64 h.height, .slice h.sets.A h.sets.l.length h.sets.cap, .slice h.roofs.A h.roofs.l.length h.roofs.cap], .slice trims.A trims.l.length trims.cap, .int .i64 scale] w (Gives w (.tuple #[.string ⟨#[]⟩, .int .i64 (secE h scale)])) := by
  obtain ⟨W, hW, hWs, hWb, hWh⟩ := boxed w (.cells #[.string h.name, .int .i64 h.height, .slice h.sets.A h.sets.l.length h.sets.cap, .slice h.roofs.A h.roofs.l.length h.roofs.cap] 25)
  have hc := fun y : After W.heap.size W => HouseD.boxed hWh (by omega) y
  have hbd : ∀ y : After W.heap.size W, Below w.heap.size w y.val := fun y => hWb.trans (y.below.mono (by omega))
  have hatW : HouseD.at_ W W.heap.size h := hat.to (hWb.mono hB) (by omega)
  have KB := hide (Gives.after (x := After.refl W.heap.size W) (Nat.le_refl _) (begun_no h hok scale h0 W W.heap.size (Nat.le_refl _) hatW))
  have h0b : (secE h scale == 0) = false := by simp; omega
  have HW := hide hW
  have HBD := hide hbd
  clear hW hWs hWh hWb hbd hat hatW hok h0
  generalize secE h scale = e0 at *
  go_enter Try.func18, Try.ntmps18
  go_wp2_with (go_at_call 39; rw [← HW.out]; refine KB.out.mono ?_; rintro e w' ⟨rfl, y, rfl⟩)
  go_ret2
  exact Gives.mk rfl (HBD.out _)
set_option maxHeartbeats 4000000 in
set_option maxRecDepth 100000 in
theorem secDraw_trims (h : HouseD) (hok : h.ok) (trims : Sl Int) (scale : Int) (h0 : secE h scale = 0) (ht : trimsE h.sets.l trims.l ≠ 0) (w : World) (B : Nat) (hB : B ≤ w.heap.size) (hat : HouseD.at_ w B h) (hatT : SlAt w B 1 intCells trims) :
    Calls Try.prog 18 #[.agg #[.string h.name, .int .i64 h.height, .slice h.sets.A h.sets.l.length h.sets.cap, .slice h.roofs.A h.roofs.l.length h.roofs.cap], .slice trims.A trims.l.length trims.cap, .int .i64 scale] w (Gives w (.tuple #[.string ⟨#[]⟩, .int .i64 (trimsE h.sets.l trims.l)])) := by
  obtain ⟨W, hW, hWs, hWb, hWh⟩ := boxed w (.cells #[.string h.name, .int .i64 h.height, .slice h.sets.A h.sets.l.length h.sets.cap, .slice h.roofs.A h.roofs.l.length h.roofs.cap] 25)
  have hc := fun y : After W.heap.size W => HouseD.boxed hWh (by omega) y
  have hbd : ∀ v : World, Below W.heap.size W v → Below w.heap.size w v := fun v hv => hWb.trans (hv.mono (by omega))
  have hatW : HouseD.at_ W W.heap.size h := hat.to (hWb.mono hB) (by omega)
  have hatTW : SlAt W W.heap.size 1 intCells trims := hatT.to (hWb.mono hB) (by omega)
  have hbg := begun_ok h hok scale h0 W W.heap.size (Nat.le_refl _) hatW
  unfold Begun at hbg
  have hlc : h.sets.l.length ≤ h.sets.cap := hat.sets.1
  have hm : h.sets.cap ≤ 9223372036854775807 := hat.sets.2.1
  have htc : trims.l.length ≤ trims.cap := hatT.1
  have htm : trims.cap ≤ 9223372036854775807 := hatT.2.1
  have HSL := hide hatW.sets
  have HTR := hide hatTW
  have HG := hide hbg
  have HW := hide hW
  have HBD := hide hbd
  have hwW : ∀ y : After W.heap.size W, w.heap.size < y.val.heap.size := fun y => Nat.lt_of_lt_of_le (show w.heap.size < W.heap.size by omega) y.size
  have HNZ := hide ht
  clear hW hWs hWh hWb hbd hat hatW hatT hatTW hok hbg h0 ht
  obtain ⟨name, height, ⟨A, cap, l⟩, roofs⟩ := h
  obtain ⟨TA, tcap, tr⟩ := trims
  simp only at *
  by_cases hlen : tr.length = l.length
  · have HLN := hide hlen
    have HE := hide (trimsE_two hlen HNZ.out)
    have hnl : ((tr.length : Int) != (l.length : Int)) = false := by rw [hlen]; simp
    clear hlen
    go_enter Try.func18, Try.ntmps18
    go_wp2_with (go_at_call 39; rw [← HW.out]; refine HG.out.mono ?_; rintro e w0 ⟨hb, pb, hpb, rfl, hP⟩; obtain ⟨x0, rfl⟩ : ∃ x : After W.heap.size W, w0 = x.val := After.exists_iff hb)
    clear hP hb
    go_loopw [10, 11, 41] (fun _ _ v wr => ∃ k : Nat, v = .int .i64 k ∧ k ≤ l.length ∧ Hid (∀ i, i < k → trimOk l tr i = true) ∧ ∃ x : After W.heap.size W, wr = x.val) (fun _ _ v _ => l.length - (intOf v).toNat)
    case atStart => exact ⟨0, rfl, Nat.zero_le _, hide (fun i hi => absurd hi (by omega)), _, rfl⟩
    case round =>
      obtain ⟨k, rfl, hk, HD, x, rfl⟩ := hrel
      by_cases hlt : k < l.length
      · obtain ⟨b, off, hA, hbk, hcell⟩ := HSL.out.2.2 (show 0 < l.length by omega)
        obtain ⟨bt, offt, hTA, hbt, hcellt⟩ := HTR.out.2.2 (show 0 < tr.length by have := HLN.out; omega)
        simp only at hA hTA
        subst hA
        subst hTA
        have hx : l[k]? = some l[k] := List.getElem?_eq_getElem hlt
        have he := fun x : After W.heap.size W => SetD.elem hx hbk hcell x
        have hkt : k < tr.length := by have := HLN.out; omega
        have hxt : tr[k]? = some (nth tr k) := nth_get hkt
        have htr := fun x : After W.heap.size W => intElem hxt hbt hcellt x
        have HTO := hide (show trimOk l tr k = (decide (l[k].low ≤ nth tr k) && decide (nth tr k ≤ l[k].high)) by rw [trimOk, setN_of hx])
        have kt0 : (0 : Int) ≤ (k : Int) := by omega
        have kt1 : (k : Int) < (tr.length : Int) := by omega
        clear hcell hcellt hx hxt
        obtain ⟨W', hW', hWs', hWb', hWh'⟩ := boxed x.val (.cells #[.string l[k].name, .int .i64 l[k].depth, .int .i64 l[k].low, .int .i64 l[k].high, .int .i64 l[k].length, .slice l[k].lines.A l[k].lines.l.length l[k].lines.cap, .int .i64 l[k].pipe, .int .i64 l[k].arbor, .int .i64 l[k].purchase, .int .i64 l[k].most, .int .i64 l[k].brake, .slice l[k].items.A l[k].items.l.length l[k].items.cap, .slice l[k].bricks.A l[k].bricks.l.length l[k].bricks.cap] 51)
        have hcS := fun y : After W'.heap.size W' => SetD.boxed hWh' (by omega) y
        have hxy : ∀ y : After W'.heap.size W', Below W.heap.size W y.val := fun y => x.below.trans ((hWb'.mono x.size).trans (y.below.mono (by have := x.size; omega)))
        have htS : ∀ y : After W'.heap.size W', y.val.cell? ⟨bt, offt + k, none⟩ = some (.int .i64 (nth tr k)) := fun y => htr ⟨y.val, hxy y⟩
        have HW' := hide hW'
        have HXY := hide hxy
        clear hW' hWs' hWh' hWb' hxy
        generalize nth tr k = t at *
        by_cases q1 : t < l[k].low
        · have g1 : decide (t < l[k].low) = true := by simp; omega
          go_wp2_with fail
          rw [← HW'.out]
          refine wp_region_first W'.heap.size (by kernel_rfl) (by kernel_rfl) ?_
          repeat (go_big_quiet_step (fail))
          refine wpQuiet_nil ?_
          intro y
          go_wp2
          go_ret2
          exact Gives.mk (by rw [HE.out]; rfl) (HBD.out _ (HXY.out y))
        · have g1 : decide (t < l[k].low) = false := by simp; omega
          by_cases q2 : l[k].high < t
          · have g2 : decide (l[k].high < t) = true := by simp; omega
            go_wp2_with fail
            rw [← HW'.out]
            refine wp_region_first W'.heap.size (by kernel_rfl) (by kernel_rfl) ?_
            repeat (go_big_quiet_step (fail))
            refine wpQuiet_nil ?_
            intro y
            go_wp2
            go_ret2
            exact Gives.mk (by rw [HE.out]; rfl) (HBD.out _ (HXY.out y))
          · have g2 : decide (l[k].high < t) = false := by simp; omega
            have HD2 := hide (show ∀ i, i < k + 1 → trimOk l tr i = true from fun i hi => by
              by_cases h : i = k
              · rw [h, HTO.out]; simp; omega
              · exact HD.out i (by omega))
            go_wp2_with fail
            rw [← HW'.out]
            refine wp_region_first W'.heap.size (by kernel_rfl) (by kernel_rfl) ?_
            repeat (go_big_quiet_step (fail))
            refine wpQuiet_nil ?_
            intro y
            go_wp2
            exact ⟨⟨k + 1, by go_num, by omega, HD2, ⟨_, HXY.out y⟩, rfl⟩, by simp [intOf]; omega⟩
      · exact absurd (trimsE_ok HLN.out (fun i hi => HD.out i (by have := HLN.out; omega))) HNZ.out
  · have hnl : ((tr.length : Int) == (l.length : Int)) = false := by simp; omega
    have HE := hide (trimsE_len hlen)
    clear hlen
    go_enter Try.func18, Try.ntmps18
    go_wp2_with (go_at_call 39; rw [← HW.out]; refine HG.out.mono ?_; rintro e w0 ⟨hb, pb, hpb, rfl, hP⟩; obtain ⟨x0, rfl⟩ : ∃ x : After W.heap.size W, w0 = x.val := After.exists_iff hb)
    go_ret2
    exact Gives.mk (by rw [HE.out]; rfl) (HBD.out _ x0.below)
end Go.Proofs.Ytfpankbhfgcgaaa
