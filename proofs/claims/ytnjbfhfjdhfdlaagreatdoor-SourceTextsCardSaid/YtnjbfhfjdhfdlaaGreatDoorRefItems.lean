/- loftblockref21.items. -/
import Derived.Test.YtnjbfhfjdhfdlaaGreatDoorItems
namespace Go.Proofs.YtnjbfhfjdhfdlaaGreatDoor
open Go.RowKit

theorem itemFine_small2 {x : ItemD} {len : Int} (h : itemFine x len = true) (hl : len ≤ 1048576) : Small2 x := by
  obtain ⟨h0, h1, h2, h3⟩ := itemFine_small h hl
  exact ⟨h0, h1, h2, h3⟩
theorem clash_none {l : List ItemD} {x : ItemD} {k : Nat} (h : ∀ j (y : ItemD), j < k → l[j]? = some y → itemClash x y = false) : (l.take k).any (itemClash x) = false :=
  UpTo.any_false (q := itemClash x) (fun j y hj hy => by simp [h j y hj hy])

set_option maxHeartbeats 2000000 in
theorem refItems_any (s : SetD) (hok : s.ok) (hl0 : 0 ≤ s.length) (hl1 : s.length ≤ 1048576) (w : World) (B : Nat) (hB : B ≤ w.heap.size) (hat : SetD.at_ w B s) :
    Calls Tryz.prog 99 #[.agg #[.string s.name, .int .i64 s.depth, .int .i64 s.low, .int .i64 s.high, .int .i64 s.length, .slice s.lines.A s.lines.l.length s.lines.cap, .int .i64 s.pipe, .int .i64 s.arbor, .int .i64 s.purchase, .int .i64 s.most, .int .i64 s.brake, .slice s.items.A s.items.l.length s.items.cap, .slice s.bricks.A s.bricks.l.length s.bricks.cap]] w (Gives w (.bool (itemsOk s.items.l s.length))) := by
  obtain ⟨W, hW, hWs, hWb, hWh⟩ := boxed w (.cells #[.string s.name, .int .i64 s.depth, .int .i64 s.low, .int .i64 s.high, .int .i64 s.length, .slice s.lines.A s.lines.l.length s.lines.cap, .int .i64 s.pipe, .int .i64 s.arbor, .int .i64 s.purchase, .int .i64 s.most, .int .i64 s.brake, .slice s.items.A s.items.l.length s.items.cap, .slice s.bricks.A s.bricks.l.length s.bricks.cap] 63)
  have hc := fun y : After W.heap.size W => SetD.boxed hWh (by omega) y
  have hbd : ∀ y : After W.heap.size W, Below w.heap.size w y.val := fun y => hWb.trans (y.below.mono (by omega))
  have hatx : SlAt W W.heap.size 7 ItemD.cells s.items := hat.items.to (hWb.mono hB) (by omega)
  have hnm := fun x (h : x ∈ s.items.l) => (hok.items x h).name
  obtain ⟨name, depth, low, high, length, lines, pipe, arbor, purchase, most, brake, ⟨A, cap, l⟩, bricks⟩ := s
  simp only at *
  have hm : cap ≤ 9223372036854775807 := hatx.2.1
  have hlc : l.length ≤ cap := hatx.1
  have HW := hide hW
  have HBD := hide hbd
  have HA := hide hatx
  have HN := hide hnm
  clear hW hWs hWh hbd hatx hat hok hnm
  by_cases hlen : 40 < (l.length : Int)
  · go_enter Tryz.func99, Tryz.ntmps99
    go_wp2
    go_ret
    rw [← HW.out]
    exact Gives.mk (congrArg Value.bool (itemsOk_long hlen).symm) hWb
  · go_enter Tryz.func99, Tryz.ntmps99
    go_wp2
    go_loopw [3] (fun v wr => ∃ k : Nat, v = .int .i64 k ∧ k ≤ l.length ∧ Hid (UpTo (itemAt l length) l k) ∧ ∃ x : After W.heap.size W, wr = x.val) (fun v _ => l.length - (intOf v).toNat)
    case atStart => exact ⟨0, rfl, Nat.zero_le _, UpTo.zero _ _, ⟨W, Below.refl _ _⟩, HW.out.symm⟩
    case round =>
      obtain ⟨k, rfl, hk, hall, x, rfl⟩ := hrel
      by_cases hlt : k < l.length
      · obtain ⟨b, off, hA, hb, hcell⟩ := HA.out.2.2 (show 0 < l.length by omega)
        simp only at hA
        subst hA
        have hx : l[k]? = some l[k] := List.getElem?_eq_getElem hlt
        have hnk := HN.out l[k] (List.getElem_mem hlt)
        have he := fun x : After W.heap.size W => ItemD.elem hx hb hcell x
        have hin : (k : Int) < (l.length : Int) := by omega
        have hi0 : (0 : Int) ≤ (k : Int) := by omega
        have HX := hide hx
        have HC := hide hcell
        clear hcell hx
        cases hf : itemFine l[k] length
        · go_wp2
          refine wp_region_after x (by kernel_rfl) (by kernel_rfl) ?_
          repeat (go_big_quiet_step ((go_at_call 135; exact Gives.after (Nat.le_refl _) (refAlone_any _ _ hnk hl0 hl1 _))))
          refine wpQuiet_nil ?_
          intro x
          go_wp2
          go_ret
          exact Gives.mk (congrArg Value.bool (itemsOk_no HX.out (by rw [itemAt, hf]; rfl)).symm) (HBD.out _)
        · have hsk := itemFine_small2 hf hl1
          go_wp2
          refine wp_region_after x (by kernel_rfl) (by kernel_rfl) ?_
          repeat (go_big_quiet_step ((go_at_call 135; exact Gives.after (Nat.le_refl _) (refAlone_any _ _ hnk hl0 hl1 _))))
          refine wpQuiet_nil ?_
          intro x
          go_wp2
          go_loopw [4] (fun v wr => ∃ i : Nat, v = .int .i64 i ∧ i ≤ k ∧ Hid (∀ j (y : ItemD), j < i → l[j]? = some y → itemClash l[k] y = false) ∧ ∃ z : After W.heap.size W, wr = z.val) (fun v _ => k - (intOf v).toNat)
          case atStart => exact ⟨0, rfl, Nat.zero_le _, fun j y hj => absurd hj (by omega), _, rfl⟩
          case round =>
            obtain ⟨i, rfl, hi, hno, z, rfl⟩ := hrel
            by_cases hik : i < k
            · have hxi : l[i]? = some l[i] := List.getElem?_eq_getElem (by omega)
              have hei := fun z : After W.heap.size W => ItemD.elem hxi hb HC.out z
              have hfi : itemFine l[i] length = true := by
                have := hall.out i l[i] hik hxi
                rw [itemAt, Bool.and_eq_true] at this
                exact this.1
              have hsi := itemFine_small2 hfi hl1
              have HXI := hide hxi
              have hin2 : (i : Int) < (l.length : Int) := by omega
              have hi02 : (0 : Int) ≤ (i : Int) := by omega
              clear hxi hfi
              cases hp : (l[i].name.toList == l[k].name.toList)
              · cases hap : apartB l[i] l[k]
                all_goals
                  go_wp2
                  refine wp_region_after z (by kernel_rfl) (by kernel_rfl) ?_
                  repeat (go_big_quiet_step ((go_at_call 136; exact Gives.after (Nat.le_refl _) (refApart_any _ _ hsi hsk _))))
                  refine wpQuiet_nil ?_
                  intro z
                  go_wp2
                · go_ret
                  exact Gives.mk (congrArg Value.bool (itemsOk_no HX.out (by rw [itemAt, hf, any_take_true (q := itemClash l[k]) hik HXI.out (by simp [itemClash, hap])]; rfl)).symm) (HBD.out _)
                · exact ⟨⟨i + 1, by go_num, by omega, none_next hno.out HXI.out (by simp [itemClash, hap, sameName, hp]), _, rfl⟩, by simp [intOf]; omega⟩
              · go_wp2
                refine wp_region_after z (by kernel_rfl) (by kernel_rfl) ?_
                repeat (go_big_quiet_step (fail))
                refine wpQuiet_nil ?_
                intro z
                go_wp2
                go_ret
                exact Gives.mk (congrArg Value.bool (itemsOk_no HX.out (by rw [itemAt, hf, any_take_true (q := itemClash l[k]) hik HXI.out (by simp [itemClash, sameName, hp])]; rfl)).symm) (HBD.out _)
            · go_wp2
              have hd := clash_none (k := k) (fun j y hj hy => hno.out j y (by omega) hy)
              exact ⟨⟨k + 1, by go_num, by omega, hall.out.next HX.out (by rw [itemAt, hf, hd]; rfl), _, rfl⟩, by simp [intOf]; omega⟩
      · go_wp2
        go_ret
        exact Gives.mk (congrArg Value.bool (itemsOk_yes (by omega) (by have : k = l.length := by omega
                                                                        subst this; exact hall.out)).symm) (HBD.out _)
end Go.Proofs.YtnjbfhfjdhfdlaaGreatDoor
