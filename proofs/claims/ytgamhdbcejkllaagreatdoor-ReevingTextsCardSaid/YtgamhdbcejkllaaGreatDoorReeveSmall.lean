/- loftblockref10.Small returns a bool; ready. -/
import Derived.Test.YtgamhdbcejkllaaGreatDoorRefReeve
namespace Go.Proofs.YtgamhdbcejkllaaGreatDoor
open Go.RowKit

/-- the call returns some bool -/
def GivesB (w : World) (e : Ending) (w' : World) : Prop := ∃ b : Bool, e = .returned (.bool b) ∧ Below w.heap.size w w'
theorem GivesB.mk {w w' : World} {v : Value} (b : Bool) (hv : v = .bool b) (h : Below w.heap.size w w') : GivesB w (.returned v) w' := ⟨b, by rw [hv], h⟩

set_option maxRecDepth 100000 in
set_option maxHeartbeats 4000000 in
theorem smallS_any (s : SysD) (w : World) (B : Nat) (hB : B ≤ w.heap.size) (hat : SysD.at_ w B s) :
    Calls Tryz.prog 5 #[.agg #[.slice s.blocks.A s.blocks.l.length s.blocks.cap, .slice s.ropes.A s.ropes.l.length s.ropes.cap]] w (GivesB w) := by
  obtain ⟨W, hW, hWs, hWb, hWh⟩ := boxed w (.cells #[.slice s.blocks.A s.blocks.l.length s.blocks.cap, .slice s.ropes.A s.ropes.l.length s.ropes.cap] 25)
  have hc := fun y : After W.heap.size W => SysD.boxed hWh (by omega) y
  have hbd : ∀ y : After W.heap.size W, Below w.heap.size w y.val := fun y => hWb.trans (y.below.mono (by omega))
  have hatW : SysD.at_ W W.heap.size s := hat.to (hWb.mono hB) (by omega)
  have hlcb : s.blocks.l.length ≤ s.blocks.cap := hat.blocks.1
  have hmb : s.blocks.cap ≤ 9223372036854775807 := hat.blocks.2.1
  have hlcr : s.ropes.l.length ≤ s.ropes.cap := hat.ropes.1
  have hmr : s.ropes.cap ≤ 9223372036854775807 := hat.ropes.2.1
  have HSB := hide hatW.blocks
  have HSR := hide hatW.ropes
  have HEA := hide hatW.each
  have HW := hide hW
  have HWb := hide hWb
  have HBD := hide hbd
  clear hW hWs hWh hWb hbd hatW hat
  obtain ⟨⟨A, cap, l⟩, ⟨A', cap', l'⟩⟩ := s
  simp only at *
  go_enter Tryz.func5, Tryz.ntmps5
  go_wp2
  all_goals try (go_ret; rw [← HW.out]; exact GivesB.mk _ rfl HWb.out)
  rw [← HW.out]
  go_loopw [3] (fun v wr => ∃ k : Nat, v = .int .i64 k ∧ k ≤ l.length ∧ ∃ x : After W.heap.size W, wr = x.val) (fun v _ => l.length - (intOf v).toNat)
  case atStart => exact ⟨0, rfl, Nat.zero_le _, After.refl _ _, rfl⟩
  case round =>
    obtain ⟨k, rfl, hk, x, rfl⟩ := hrel
    by_cases hlt : k < l.length
    · obtain ⟨b, off, hA, hb, hcell⟩ := HSB.out.2.2 (show 0 < l.length by omega)
      simp only at hA
      subst hA
      have hx : l[k]? = some l[k] := List.getElem?_eq_getElem hlt
      have he := fun x : After W.heap.size W => BlockD.elem hx hb hcell x
      clear hcell hx
      go_wp2
      · go_ret
        exact GivesB.mk _ rfl (HBD.out _)
      · exact ⟨⟨k + 1, by go_num, by omega, _, rfl⟩, by simp [intOf]; omega⟩
    · clear hk
      go_wp2
      go_loopw [4] (fun v wr => ∃ k : Nat, v = .int .i64 k ∧ k ≤ l'.length ∧ ∃ x : After W.heap.size W, wr = x.val) (fun v _ => l'.length - (intOf v).toNat)
      case atStart => exact ⟨0, rfl, Nat.zero_le _, _, rfl⟩
      case round =>
        obtain ⟨k', rfl, hk', x', rfl⟩ := hrel
        by_cases hlt' : k' < l'.length
        · obtain ⟨b, off, hA, hb, hcell⟩ := HSR.out.2.2 (show 0 < l'.length by omega)
          simp only at hA
          subst hA
          have hx : l'[k']? = some l'[k'] := List.getElem?_eq_getElem hlt'
          have he := fun x : After W.heap.size W => RopeD.elem hx hb hcell x
          have hrat : SlAt W W.heap.size 4 HoldD.cells l'[k'].holds := HEA.out _ (List.getElem_mem hlt')
          have hlcb := hrat.1
          have hmm := hrat.2.1
          unfold maxLen at hmm
          have HR := hide hrat
          clear hcell hx hrat
          obtain ⟨r, hr⟩ : ∃ r, r = l'[k'] := ⟨_, rfl⟩
          rw [← hr] at he HR hlcb hmm
          clear hr
          obtain ⟨name, ⟨A2, cap2, l2⟩, hauled⟩ := r
          simp only at *
          go_wp2
          all_goals try (go_ret; exact GivesB.mk _ rfl (HBD.out _))
          · go_loopw [5] (fun v wr => ∃ k : Nat, v = .int .i64 k ∧ k ≤ l2.length ∧ ∃ x : After W.heap.size W, wr = x.val) (fun v _ => l2.length - (intOf v).toNat)
            case atStart => exact ⟨0, rfl, Nat.zero_le _, _, rfl⟩
            case round =>
              obtain ⟨k2, rfl, hk2, x2, rfl⟩ := hrel
              by_cases hlt2 : k2 < l2.length
              · obtain ⟨b2, off2, hA2, hb2, hcell2⟩ := HR.out.2.2 (show 0 < l2.length by omega)
                simp only at hA2
                subst hA2
                have hx2 : l2[k2]? = some l2[k2] := List.getElem?_eq_getElem hlt2
                have he2 := fun x : After W.heap.size W => (HoldD.elem hx2 hb2 hcell2 x).1
                clear hcell2 hx2
                go_wp2
                · go_ret
                  exact GivesB.mk _ rfl (HBD.out _)
                · exact ⟨⟨k2 + 1, by go_num, by omega, _, rfl⟩, by simp [intOf]; omega⟩
              · go_wp2
                exact ⟨⟨k' + 1, by go_num, by omega, _, rfl⟩, by simp [intOf]; omega⟩
        · go_wp2
          go_ret
          exact GivesB.mk _ rfl (HBD.out _)
end Go.Proofs.YtgamhdbcejkllaaGreatDoor
