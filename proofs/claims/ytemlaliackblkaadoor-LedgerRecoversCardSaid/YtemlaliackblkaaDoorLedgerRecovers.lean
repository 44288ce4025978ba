/- It is proved that loftblocklaw48.LedgerRecovers returns true for every row of bytes, and that each argument reads afterwards as it read before. The listed variables are the library's tables, tied to the program's text. -/
import Derived.Test.YtemlaliackblkaaDoorLawRecovers
import Derived.Test.YtemlaliackblkaaDoorReadLed
import Derived.Test.YtemlaliackblkaaDoorLedTabs
import Derived.Test.YtemlaliackblkaaDoorTie
import Derived.Test.YtemlaliackblkaaDoorCards
import Derived.ChangeMaps5
import Derived.WalkKit
namespace Go.Proofs.YtemlaliackblkaaDoor.ledgerRecoversDone
open Go.ChangeShapes Go.WideShapes Go.ChangeAt Go.ChangeMaps Go.RowKit

theorem own : ownKnob Tryd.prog.godebug = none := by kernel_rfl
theorem laidOut : laidOutB Tryd.prog = true := by kernel_rfl

set_option maxRecDepth 100000 in
theorem lifted (os : Os) (started : os.Started) (H : Type) (enc : TypeId × Value → H) :
    ReturnsInHanded {} Tryd.checked os 5 .any (fun w args => (Rows.ledgerRecoversSpec.pre enc Tryd.prog Tryd.f5 Rows.ledgerRecoversRow.domain false w args ∧ laidMetH Tryd.prog Rows.ledgerRecoversRow.laid w) ∧ sizedMet enc Tryd.prog Tryd.f5 (OpenSpec.ofChange Rows.ledgerRecoversSpec) false w args)
      (Rows.ledgerRecoversSpec.post enc Tryd.prog Tryd.f5 false true false false) := by
  refine returnsTied (C := Tryd.checked) (X := fun w _ => laidMetH Tryd.prog Rows.ledgerRecoversRow.laid w) (fun _ _ _ hh h => h.of_heap hh) own started (by kernel_rfl) Tryd.func5
    (ChangeSpec.witness_shaped (enc := enc) (C := Tryd.checked) (os := os) (X := fun w _ => laidMetH Tryd.prog Rows.ledgerRecoversRow.laid w) false (World.laidAll Tryd.prog os Rows.ledgerRecoversRow.laid) #[.slice none 0 0] 8 (World.laidAll_os _ _ _)
      (World.shaped_of_ZipB (by kernel_rfl) (by kernel_rfl)) (by kernel_rfl) (by kernel_rfl) (by kernel_rfl)
      (by rw [MakeChecks.laidMetH_plain _ _ _ (by kernel_rfl)]; exact laidMet_laidAll _ (by kernel_rfl) (by kernel_rfl))) ?_
  intro W base args ds gs before hval0 hW hL hsh
  have hval : ∀ (j : Nat) t v, Tryd.f5.params[j]? = some t → args[j]? = some v → Value.okWide Tryd.prog W .any base t v := hval0
  have hW' := hW
  obtain ⟨p, q, hA0, hV, rfl, hfz, hnd⟩ := hW
  have hA : DataW.TrodAll enc Tryd.prog W 0 (fun _ => true) true Tryd.f5.params.toList args.toList ds p := hA0
  rw [Tryd.params5] at hA hval
  obtain ⟨v0, vs0, d0, ds0, p0, q0, hargs, rfl, rfl, h0, r0⟩ := trodAll_cons hA
  obtain ⟨rfl, rfl, rfl⟩ := trodAll_nil r0
  obtain rfl : args = #[v0] := by cases args; simp_all
  obtain ⟨rfl, rfl⟩ := trodVars_none hV
  have k0 := h0
  have lt0 : ∀ x ∈ p0, x.block < W.heap.size := by obtain ⟨m, hm⟩ := k0; exact DataW.trod_lt m _ _ _ hm
  obtain ⟨sa0, sn0, sc0, rfl⟩ := okWide_slice Tryd.underlying22 (hval 0 22 v0 rfl rfl)
  obtain ⟨m0, m0h⟩ := h0
  simp only [Value.cells] at m0h
  obtain ⟨a0, e0, hat0, hn0⟩ := readBytes m0h
  rw [e0] at hW' k0 ⊢
  clear m0h
  clear hA0 hval0
  refine (ledgerRecovers_any a0 W (tabs_of hL hsh) W.heap.size (Nat.le_refl _) hat0).mono fun e W' ⟨he, bel⟩ => ?_
  subst he
  exact ⟨_, rfl, _, _, _, [], _, [], hW', trodAll_mk1 (shut_bool Tryd.underlying4 _), (trodAll_cons_mk (Below.trod laidOut (by kernel_rfl) (of_decide_eq_true (by kernel_rfl)) k0 bel lt0) trodAll_mk0), rfl, bel.frame _, fun h => by cases h⟩

theorem over : Rows.LedgerRecoversSaid :=
  OpenClaim.holds_of_wide 5 Tryd.f5 rfl rfl rfl rfl rfl rfl rfl ⟨rfl, rfl, rfl, rfl, rfl⟩ rfl rfl rfl rfl rfl (by kernel_rfl) Tryd.func5 (by kernel_rfl)
    (of_decide_eq_true (by kernel_rfl)) (by unfold Func.isWrapper; first | (rw [if_pos (by decide +kernel)]; kernel_rfl) | (rw [if_neg (by decide +kernel)]; exact ⟨rfl, rfl⟩))
    (fun os started H enc _ => lifted os started H enc)
theorem card : Rows.LedgerRecoversCardSaid :=
  Claim7.holds_tied_plain_at .later [] Rows.ledgerRecoversCard.laidKinds true Rows.ledgerRecoversCard.stood.harness Rows.ledgerRecoversCard.stood.looks
    over (fun _ h => by cases h) (by kernel_rfl) (fun _ h => by cases h) ledgerRecovers_row_tie rfl ⟨rfl, rfl⟩ (by kernel_rfl) rfl
    (fun f fn hf hfn => by
      obtain rfl : f = 5 := Option.some.inj ((show Tryd.prog.funcNamed Rows.ledgerRecoversRow.func = some 5 by kernel_rfl).symm.trans hf) |>.symm
      obtain rfl : fn = Tryd.f5 := (Option.some.inj (Tryd.func5.symm.trans hfn)).symm
      exact ⟨by kernel_rfl, fun j t ht => by
        rw [Tryd.params5] at ht
        have hm : t ∈ [22] := by simpa using Array.mem_of_getElem? ht
        have hall : ([22].all fun u => !Tryd.prog.wantsStandIn u) = true := by kernel_rfl
        exact (show Tryd.prog.wantsStandIn t = false by simpa using List.all_eq_true.1 hall t hm)⟩)
    (by kernel_rfl)
end Go.Proofs.YtemlaliackblkaaDoor.ledgerRecoversDone
namespace Go.Proofs.YtemlaliackblkaaDoor
theorem ledgerRecovers_holds : Rows.LedgerRecoversCardSaid := ledgerRecoversDone.card
#print axioms ledgerRecovers_holds
end Go.Proofs.YtemlaliackblkaaDoor
