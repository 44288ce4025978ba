/- It is proved that loftblocklaw48.LedgerBytes returns true for every log and every row of bytes, and that each argument reads afterwards as it read before. The listed variables are the library's tables, tied to the program's text. -/
import Derived.Test.YtemlaliackblkaaDoorLawBytes
import Derived.Test.YtemlaliackblkaaDoorReadLed
import Derived.Test.YtemlaliackblkaaDoorLedTabs
import Derived.Test.YtemlaliackblkaaDoorTie
import Derived.Test.YtemlaliackblkaaDoorCards
import Derived.ChangeMaps5
import Derived.WalkKit
namespace Go.Proofs.YtemlaliackblkaaDoor.ledgerBytesDone
open Go.ChangeShapes Go.WideShapes Go.ChangeAt Go.ChangeMaps Go.RowKit

theorem own : ownKnob Tryd.prog.godebug = none := by kernel_rfl
theorem laidOut : laidOutB Tryd.prog = true := by kernel_rfl

set_option maxRecDepth 100000 in
theorem lifted (os : Os) (started : os.Started) (H : Type) (enc : TypeId × Value → H) :
    ReturnsInHanded {} Tryd.checked os 4 .any (fun w args => (Rows.ledgerBytesSpec.pre enc Tryd.prog Tryd.f4 Rows.ledgerBytesRow.domain false w args ∧ laidMetH Tryd.prog Rows.ledgerBytesRow.laid w) ∧ sizedMet enc Tryd.prog Tryd.f4 (OpenSpec.ofChange Rows.ledgerBytesSpec) false w args)
      (Rows.ledgerBytesSpec.post enc Tryd.prog Tryd.f4 false true false false) := by
  refine returnsTied (C := Tryd.checked) (X := fun w _ => laidMetH Tryd.prog Rows.ledgerBytesRow.laid w) (fun _ _ _ hh h => h.of_heap hh) own started (by kernel_rfl) Tryd.func4
    (ChangeSpec.witness_shaped (enc := enc) (C := Tryd.checked) (os := os) (X := fun w _ => laidMetH Tryd.prog Rows.ledgerBytesRow.laid w) false (World.laidAll Tryd.prog os Rows.ledgerBytesRow.laid) #[.slice none 0 0, .slice none 0 0] 8 (World.laidAll_os _ _ _)
      (World.shaped_of_ZipB (by kernel_rfl) (by kernel_rfl)) (by kernel_rfl) (by kernel_rfl) (by kernel_rfl)
      (by rw [MakeChecks.laidMetH_plain _ _ _ (by kernel_rfl)]; exact laidMet_laidAll _ (by kernel_rfl) (by kernel_rfl))) ?_
  intro W base args ds gs before hval0 hW hL hsh
  have hval : ∀ (j : Nat) t v, Tryd.f4.params[j]? = some t → args[j]? = some v → Value.okWide Tryd.prog W .any base t v := hval0
  have hW' := hW
  obtain ⟨p, q, hA0, hV, rfl, hfz, hnd⟩ := hW
  have hA : DataW.TrodAll enc Tryd.prog W 0 (fun _ => true) true Tryd.f4.params.toList args.toList ds p := hA0
  rw [Tryd.params4] at hA hval
  obtain ⟨v0, vs0, d0, ds0, p0, q0, hargs, rfl, rfl, h0, r0⟩ := trodAll_cons hA
  obtain ⟨v1, vs1, d1, ds1, p1, q1, rfl, rfl, rfl, h1, r1⟩ := trodAll_cons r0
  obtain ⟨rfl, rfl, rfl⟩ := trodAll_nil r1
  obtain rfl : args = #[v0, v1] := by cases args; simp_all
  obtain ⟨rfl, rfl⟩ := trodVars_none hV
  have k0 := h0
  have lt0 : ∀ x ∈ p0, x.block < W.heap.size := by obtain ⟨m, hm⟩ := k0; exact DataW.trod_lt m _ _ _ hm
  obtain ⟨sa0, sn0, sc0, rfl⟩ := okWide_slice Tryd.underlying34 (hval 0 34 v0 rfl rfl)
  obtain ⟨m0, m0h⟩ := h0
  simp only [Value.cells] at m0h
  obtain ⟨a0, e0, hat0, hok0⟩ := readLogs m0h
  rw [e0] at hW' k0 ⊢
  clear m0h
  have k1 := h1
  have lt1 : ∀ x ∈ p1, x.block < W.heap.size := by obtain ⟨m, hm⟩ := k1; exact DataW.trod_lt m _ _ _ hm
  obtain ⟨sa1, sn1, sc1, rfl⟩ := okWide_slice Tryd.underlying22 (hval 1 22 v1 rfl rfl)
  obtain ⟨m1, m1h⟩ := h1
  simp only [Value.cells] at m1h
  obtain ⟨a1, e1, hat1, hn1⟩ := readBytes m1h
  rw [e1] at hW' k1 ⊢
  clear m1h
  clear hA0 hval0
  refine (ledgerBytes_any a0 hok0 a1 W (tabs_of hL hsh) W.heap.size (Nat.le_refl _) hat0 hat1).mono fun e W' ⟨he, bel⟩ => ?_
  subst he
  exact ⟨_, rfl, _, _, _, [], _, [], hW', trodAll_mk1 (shut_bool Tryd.underlying4 _), (trodAll_cons_mk (Below.trod laidOut (by kernel_rfl) (of_decide_eq_true (by kernel_rfl)) k0 bel lt0) (trodAll_cons_mk (Below.trod laidOut (by kernel_rfl) (of_decide_eq_true (by kernel_rfl)) k1 bel lt1) trodAll_mk0)), rfl, bel.frame _, fun h => by cases h⟩

theorem over : Rows.LedgerBytesSaid :=
  OpenClaim.holds_of_wide 4 Tryd.f4 rfl rfl rfl rfl rfl rfl rfl ⟨rfl, rfl, rfl, rfl, rfl⟩ rfl rfl rfl rfl rfl (by kernel_rfl) Tryd.func4 (by kernel_rfl)
    (of_decide_eq_true (by kernel_rfl)) (by unfold Func.isWrapper; first | (rw [if_pos (by decide +kernel)]; kernel_rfl) | (rw [if_neg (by decide +kernel)]; exact ⟨rfl, rfl⟩))
    (fun os started H enc _ => lifted os started H enc)
theorem card : Rows.LedgerBytesCardSaid :=
  Claim7.holds_tied_plain_at .later [] Rows.ledgerBytesCard.laidKinds true Rows.ledgerBytesCard.stood.harness Rows.ledgerBytesCard.stood.looks
    over (fun _ h => by cases h) (by kernel_rfl) (fun _ h => by cases h) ledgerBytes_row_tie rfl ⟨rfl, rfl⟩ (by kernel_rfl) rfl
    (fun f fn hf hfn => by
      obtain rfl : f = 4 := Option.some.inj ((show Tryd.prog.funcNamed Rows.ledgerBytesRow.func = some 4 by kernel_rfl).symm.trans hf) |>.symm
      obtain rfl : fn = Tryd.f4 := (Option.some.inj (Tryd.func4.symm.trans hfn)).symm
      exact ⟨by kernel_rfl, fun j t ht => by
        rw [Tryd.params4] at ht
        have hm : t ∈ [34, 22] := by simpa using Array.mem_of_getElem? ht
        have hall : ([34, 22].all fun u => !Tryd.prog.wantsStandIn u) = true := by kernel_rfl
        exact (show Tryd.prog.wantsStandIn t = false by simpa using List.all_eq_true.1 hall t hm)⟩)
    (by kernel_rfl)
end Go.Proofs.YtemlaliackblkaaDoor.ledgerBytesDone
namespace Go.Proofs.YtemlaliackblkaaDoor
theorem ledgerBytes_holds : Rows.LedgerBytesCardSaid := ledgerBytesDone.card
#print axioms ledgerBytes_holds
end Go.Proofs.YtemlaliackblkaaDoor
