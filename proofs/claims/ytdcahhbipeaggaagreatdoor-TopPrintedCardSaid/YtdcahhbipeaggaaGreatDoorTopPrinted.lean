/- It is proved that loftblocktop.TopPrinted returns true for every house and every cue sheet, all given times and every scale, and that each argument reads afterwards as it read before. The listed variables are the library's tables, tied to the program's text. -/
import Derived.Test.YtdcahhbipeaggaaGreatDoorLawPrinted
import Derived.Test.YtdcahhbipeaggaaGreatDoorTie
import Derived.Test.YtdcahhbipeaggaaGreatDoorCards
import Derived.ChangeMaps5
set_option maxRecDepth 100000
set_option maxHeartbeats 16000000
namespace Go.Proofs.YtdcahhbipeaggaaGreatDoor.topPrintedDone
open Go.ChangeShapes Go.WideShapes Go.ChangeAt Go.ChangeMaps Go.RowKit
theorem own:ownKnob Tryz.prog.godebug=none:=by kernel_rfl
theorem XlV:laidOutB Tryz.prog=true:=by kernel_rfl
theorem XvJ(os:Os)(started:os.Started)(H:Type)(enc:TypeId×Value->H):
 ReturnsInHanded {} Tryz.checked os 3 .any (λw args=>(Rows.topPrintedSpec.pre enc Tryz.prog Tryz.f3 Rows.topPrintedRow.domain false w args/\laidMetH Tryz.prog Rows.topPrintedRow.laid w)/\sizedMet enc Tryz.prog Tryz.f3 (OpenSpec.ofChange Rows.topPrintedSpec) false w args)
  (Rows.topPrintedSpec.post enc Tryz.prog Tryz.f3 false true false false):=by
 refine XmY (C:=Tryz.checked) (X:=λw _=>laidMetH Tryz.prog Rows.topPrintedRow.laid w) (λ_ _ _ hh h=>h.of_heap hh) own started (by kernel_rfl) Tryz.func3
  (ChangeSpec.witness_shaped (enc:=enc) (C:=Tryz.checked) (os:=os) (X:=λw _=>laidMetH Tryz.prog Rows.topPrintedRow.laid w) false (World.laidAll Tryz.prog os Rows.topPrintedRow.laid) #[.agg #[.string ⟨#[]⟩,.int .i64 0,.slice none 0 0,.slice none 0 0],.agg #[.slice none 0 0,.slice none 0 0],.slice none 0 0,.int .i64 0] 8 (World.laidAll_os _ _ _)
    (World.shaped_of_ZipB (by kernel_rfl) (by kernel_rfl)) (by kernel_rfl) (by kernel_rfl) (by kernel_rfl)
    (by rw[MakeChecks.laidMetH_plain _ _ _ (by kernel_rfl)];exact laidMet_laidAll _ (by kernel_rfl) (by kernel_rfl))) ?_
 intro W base args ds gs before hD hW hL hO;have hC:∀(j:Nat) t v,Tryz.f3.params[j]? =some t->args[j]? =some v->Value.okWide Tryz.prog W .any base t v:=hD;have hK:=hW;obtain⟨p,q,hM,hV,rfl,hQ,hR⟩:=hW;have hA:DataW.TrodAll enc Tryz.prog W 0 (λ_=>true) true Tryz.f3.params.toList args.toList ds p:=hM;rw[Tryz.params3] at hA hC;obtain⟨v0,vs0,d0,ds0,p0,q0,hN,rfl,rfl,h0,r0⟩:=trodAll_cons hA;obtain⟨v1,vs1,d1,ds1,p1,q1,rfl,rfl,rfl,h1,r1⟩:=trodAll_cons r0;obtain⟨v2,vs2,d2,ds2,p2,q2,rfl,rfl,rfl,h2,r2⟩:=trodAll_cons r1;obtain⟨v3,vs3,d3,ds3,p3,q3,rfl,rfl,rfl,h3,r3⟩:=trodAll_cons r2;obtain⟨rfl,rfl,rfl⟩:=trodAll_nil r3
 obtain rfl:args=#[v0,v1,v2,v3]:=by cases args;simp_all
 obtain⟨rfl,rfl⟩:=trodVars_none hV;have k0:=h0;have lt0:∀x∈p0,x.block<W.heap.size:=by obtain⟨m,hm⟩:=k0;exact DataW.trod_lt m _ _ _ hm
 obtain⟨a0,rfl,hE,hG⟩:=Xq2 (hC 0 25 v0 rfl rfl) h0;have k1:=h1;have lt1:∀x∈p1,x.block<W.heap.size:=by obtain⟨m,hm⟩:=k1;exact DataW.trod_lt m _ _ _ hm
 obtain⟨a1,rfl,hH,hI⟩:=XqZ (hC 1 29 v1 rfl rfl) h1;have k2:=h2;have lt2:∀x∈p2,x.block<W.heap.size:=by obtain⟨m,hm⟩:=k2;exact DataW.trod_lt m _ _ _ hm
 obtain⟨sa2,sn2,sc2,rfl⟩:=okWide_slice Tryz.underlying30 (hC 2 30 v2 rfl rfl);obtain⟨m2,m2h⟩:=h2;simp only[Value.cells] at m2h;obtain⟨a2,e2,hJ,hP⟩:=Xm2 m2h;rw[e2] at hK k2 ⊢;clear m2h;obtain⟨a3,rfl,rfl,rfl,w3⟩:=open_int Tryz.underlying3 (hC 3 3 v3 rfl rfl) h3;clear hM hD;refine(Xic a0 a1 hE hH a2 a3 W (Xus hL hO) hG hI hJ).mono λe W' ⟨he,bel⟩=> ?_;subst he;exact⟨_,rfl,_,_,_,[],_,[],hK,trodAll_mk1 (shut_bool Tryz.underlying4 _),(trodAll_cons_mk (Below.trod XlV (by kernel_rfl) (of_decide_eq_true (by kernel_rfl)) k0 bel lt0) (trodAll_cons_mk (Below.trod XlV (by kernel_rfl) (of_decide_eq_true (by kernel_rfl)) k1 bel lt1) (trodAll_cons_mk (Below.trod XlV (by kernel_rfl) (of_decide_eq_true (by kernel_rfl)) k2 bel lt2) (trodAll_cons_mk (shut_int Tryz.underlying3 w3) trodAll_mk0)))),rfl,bel.frame _,λh=>by cases h⟩
theorem over:Rows.TopPrintedSaid:=
 OpenClaim.holds_of_wide 3 Tryz.f3 rfl rfl rfl rfl rfl rfl rfl ⟨rfl,rfl,rfl,rfl,rfl⟩ rfl rfl rfl rfl rfl (by kernel_rfl) Tryz.func3 (by kernel_rfl)
  (of_decide_eq_true (by kernel_rfl)) (by unfold Func.isWrapper;first|(rw[if_pos (by decide+kernel)];kernel_rfl)|(rw[if_neg (by decide+kernel)];exact⟨rfl,rfl⟩))
  (λos started H enc _=>XvJ os started H enc)
theorem card:Rows.TopPrintedCardSaid:=
 Claim7.holds_tied_plain_at .later [] Rows.topPrintedCard.laidKinds true Rows.topPrintedCard.stood.harness Rows.topPrintedCard.stood.looks
  over (λ_ h=>by cases h) (by kernel_rfl) (λ_ h=>by cases h) topPrinted_row_tie rfl ⟨rfl,rfl⟩ (by kernel_rfl) rfl
  (λf fn hf hD=>by
    obtain rfl:f=3:=Option.some.inj ((show Tryz.prog.funcNamed Rows.topPrintedRow.func=some 3 by kernel_rfl).symm.trans hf)|>.symm;obtain rfl:fn=Tryz.f3:=(Option.some.inj (Tryz.func3.symm.trans hD)).symm
    exact⟨by kernel_rfl,λj t ht=>by
     rw[Tryz.params3] at ht;have hm:t∈[25,29,30,3]:=by simpa using Array.mem_of_getElem? ht
     have hC:([25,29,30,3].all λu=> !Tryz.prog.wantsStandIn u)=true:=by kernel_rfl
     exact(show Tryz.prog.wantsStandIn t=false by simpa using List.all_eq_true.1 hC t hm)⟩)
  (by kernel_rfl)
end Go.Proofs.YtdcahhbipeaggaaGreatDoor.topPrintedDone
namespace Go.Proofs.YtdcahhbipeaggaaGreatDoor
theorem topPrinted_holds:Rows.TopPrintedCardSaid:=topPrintedDone.card
#print axioms topPrinted_holds
end Go.Proofs.YtdcahhbipeaggaaGreatDoor
