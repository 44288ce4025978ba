/- Lemmas for TopPrinted: SrcCue, SrcLineR, SrcRead. -/
import Derived.Test.YtdcahhbipeaggaaGreatDoorFloat
import Derived.Deep.RegionLaw
import Derived.Recover
set_option maxRecDepth 100000
set_option maxHeartbeats 16000000
namespace Go.Proofs.YtdcahhbipeaggaaGreatDoor
open Go.RowKit
theorem Qu:∀(k:Nat) {ts r:List Xh} {l:List Int},XY k ts=.ok (l,r)->l.length=k
 |0,ts,r,l,h=>by simp only[XY,Except.ok.injEq,Prod.mk.injEq] at h;rw[<-h.1];rfl
 |k+1,ts,r,l,h=>by
  rw[Qt] at h;cases h1:Y2 ts with
  |error p=>rw[h1] at h;simp[Xr] at h
  |ok v=>
   obtain⟨a,r1⟩:=v;rw[h1] at h;simp only[Xr] at h;cases h2:XY k r1 with
   |error p=>rw[h2] at h;simp at h
   |ok v=>
    obtain⟨l2,r2⟩:=v;rw[h2] at h;simp only[Except.ok.injEq,Prod.mk.injEq] at h;rw[<-h.1,List.length_cons,Qu k h2]
theorem Q1{w w':World}{r:Option Nat}(h:w.drew.grownBy w' r):w.grownBy w' r:=⟨h.os,h.tape,h.output,h.size,h.block⟩
theorem Ym{ts r:List Xh}{nm:ByteArray}(h:XT ts=.ok (nm,r)):r.length<ts.length:=Yr _ _ ts nm r h
theorem Xtu:(Tryz.prog.info? 86).map (λi=>(i.zero,i.size,i.bytes))=some (some (.agg #[.string ⟨#[]⟩,.int .i64 0,.int .i64 0,.int .i64 0,.int .i64 0,.int .i64 0,.int .i64 0]),7,64):=by kernel_rfl
theorem Xpo{ts:List Xh}{q:Int×Int}(h:XT ts=.error q):XbE ts=.error q:=by rw[XbE,h];rfl
theorem Xpn{ts r:List Xh}{nm:ByteArray}{q:Int×Int}(h:XT ts=.ok (nm,r))(h2:XY 6 r=.error q):XbE ts=.error q:=by rw[XbE,h];simp only[Xr];rw[h2]
theorem Xth{ts r r2:List Xh}{nm:ByteArray}{a:List Int}(h:XT ts=.ok (nm,r))(h2:XY 6 r=.ok (a,r2)):XbE ts=.ok (⟨nm,nth a 0,nth a 1,nth a 2,nth a 3,nth a 4,nth a 5⟩,r2):=by rw[XbE,h];simp only[Xr];rw[h2]
theorem Xtg{rb n:Nat}{tv:Value}{L:List Xh}{h0:Xl}{c0:Xp}{u w0:World}(h:RSt rb tv L (n+1) h0 c0 u){t:Xh}(pL:L[n]? =some t)(hl:XC (L.drop (n+1)))(hK:L.length<=1000000)(pM:∀t∈L,t.text.size<=1000000)(hc:Ctx w0 rb u):
 Calls Tryz.prog 136 #[.pointer (some ⟨rb,0,none⟩)] u (JM rb tv L (X3 h0 c0 Xc0 (t.line,t.col) (L.drop (n+1))) u):=by
 obtain⟨S,R,C,A,hU,hS,hR,hC,hA⟩:=h;have hH:X3 h0 c0 Xc0 (t.line,t.col) (L.drop (n+1))=if h0.aA=[] then .error (t.line,t.col) else Xr (XbE (L.drop (n+1))) λx r=> .ok (({h0 with aA:=QH (λs=>{s with aF:=s.aF++[x]}) h0.aA},c0),r):=by
  rw[X3,if_neg (by decide),if_neg (by decide),if_pos rfl]
 have KL:=Xa (Xnr hU pL hK);have HB:=Xa hH;have hO:=Xa hU;have HL:=Xa hl;have HC:=Xa hc;clear hl hc hH hU;obtain⟨k,hk⟩:∃k,S.l.length=k:=⟨_,rfl⟩
 cases k with
 |zero=>
  have hV:S.l=[]:=List.eq_nil_of_length_eq_zero hk;have HE:=Xa (show X3 h0 c0 Xc0 (t.line,t.col) (L.drop (n+1))=.error (t.line,t.col) by rw[HB.out,if_pos (by rw[<-hS,hV];rfl)]);go_enter Tryz.func136,Tryz.ntmps136;go_wp2_with fail;refine KL.out.mono ?_;rintro e w1 ⟨h1,-⟩;obtain⟨hg,rfl⟩:=h1 hV;refine⟨rfl,Below.grown brf hg (Nat.le_of_lt hO.out.rd.lt) (λk hk=>by injection hk with hk;omega),?_⟩;rw[HE.out]
 |succ m=>
  go_enter Tryz.func136,Tryz.ntmps136;go_wp2_with fail;refine KL.out.mono ?_;rintro e w1 ⟨-,h2⟩;obtain⟨g,hg,rfl,z,rfl⟩:=h2 m hk;have KN:=Xa (ZO (hO.out.rd.more z.below) HL.out hK)
  have HE:=Xa (show X3 h0 c0 Xc0 (t.line,t.col) (L.drop (n+1))=Xr (XbE (L.drop (n+1))) λx r=> .ok (({h0 with aA:=QH (λs=>{s with aF:=s.aF++[x]}) h0.aA},c0),r) by
   rw[HB.out,if_neg];intro pC;rw[<-hS] at pC;have:=congrArg List.length pC
   simp[hk] at this)
  have pD:=World.grownBy.refl u (some rb)|>λq=>Yj q z.below;have hL:=hO.out.rd.lt;clear h2 HB KL;go_wp2_with fail;refine KN.out.mono ?_;rintro e w2 ⟨hW,hx⟩;have hX:=Xa (XG pD hW);have HX:=Xa hx;clear hW hx pD;cases hP:XT (L.drop (n+1)) with
  |error q=>
   have h1:=HX.out;rw[hP] at h1;simp only at h1;subst h1;refine⟨rfl,Below.grown brf hX.out (Nat.le_of_lt hL) (λk hk=>by injection hk with hk;omega),?_⟩;rw[HE.out,Xpo hP];rfl
  |ok v=>
   obtain⟨nm,r⟩:=v;have h1:=HX.out;rw[hP] at h1;obtain⟨rfl,m2,h2,h3⟩:=h1;have hY:=Y7 (L.drop (n+1)) HL.out;rw[hP] at hY;have H5:=Xa (show XC (L.drop m2) by rw[h2];exact hY.2);have pN:=Xa h3;have HN:=Xa (And.intro hP h2);clear HX h2 h3 hP hY KN;go_upto_region 2 with fail;have KP:=Xa (XfC [1,2,3,4,5,6] (cur:=#[.string nm,.int .i64 0,.int .i64 0,.int .i64 0,.int .i64 0,.int .i64 0,.int .i64 0]) (ty:=86) pN.out hO.out.low H5.out hK pM (HC.out.grown hX.out) (by intro o ho;simp at ho ⊢;omega) (by decide) 217 #[.pointer (some ⟨w2.heap.size,1,none⟩),.pointer (some ⟨w2.heap.size,2,none⟩),.pointer (some ⟨w2.heap.size,3,none⟩),.pointer (some ⟨w2.heap.size,4,none⟩),.pointer (some ⟨w2.heap.size,5,none⟩),.pointer (some ⟨w2.heap.size,6,none⟩)] rfl 6)
   go_wp2_with fail;refine KP.out.mono ?_;rintro e w3 ⟨pE,hx⟩;have hZ:=Xa (XG hX.out pE);have HX:=Xa hx;obtain⟨sb,hD⟩:∃b,b=w2.heap.size:=⟨_,rfl⟩
   have pF:=Xa hD;clear pE hx KP hD;rw[show([1,2,3,4,5,6]:List Nat).length=6 from rfl] at HX;rw[<-pF.out] at HX;rw[<-pF.out];cases hI:XY 6 (L.drop m2) with
   |error q=>
    have h1:=HX.out;rw[hI] at h1;simp only at h1;subst h1;refine⟨rfl,Below.grown brf hZ.out (Nat.le_of_lt hL) (λk hk=>by injection hk with hk;omega),?_⟩;rw[HE.out,Xpn HN.out.1 (by rw[<-HN.out.2];exact hI)];rfl
   |ok v=>
    obtain⟨l,r2⟩:=v;have h1:=HX.out;rw[hI] at h1;obtain⟨rfl,hsz,h2,m3,h3,h4⟩:=h1;have pG:=Qu 6 hI;obtain⟨a1,a2,a3,a4,a5,a6,rfl⟩:∃a1 a2 a3 a4 a5 a6,l=[a1,a2,a3,a4,a5,a6]:=by
     match l,pG with
     |[a1,a2,a3,a4,a5,a6],_=>exact⟨_,_,_,_,_,_,rfl⟩
    have pO:=Xa h4;have hM:=QZ 6 (L.drop m2) H5.out;rw[hI] at hM;have pP:=Xa (show XC (L.drop m3) by rw[h3];exact hM.2);clear hM;have hE:=Xa (And.intro (Xth HN.out.1 (by rw[<-HN.out.2];exact hI)) (And.intro h3 hI));have h2:w3.heap[sb]? =some (.cells #[.string nm,.int .i64 a1,.int .i64 a2,.int .i64 a3,.int .i64 a4,.int .i64 a5,.int .i64 a6] 86 (0,0)):=h2;have HV:=Xa h2;clear HX h3 h4 hI pG h2;obtain⟨S0,s,hN⟩:∃S0 s,S.l=S0++[s]:=⟨S.l.dropLast,S.l.getLast (by intro h;rw[h] at hk;simp at hk),(List.dropLast_concat_getLast _).symm⟩
    have hm:m=S0.length:=by rw[hN,List.length_append] at hk;simp at hk;omega
    subst hm;obtain⟨i8,pH,pI,pJ,pK⟩:=info_parts Xtu;have HI:=Xa (And.intro pH (And.intro pI (And.intro pJ pK)));have hlen:n+2<=m3:=by
     have e1:=Ym HN.out.1;have e2:=Zt 6 _ _ _ hE.out.2.2;have e3:=congrArg List.length hE.out.2.1;have e4:=congrArg List.length HN.out.2;simp only[List.length_drop] at e1 e2 e3 e4;omega
    have hG:=Xa (hO.out.kept hZ.out pO.out (by omega));have hit:=(hG.out.aF hN).2;have pQ:=(hO.out.aF hN).2;obtain⟨pT,hW,-,hJ⟩:=hG.out.lastSet hN hg;have pU:w3.cell? ⟨g,S0.length*13+11,none⟩=some (.slice s.aF.A s.aF.l.length s.aF.cap):=hJ 11 _ rfl;have pV:m3<=1000000:=by obtain⟨_,_,_,_,_,h9⟩:=pP.out.head;omega
    have hD:=Joins.cell_of_block HV.out;have hV:=hD 0;have pW:=hD 1;have pX:=hD 2;have pY:=hD 3;have pZ:=hD 4;have qA:=hD 5;have qB:=hD 6;clear pH pI pJ pK hJ hD;go_wp2_with fail;go_region_law ((refine step_append_lies _ (by rfl) (.tmp 22) (.tmp 24) 54 (by rfl) (rb+1) 86 i8 (.agg #[.string ⟨#[]⟩,.int .i64 0,.int .i64 0,.int .i64 0,.int .i64 0,.int .i64 0,.int .i64 0]) 7 64 Tryz.underlying54 HI.out.1 HI.out.2.1 HI.out.2.2.1 HI.out.2.2.2 rfl (by omega) s.aF.val s.aF.l.length (s.aF.l.flatMap Xu.cells) (by rfl) ((hG.out.aF hN).1.alloc _) ⟨w3.heap.size,0,none⟩ 1 1 (Xu.cells ⟨nm,a1,a2,a3,a4,a5,a6⟩) (by go_simp) rfl (World.news_of_block (heap_alloc_new w3 _)) (λu hu=>by simp[Xu.cells] at hu;rcases hu with rfl|rfl|rfl|rfl|rfl|rfl|rfl<;>rfl) (by omega) (by unfold maxLen;omega) (by omega) (by simp;omega) (w3.heap.size+1) (by simp) ?_;intro g4 cap4 w4 hQ pA pR pS;obtain⟨⟨cv,qC⟩,qD,hT,pB⟩:=RIn.addItem hG.out hN hg hQ (Q1 pA) pR (by omega)))
    all_goals
     go_end0;refine⟨((Below.grown (Below.refl rb u) hZ.out (Nat.le_of_lt hL) (λk hk=>by injection hk with hk;omega))).trans (hT.mono (by omega)),?_⟩;rw[HE.out,hE.out.1];refine⟨rfl,m3,hE.out.2.1,_,R,C,A,pB,?_,hR,hC,hA⟩;rw[<-hS,hN,List.map_append,List.map_append,List.map_singleton,List.map_singleton,Q5];rfl
end Go.Proofs.YtdcahhbipeaggaaGreatDoor
namespace Go.Proofs.YtdcahhbipeaggaaGreatDoor
open Go.RowKit
theorem Xts:(Tryz.prog.info? 72).map (λi=>(i.zero,i.size,i.bytes))=some (some (.agg #[.string ⟨#[]⟩,.int .i64 0,.int .i64 0,.int .i64 0,.int .i64 0]),5,48):=by kernel_rfl
theorem Xo4{ts:List Xh}{q:Int×Int}(h:XT ts=.error q):XbB ts=.error q:=by rw[XbB,h];rfl
theorem Xo3{ts r:List Xh}{nm:ByteArray}{q:Int×Int}(h:XT ts=.ok (nm,r))(h2:XY 4 r=.error q):XbB ts=.error q:=by rw[XbB,h];simp only[Xr];rw[h2]
theorem XsZ{ts r r2:List Xh}{nm:ByteArray}{a:List Int}(h:XT ts=.ok (nm,r))(h2:XY 4 r=.ok (a,r2)):XbB ts=.ok (⟨nm,nth a 0,nth a 1,nth a 2,nth a 3⟩,r2):=by rw[XbB,h];simp only[Xr];rw[h2]
theorem XsY{rb n:Nat}{tv:Value}{L:List Xh}{h0:Xl}{c0:Xp}{u w0:World}(h:RSt rb tv L (n+1) h0 c0 u){t:Xh}(hZ:L[n]? =some t)(hl:XC (L.drop (n+1)))(hU:L.length<=1000000)(pP:∀t∈L,t.text.size<=1000000)(hc:Ctx w0 rb u):
 Calls Tryz.prog 139 #[.pointer (some ⟨rb,0,none⟩)] u (JM rb tv L (X3 h0 c0 XcZ (t.line,t.col) (L.drop (n+1))) u):=by
 obtain⟨S,R,C,A,hP,hS,hR,hC,hA⟩:=h;have hK:X3 h0 c0 XcZ (t.line,t.col) (L.drop (n+1))=if c0.aC=[] then .error (t.line,t.col) else Xr (XbB (L.drop (n+1))) λx r=> .ok ((h0,{c0 with aC:=QH (λq=>{q with aD:=q.aD++[x]}) c0.aC}),r):=by
  rw[X3,if_neg (by decide),if_neg (by decide),if_neg (by decide),if_neg (by decide),if_neg (by decide),if_pos rfl]
 have HB:=Xa hK;have hM:=Xa hP;have HL:=Xa hl;have HC:=Xa hc;have c6u:u.cell? ⟨rb,6,none⟩=some (.slice C.A C.l.length C.cap):=(hP.rd.cellr 4).trans rfl;have c1u:=hP.rd.cell1;have f1u:=hP.rd.free 1;have hG:=hP.rd.lt;have qB:=(lgS hZ).1;have qC:((n+1:Nat):Int)-1=(n:Int):=by omega
 have qD:(n:Int)<=1000000:=by omega
 clear hl hc hK hP;obtain⟨k,hk⟩:∃k,C.l.length=k:=⟨_,rfl⟩
 cases k with
 |zero=>
  have pG:C.l=[]:=List.eq_nil_of_length_eq_zero hk;have HE:=Xa (show X3 h0 c0 XcZ (t.line,t.col) (L.drop (n+1))=.error (t.line,t.col) by rw[HB.out,if_pos (by rw[<-hC,pG];rfl)]);have pH:=hM.out.rd.setAt n;have KF:=Xa (Xf9 pH hZ);have HG:=Xa (XX (w:=u) (World.grownBy.refl u (some rb)) (i:=1) (v:=.int .i64 (n:Int)));rw[hk] at c6u;clear pH hZ;go_enter Tryz.func139,Tryz.ntmps139;go_wp2_with fail;refine KF.out.mono ?_;rintro e w1 ⟨rfl,hb⟩;refine⟨rfl,Below.grown brf (Yj HG.out hb) (Nat.le_of_lt hG) (λk hk=>by injection hk with hk;omega),?_⟩;rw[HE.out]
 |succ m=>
  have KN:=Xa (ZO hM.out.rd HL.out hU)
  have HE:=Xa (show X3 h0 c0 XcZ (t.line,t.col) (L.drop (n+1))=Xr (XbB (L.drop (n+1))) λx r=> .ok ((h0,{c0 with aC:=QH (λq=>{q with aD:=q.aD++[x]}) c0.aC}),r) by
   rw[HB.out,if_neg];intro pI;rw[<-hC] at pI;have:=congrArg List.length pI
   simp[hk] at this)
  obtain⟨g,hg⟩:∃g,C.A=some ⟨g,0,none⟩:=by
   rcases Jf hM.out.aC.1 with ⟨_,_,h0⟩|⟨g,_,h1,_⟩
   ·omega
   ·exact⟨g,h1⟩
  rw[hk] at c6u;clear HB;go_enter Tryz.func139,Tryz.ntmps139;go_wp2_with fail;refine KN.out.mono ?_;rintro e w2 ⟨hY,hx⟩;have pA:=Xa hY;have HX:=Xa hx;clear hY hx c6u c1u f1u;cases hQ:XT (L.drop (n+1)) with
  |error q=>
   have h1:=HX.out;rw[hQ] at h1;simp only at h1;subst h1;refine⟨rfl,Below.grown brf pA.out (Nat.le_of_lt hG) (λk hk=>by injection hk with hk;omega),?_⟩;rw[HE.out,Xo4 hQ];rfl
  |ok v=>
   obtain⟨nm,r⟩:=v;have h1:=HX.out;rw[hQ] at h1;obtain⟨rfl,m2,h2,h3⟩:=h1;have pB:=Y7 (L.drop (n+1)) HL.out;rw[hQ] at pB;have H5:=Xa (show XC (L.drop m2) by rw[h2];exact pB.2);have pQ:=Xa h3;have HN:=Xa (And.intro hQ h2);clear HX h2 h3 hQ pB KN;go_upto_region 4 with fail;have KP:=Xa (XfC [1,2,3,4] (cur:=#[.string nm,.int .i64 0,.int .i64 0,.int .i64 0,.int .i64 0]) (ty:=72) pQ.out hM.out.low H5.out hU pP (HC.out.grown pA.out) (by intro o ho;simp at ho ⊢;omega) (by decide) 217 #[.pointer (some ⟨w2.heap.size,1,none⟩),.pointer (some ⟨w2.heap.size,2,none⟩),.pointer (some ⟨w2.heap.size,3,none⟩),.pointer (some ⟨w2.heap.size,4,none⟩)] rfl 4)
   go_wp2_with fail;refine KP.out.mono ?_;rintro e w3 ⟨pC,hx⟩;have pD:=Xa (XG pA.out pC);have HX:=Xa hx;obtain⟨sb,hH⟩:∃b,b=w2.heap.size:=⟨_,rfl⟩
   have pJ:=Xa hH;clear pC hx KP hH;rw[show([1,2,3,4]:List Nat).length=4 from rfl] at HX;rw[<-pJ.out] at HX;rw[<-pJ.out];cases hL:XY 4 (L.drop m2) with
   |error q=>
    have h1:=HX.out;rw[hL] at h1;simp only at h1;subst h1;refine⟨rfl,Below.grown brf pD.out (Nat.le_of_lt hG) (λk hk=>by injection hk with hk;omega),?_⟩;rw[HE.out,Xo3 HN.out.1 (by rw[<-HN.out.2];exact hL)];rfl
   |ok v=>
    obtain⟨l,r2⟩:=v;have h1:=HX.out;rw[hL] at h1;obtain⟨rfl,hsz,h2,m3,h3,h4⟩:=h1;have pK:=Qu 4 hL;obtain⟨a1,a2,a3,a4,rfl⟩:∃a1 a2 a3 a4,l=[a1,a2,a3,a4]:=by
     match l,pK with
     |[a1,a2,a3,a4],_=>exact⟨_,_,_,_,rfl⟩
    have pR:=Xa h4;have hN:=QZ 4 (L.drop m2) H5.out;rw[hL] at hN;have pS:=Xa (show XC (L.drop m3) by rw[h3];exact hN.2);clear hN;have hI:=Xa (And.intro (XsZ HN.out.1 (by rw[<-HN.out.2];exact hL)) (And.intro h3 hL));have h2:w3.heap[sb]? =some (.cells #[.string nm,.int .i64 a1,.int .i64 a2,.int .i64 a3,.int .i64 a4] 72 (0,0)):=h2;have HV:=Xa h2;clear HX h3 h4 hL pK h2;obtain⟨C0,q,hO⟩:∃C0 q,C.l=C0++[q]:=⟨C.l.dropLast,C.l.getLast (by intro h;rw[h] at hk;simp at hk),(List.dropLast_concat_getLast _).symm⟩
    have hm:m=C0.length:=by rw[hO,List.length_append] at hk;simp at hk;omega
    subst hm;obtain⟨i8,pL,pM,pN,pO⟩:=info_parts Xts;have HI:=Xa (And.intro pL (And.intro pM (And.intro pN pO)));have hlen:n+2<=m3:=by
     have e1:=Ym HN.out.1;have e2:=Zt 4 _ _ _ hI.out.2.2;have e3:=congrArg List.length hI.out.2.1;have e4:=congrArg List.length HN.out.2;simp only[List.length_drop] at e1 e2 e3 e4;omega
    have hD:=Xa (hM.out.kept pD.out pR.out (by omega));have pT:=(hM.out.aD hO).2;have pU:=hM.out.aC.2;obtain⟨qE,hY,-,hV⟩:=hD.out.lastCue hO hg;have qF:m3<=1000000:=by obtain⟨_,_,_,_,_,h9⟩:=pS.out.head;omega
    have pV:=hD.out.rd.lt;have c6z:w3.cell? ⟨rb,6,none⟩=some (.slice (some ⟨g,0,none⟩) (C0.length+1) C.cap):=((hD.out.rd.cellr 4).trans rfl).trans (by show some (Value.slice C.A C.l.length C.cap)=_;rw[hk,hg]);have qG:((C0.length+1:Nat):Int)-1=(C0.length:Int):=by omega
    have qH:(0:Int)<=(C0.length:Int):=by omega
    have qI:(C0.length:Int)<((C0.length+1:Nat):Int):=by omega
    clear pL pM pN pO hV;go_upto_region 5 with fail;go_region;go_wp2_with fail;obtain⟨y,hy,hT⟩:∃y:World,y=w3.drew/\Below w3.heap.size w3 y:=⟨_,rfl,brf.drew⟩
    rw[<-hy];have hJ:=Xa (hD.out.kept (XD hT) (hD.out.rd.more hT) nr);have pW:=Xa (Yj pD.out hT);obtain⟨-,pC,-,hE⟩:=hJ.out.lastCue hO hg;have qJ:y.cell? ⟨g,C0.length*7+4,none⟩=some (.slice q.aD.A q.aD.l.length q.aD.cap):=hE 4 _ rfl;have hH:=Joins.cell_of_block ((hT.block sb hsz).trans HV.out);have pX:sb<y.heap.size:=Nat.lt_of_lt_of_le hsz hT.size;have pG:=hH 0;have qK:=hH 1;have qL:=hH 2;have qM:=hH 3;have qN:=hH 4;have pY:=hJ.out.rd.lt;clear hH hy hT hE c6z hY hsz;go_region_law ((refine step_append_lies _ (by rfl) (.tmp 47) (.tmp 49) 68 (by rfl) (rb+1) 72 i8 (.agg #[.string ⟨#[]⟩,.int .i64 0,.int .i64 0,.int .i64 0,.int .i64 0]) 5 48 Tryz.underlying68 HI.out.1 HI.out.2.1 HI.out.2.2.1 HI.out.2.2.2 rfl (by omega) q.aD.val q.aD.l.length (q.aD.l.flatMap Xw.cells) (by rfl) ((hJ.out.aD hO).1.alloc _) ⟨y.heap.size,0,none⟩ 1 1 (Xw.cells ⟨nm,a1,a2,a3,a4⟩) (by go_simp) rfl (World.news_of_block (heap_alloc_new y _)) (λu hu=>by simp[Xw.cells] at hu;rcases hu with rfl|rfl|rfl|rfl|rfl<;>rfl) (by omega) (by unfold maxLen;omega) (by omega) (by simp;omega) (y.heap.size+1) (by simp) ?_;intro g4 cap4 w4 hW pE pZ qA;obtain⟨⟨cv,qO⟩,qP,hX,pF⟩:=RIn.addMove hJ.out hO hg hW (Q1 pE) pZ (by omega)))
    all_goals
     go_end0;refine⟨((Below.grown (Below.refl rb u) pW.out (Nat.le_of_lt hG) (λk hk=>by injection hk with hk;omega))).trans (hX.mono (by omega)),?_⟩;rw[HE.out,hI.out.1];refine⟨rfl,m3,hI.out.2.1,S,R,_,A,pF,hS,hR,?_,hA⟩;rw[<-hC,hO,List.map_append,List.map_append,List.map_singleton,List.map_singleton,Q5];rfl
end Go.Proofs.YtdcahhbipeaggaaGreatDoor
namespace Go.Proofs.YtdcahhbipeaggaaGreatDoor
open Go.RowKit
def Qm(s:Xd)(A:Option Addr)(cap:Nat)(x:Xo):Xd:={s with aE:=⟨A,cap,s.aE.l++[x]⟩}
section
variable {rb n:Nat} {tv:Value} {L:List Xh} {nm:ByteArray} {ht:Int} {S:Sl Xd} {R:Sl Xt} {C:Sl Xn} {A:Sl (ByteArray×ByteArray)} {w:World} {S0:List Xd} {s:Xd}
theorem Zz(hS:S.l=S0++[s]):XE S R C A=(⟨57,13,S.val,S.l.length,S.l.flatMap Xd.cells⟩::⟨67,4,R.val,R.l.length,R.l.flatMap Xt.cells⟩::⟨70,7,C.val,C.l.length,C.l.flatMap Xn.cells⟩::⟨73,2,A.val,A.l.length,A.l.flatMap X5⟩::(S0.flatMap Xd.rows++[⟨3,1,s.aG.val,s.aG.l.length,s.aG.l.flatMap Xj⟩,⟨86,7,s.aF.val,s.aF.l.length,s.aF.l.flatMap Xu.cells⟩]))++⟨88,3,s.aE.val,s.aE.l.length,s.aE.l.flatMap Xo.cells⟩::(C.l.flatMap Xn.rows):=by
 simp[XE,hS,Xd.rows]
theorem RIn.aE(h:RIn rb tv L n nm ht S R C A w)(hS:S.l=S0++[s]):w.ownsRow (rb+1) 88 3 s.aE.val s.aE.l.length (s.aE.l.flatMap Xo.cells)/\s.aE.l.length<=n:=by
 have hm:(⟨88,3,s.aE.val,s.aE.l.length,s.aE.l.flatMap Xo.cells⟩:Row)∈XE S R C A:=by rw[Zz hS];simp
 exact⟨h.rows.all _ hm,h.cnt _ hm⟩
theorem RIn.addBrick(h:RIn rb tv L n nm ht S R C A w)(hS:S.l=S0++[s]){g:Nat}(hA:S.A=some ⟨g,0,none⟩){w':World}{g4 cap4:Nat}{x:Xo}{o:Obj}
 (hI:w'.ownsRow (rb+1) 88 3 (.slice (some ⟨g4,0,none⟩) (s.aE.l.length+1) cap4) (s.aE.l.length+1) (s.aE.l.flatMap Xo.cells++x.cells)) (hJ:(w.alloc o).grownBy w' s.aE.val.ownBlock) (hO:s.aE.val.ownBlock=some g4\/g4=w.heap.size+1) (hn:s.aE.l.length+1<=n):
 (∃v,w'.cell? ⟨g,S0.length*13+12,none⟩=some v)/\w'.frozen? ⟨g,S0.length*13+12,none⟩=false/\Below (rb+1) w (w'.setCell ⟨g,S0.length*13+12,none⟩ (.slice (some ⟨g4,0,none⟩) (s.aE.l.length+1) cap4))/\
 RIn rb tv L n nm ht ⟨S.A,S.cap,S0++[Qm s (some ⟨g4,0,none⟩) cap4 x]⟩ R C A (w'.setCell ⟨g,S0.length*13+12,none⟩ (.slice (some ⟨g4,0,none⟩) (s.aE.l.length+1) cap4)):=by
 obtain⟨hP,hQ,⟨cur,hN⟩,hE⟩:=h.lastSet hS hA;have hC:=h.rows;rw[Zz hS] at hC;have hK:∀k,s.aE.val.ownBlock=some k->k≠g:=by
  have h1:=h.rows.sep;rw[Zz hS,List.cons_append,List.pairwise_cons] at h1;have h2:=h1.1 ⟨88,3,s.aE.val,s.aE.l.length,s.aE.l.flatMap Xo.cells⟩ (by simp);intro k hk e;subst e;exact h2 k (by rw[Sl.val,hA];rfl) hk
 have hG:w'.heap[g]? =some (.cells cur 57 (0,0)):=by
  rw[hJ.block g (by simp;omega) (λe=>hK g e.symm rfl),heap_alloc_old w o hQ];exact hN
 have hL:Below (rb+1) w w':=by
  have hR:=World.ownsRow.lt (h.aE hS).1;exact Below.grown ((Below.refl (rb+1) w).alloc (by have:=h.rd.lt;omega) o) hJ (by have:=h.rd.lt;simp;omega) (λk hk=>(hR k hk).1)
 have hD:Below (rb+1) w (w'.setCell ⟨g,S0.length*13+12,none⟩ (.slice (some ⟨g4,0,none⟩) (s.aE.l.length+1) cap4)):=hL.setCell (p:=⟨g,S0.length*13+12,none⟩) hP _;have hM:w'.cell? ⟨g,S0.length*13+12,none⟩=some s.aE.val:=(World.cell?_of_block (a:=⟨g,S0.length*13+12,none⟩) (hG.trans hN.symm)).trans (hE 12 _ rfl);refine⟨⟨_,hM⟩,Xe hG _,hD,(show Ya nm ht ⟨S.A,S.cap,S0++[Qm s (some ⟨g4,0,none⟩) cap4 x]⟩ R C A=Ya nm ht S R C A by simp[Ya,Sl.val,hS])▸h.rd.low h.low hD,?_,h.low,?_⟩
 ·have ha:Rows (rb+1) (w.alloc o) _:=hC.kept (row:=none) (World.grownBy_alloc w o none) (λk hk=>by cases hk)
  have h1:=ha.turn (r':=⟨88,3,.slice (some ⟨g4,0,none⟩) (s.aE.l.length+1) cap4,s.aE.l.length+1,s.aE.l.flatMap Xo.cells++x.cells⟩) hI hJ (λk hk=>by
   have hT:g4=k:=by simpa[Value.ownBlock] using hk
   subst hT;rcases hO with h5|h5
   ·exact Or.inl h5
   ·exact Or.inr (by simp;omega))
  have hH:=(h1.all ⟨57,13,S.val,S.l.length,S.l.flatMap Xd.cells⟩ (by simp))
  have h2:=Rows.turn (A:=[]) (r:=⟨57,13,S.val,S.l.length,S.l.flatMap Xd.cells⟩) h1 (r':=⟨57,13,S.val,S.l.length,(S.l.flatMap Xd.cells).set (S0.length*13+12) (.slice (some ⟨g4,0,none⟩) (s.aE.l.length+1) cap4)⟩) (by
   unfold Row.lies at hH ⊢;simp only at hH ⊢;rw[Sl.val,hA] at hH ⊢
   exact XlE hH _) (by
   rw[Sl.val,hA]
   exact XX (World.grownBy.refl _ _)) (λk hk=>Or.inl hk)
  have he:(S.l.flatMap Xd.cells).set (S0.length*13+12) (.slice (some ⟨g4,0,none⟩) (s.aE.l.length+1) cap4)=(S0++[Qm s (some ⟨g4,0,none⟩) cap4 x]).flatMap Xd.cells:=by
   rw[hS];exact Xi5 XbI S0 (by simp[Qm,Xd.cells])
  rw[he] at h2;rw[Zz (S0:=S0) (s:=Qm s (some ⟨g4,0,none⟩) cap4 x) rfl];simpa[Qm,Sl.val,hS] using h2
 ·intro r hr;rw[Zz (S0:=S0) (s:=Qm s (some ⟨g4,0,none⟩) cap4 x) rfl] at hr;have h3:=h.cnt;rw[Zz hS] at h3;simp only[List.mem_append,List.mem_cons,Qm,List.cons_append] at hr h3;rcases hr with rfl|hr
  ·have:=h3 _ (Or.inl rfl);simp only[hS,List.length_append] at this ⊢;exact this
  ·rcases hr with rfl|hr
   ·exact h3 _ (by simp)
   rcases hr with rfl|hr
   ·exact h3 _ (by simp)
   rcases hr with rfl|hr
   ·exact h3 _ (by simp)
   rcases hr with hr|hr
   ·rcases hr with hr|rfl|hr
    ·exact h3 r (by simp only[hr];simp)
    ·exact h3 _ (by simp)
    ·rcases hr with rfl|hr
     ·exact h3 _ (by simp)
     ·cases hr
   ·rcases hr with rfl|hr
    ·simpa using hn
    ·exact h3 r (by simp only[hr];simp)
end
end Go.Proofs.YtdcahhbipeaggaaGreatDoor
namespace Go.Proofs.YtdcahhbipeaggaaGreatDoor
open Go.RowKit
theorem XrN:(Tryz.prog.info? 88).map (λi=>(i.zero,i.size,i.bytes))=some (some (.agg #[.string ⟨#[]⟩,.int .i64 0,.int .i64 0]),3,32):=by kernel_rfl
theorem XnZ{ts:List Xh}{q:Int×Int}(h:XT ts=.error q):JJ ts=.error q:=by rw[JJ,h];rfl
theorem XnY{ts r:List Xh}{nm:ByteArray}{q:Int×Int}(h:XT ts=.ok (nm,r))(h2:XY 2 r=.error q):JJ ts=.error q:=by rw[JJ,h];simp only[Xr];rw[h2]
theorem Xsf{ts r r2:List Xh}{nm:ByteArray}{a:List Int}(h:XT ts=.ok (nm,r))(h2:XY 2 r=.ok (a,r2)):JJ ts=.ok (⟨nm,nth a 0,nth a 1⟩,r2):=by rw[JJ,h];simp only[Xr];rw[h2]
theorem Xse{rb n:Nat}{tv:Value}{L:List Xh}{h0:Xl}{c0:Xp}{u w0:World}(h:RSt rb tv L (n+1) h0 c0 u){t:Xh}(pL:L[n]? =some t)(hl:XC (L.drop (n+1)))(hJ:L.length<=1000000)(pM:∀t∈L,t.text.size<=1000000)(hc:Ctx w0 rb u):
 Calls Tryz.prog 137 #[.pointer (some ⟨rb,0,none⟩)] u (JM rb tv L (X3 h0 c0 Xat (t.line,t.col) (L.drop (n+1))) u):=by
 obtain⟨S,R,C,A,hU,hS,hR,hC,hA⟩:=h;have hG:X3 h0 c0 Xat (t.line,t.col) (L.drop (n+1))=if h0.aA=[] then .error (t.line,t.col) else Xr (JJ (L.drop (n+1))) λx r=> .ok (({h0 with aA:=QH (λs=>{s with aE:=s.aE++[x]}) h0.aA},c0),r):=by
  rw[X3,if_neg (by decide),if_neg (by decide),if_neg (by decide),if_pos rfl]
 have KL:=Xa (Xnr hU pL hJ);have HB:=Xa hG;have hO:=Xa hU;have HL:=Xa hl;have HC:=Xa hc;clear hl hc hG hU;obtain⟨k,hk⟩:∃k,S.l.length=k:=⟨_,rfl⟩
 cases k with
 |zero=>
  have hV:S.l=[]:=List.eq_nil_of_length_eq_zero hk;have HE:=Xa (show X3 h0 c0 Xat (t.line,t.col) (L.drop (n+1))=.error (t.line,t.col) by rw[HB.out,if_pos (by rw[<-hS,hV];rfl)]);go_enter Tryz.func137,Tryz.ntmps137;go_wp2_with fail;refine KL.out.mono ?_;rintro e w1 ⟨h1,-⟩;obtain⟨hg,rfl⟩:=h1 hV;refine⟨rfl,Below.grown brf hg (Nat.le_of_lt hO.out.rd.lt) (λk hk=>by injection hk with hk;omega),?_⟩;rw[HE.out]
 |succ m=>
  go_enter Tryz.func137,Tryz.ntmps137;go_wp2_with fail;refine KL.out.mono ?_;rintro e w1 ⟨-,h2⟩;obtain⟨g,hg,rfl,z,rfl⟩:=h2 m hk;have KN:=Xa (ZO (hO.out.rd.more z.below) HL.out hJ)
  have HE:=Xa (show X3 h0 c0 Xat (t.line,t.col) (L.drop (n+1))=Xr (JJ (L.drop (n+1))) λx r=> .ok (({h0 with aA:=QH (λs=>{s with aE:=s.aE++[x]}) h0.aA},c0),r) by
   rw[HB.out,if_neg];intro pC;rw[<-hS] at pC;have:=congrArg List.length pC
   simp[hk] at this)
  have pD:=World.grownBy.refl u (some rb)|>λq=>Yj q z.below;have hK:=hO.out.rd.lt;clear h2 HB KL;go_wp2_with fail;refine KN.out.mono ?_;rintro e w2 ⟨hW,hx⟩;have hX:=Xa (XG pD hW);have HX:=Xa hx;clear hW hx pD;cases hP:XT (L.drop (n+1)) with
  |error q=>
   have h1:=HX.out;rw[hP] at h1;simp only at h1;subst h1;refine⟨rfl,Below.grown brf hX.out (Nat.le_of_lt hK) (λk hk=>by injection hk with hk;omega),?_⟩;rw[HE.out,XnZ hP];rfl
  |ok v=>
   obtain⟨nm,r⟩:=v;have h1:=HX.out;rw[hP] at h1;obtain⟨rfl,m2,h2,h3⟩:=h1;have hY:=Y7 (L.drop (n+1)) HL.out;rw[hP] at hY;have H5:=Xa (show XC (L.drop m2) by rw[h2];exact hY.2);have pN:=Xa h3;have HN:=Xa (And.intro hP h2);clear HX h2 h3 hP hY KN;go_upto_region 2 with fail;have KP:=Xa (XfC [1,2] (cur:=#[.string nm,.int .i64 0,.int .i64 0]) (ty:=88) pN.out hO.out.low H5.out hJ pM (HC.out.grown hX.out) (by intro o ho;simp at ho ⊢;omega) (by decide) 217 #[.pointer (some ⟨w2.heap.size,1,none⟩),.pointer (some ⟨w2.heap.size,2,none⟩)] rfl 2);go_wp2_with fail;refine KP.out.mono ?_
   rintro e w3 ⟨pE,hx⟩;have hZ:=Xa (XG hX.out pE);have HX:=Xa hx;obtain⟨sb,hL⟩:∃b,b=w2.heap.size:=⟨_,rfl⟩
   have pF:=Xa hL;clear pE hx KP hL;rw[show([1,2]:List Nat).length=2 from rfl] at HX;rw[<-pF.out] at HX;rw[<-pF.out];cases hH:XY 2 (L.drop m2) with
   |error q=>
    have h1:=HX.out;rw[hH] at h1;simp only at h1;subst h1;refine⟨rfl,Below.grown brf hZ.out (Nat.le_of_lt hK) (λk hk=>by injection hk with hk;omega),?_⟩;rw[HE.out,XnY HN.out.1 (by rw[<-HN.out.2];exact hH)];rfl
   |ok v=>
    obtain⟨l,r2⟩:=v;have h1:=HX.out;rw[hH] at h1;obtain⟨rfl,hsz,h2,m3,h3,h4⟩:=h1;have pG:=Qu 2 hH;obtain⟨a1,a2,a3,a4,a5,a6,rfl⟩:∃a1 a2,l=[a1,a2]:=by
     match l,pG with
     |[a1,a2],_=>exact⟨_,_,rfl⟩
    have pO:=Xa h4;have hM:=QZ 2 (L.drop m2) H5.out;rw[hH] at hM;have pP:=Xa (show XC (L.drop m3) by rw[h3];exact hM.2);clear hM;have hD:=Xa (And.intro (Xsf HN.out.1 (by rw[<-HN.out.2];exact hH)) (And.intro h3 hH));have h2:w3.heap[sb]? =some (.cells #[.string nm,.int .i64 a1,.int .i64 a2] 88 (0,0)):=h2;have HV:=Xa h2;clear HX h3 h4 hH pG h2;obtain⟨S0,s,hN⟩:∃S0 s,S.l=S0++[s]:=⟨S.l.dropLast,S.l.getLast (by intro h;rw[h] at hk;simp at hk),(List.dropLast_concat_getLast _).symm⟩
    have hm:m=S0.length:=by rw[hN,List.length_append] at hk;simp at hk;omega
    subst hm;obtain⟨i8,pH,pI,pJ,pK⟩:=info_parts XrN;have HI:=Xa (And.intro pH (And.intro pI (And.intro pJ pK)));have hlen:n+2<=m3:=by
     have e1:=Ym HN.out.1;have e2:=Zt 2 _ _ _ hD.out.2.2;have e3:=congrArg List.length hD.out.2.1;have e4:=congrArg List.length HN.out.2;simp only[List.length_drop] at e1 e2 e3 e4;omega
    have hE:=Xa (hO.out.kept hZ.out pO.out (by omega));have hit:=(hE.out.aE hN).2;have pQ:=(hO.out.aE hN).2;obtain⟨pT,hW,-,hI⟩:=hE.out.lastSet hN hg;have pU:w3.cell? ⟨g,S0.length*13+12,none⟩=some (.slice s.aE.A s.aE.l.length s.aE.cap):=hI 12 _ rfl;have pV:m3<=1000000:=by obtain⟨_,_,_,_,_,h9⟩:=pP.out.head;omega
    have hL:=Joins.cell_of_block HV.out;have hV:=hL 0;have pW:=hL 1;have pX:=hL 2;clear pH pI pJ pK hI hL;go_wp2_with fail;go_region_law ((refine step_append_lies _ (by rfl) (.tmp 18) (.tmp 20) 55 (by rfl) (rb+1) 88 i8 (.agg #[.string ⟨#[]⟩,.int .i64 0,.int .i64 0]) 3 32 Tryz.underlying55 HI.out.1 HI.out.2.1 HI.out.2.2.1 HI.out.2.2.2 rfl (by omega) s.aE.val s.aE.l.length (s.aE.l.flatMap Xo.cells) (by rfl) ((hE.out.aE hN).1.alloc _) ⟨w3.heap.size,0,none⟩ 1 1 (Xo.cells ⟨nm,a1,a2⟩) (by go_simp) rfl (World.news_of_block (heap_alloc_new w3 _)) (λu hu=>by simp[Xo.cells] at hu;rcases hu with rfl|rfl|rfl<;>rfl) (by omega) (by unfold maxLen;omega) (by omega) (by simp;omega) (w3.heap.size+1) (by simp) ?_;intro g4 cap4 w4 hQ pA pR pS;obtain⟨⟨cv,pY⟩,pZ,hT,pB⟩:=RIn.addBrick hE.out hN hg hQ (Q1 pA) pR (by omega)))
    all_goals
     go_end0;refine⟨((Below.grown (Below.refl rb u) hZ.out (Nat.le_of_lt hK) (λk hk=>by injection hk with hk;omega))).trans (hT.mono (by omega)),?_⟩;rw[HE.out,hD.out.1];refine⟨rfl,m3,hD.out.2.1,_,R,C,A,pB,?_,hR,hC,hA⟩;rw[<-hS,hN,List.map_append,List.map_append,List.map_singleton,List.map_singleton,Q5];rfl
end Go.Proofs.YtdcahhbipeaggaaGreatDoor
namespace Go.Proofs.YtdcahhbipeaggaaGreatDoor
open Go.RowKit
theorem XqQ{ts:List Xh}{q:Int×Int}(h:XT ts=.error q):setR ts=.error q:=by rw[setR,h];rfl
theorem XqP{ts r:List Xh}{nm:ByteArray}{q:Int×Int}(h:XT ts=.ok (nm,r))(h2:XY 9 r=.error q):setR ts=.error q:=by rw[setR,h];simp only[Xr];rw[h2]
theorem XqR{ts r r2:List Xh}{nm:ByteArray}{a:List Int}{q:Int×Int}(h:XT ts=.ok (nm,r))(h2:XY 9 r=.ok (a,r2))(h3:Zy r2.length r2=.error q):setR ts=.error q:=by rw[setR,h];simp only[Xr];rw[h2];simp only;rw[h3]
theorem XuC{ts r r2 r3:List Xh}{nm:ByteArray}{a l:List Int}(h:XT ts=.ok (nm,r))(h2:XY 9 r=.ok (a,r2))(h3:Zy r2.length r2=.ok (l,r3)):setR ts=.ok (⟨nm,nth a 0,nth a 1,nth a 2,nth a 3,l,nth a 4,nth a 5,nth a 6,nth a 7,nth a 8,[],[]⟩,r3):=by rw[setR,h];simp only[Xr];rw[h2];simp only;rw[h3]
theorem Xi0{w w':World}{r:Option Nat}(h:w.grownBy w' r):w.grownBy w'.drew r:=⟨h.os,h.tape,h.output,h.size,h.block⟩
theorem Qy{α:Type}{k:Nat}{l:List α}(h:l.length=k+1):∃a t,l=a::t/\t.length=k:=by
 cases l with
 |nil=>cases h
 |cons a t=>exact⟨a,t,rfl,by simpa using h⟩
theorem XuD{nm:ByteArray}{ty:TypeId}{x:Option Obj}(a:List Int)(hC:a.length=9)(h:x=some (.cells (Xdj #[.string nm,.int .i64 0,.int .i64 0,.int .i64 0,.int .i64 0,.slice none 0 0,.int .i64 0,.int .i64 0,.int .i64 0,.int .i64 0,.int .i64 0,.slice none 0 0,.slice none 0 0] [1,2,3,4,6,7,8,9,10] a) ty (0,0))):x=some (.cells (Xij nm a (.slice none 0 0)) ty (0,0)):=by
 obtain⟨a1,t1,rfl,h1⟩:=Qy hC;obtain⟨a2,t2,rfl,h2⟩:=Qy h1;obtain⟨a3,t3,rfl,h3⟩:=Qy h2;obtain⟨a4,t4,rfl,h4⟩:=Qy h3;obtain⟨a5,t5,rfl,h5⟩:=Qy h4;obtain⟨a6,t6,rfl,h6⟩:=Qy h5;obtain⟨a7,t7,rfl,h7⟩:=Qy h6;obtain⟨a8,t8,rfl,h8⟩:=Qy h7;obtain⟨a9,t9,rfl,h9⟩:=Qy h8;obtain rfl:=List.eq_nil_of_length_eq_zero h9;rw[XsO] at h;exact h
theorem XdF{G:Prop}{md:Region.Mode}{a:Act}{w:World}(h:G)(_:wpAny Tryz.prog md #[] (λ_ _ _=>True) 0 #[] a w):G:=h
theorem Xwh:(Tryz.prog.info? 3).map (λi=>(i.zero,i.size,i.bytes))=some (some (.int .i64 0),1,8):=by kernel_rfl
theorem XuV:(Tryz.prog.info? 57).map (λi=>(i.zero,i.size,i.bytes))=some (some (.agg #[.string ⟨#[]⟩,.int .i64 0,.int .i64 0,.int .i64 0,.int .i64 0,.slice none 0 0,.int .i64 0,.int .i64 0,.int .i64 0,.int .i64 0,.int .i64 0,.slice none 0 0,.slice none 0 0]),13,160):=by kernel_rfl
theorem XuB{rb n:Nat}{tv:Value}{L:List Xh}{h0:Xl}{c0:Xp}{u w0:World}(h:RSt rb tv L n h0 c0 u)(p:Int×Int)(hl:XC (L.drop n))(hK:L.length<=1000000)(pO:∀t∈L,t.text.size<=1000000)(hc:Ctx w0 rb u):
 Calls Tryz.prog 135 #[.pointer (some ⟨rb,0,none⟩)] u (JM rb tv L (X3 h0 c0 Xjp p (L.drop n)) u):=by
 obtain⟨S,R,C,A,pD,hS,hR,hC,hA⟩:=h
 have HE:=Xa (show X3 h0 c0 Xjp p (L.drop n)=Xr (setR (L.drop n)) λx r=> .ok (({h0 with aA:=h0.aA++[x]},c0),r) by
  rw[X3,if_neg (by decide),if_pos rfl])
 have hP:=Xa pD;have HL:=Xa hl;have HC:=Xa hc;have hI:=pD.rd.lt;clear hl hc pD;have KN:=Xa (ZO hP.out.rd HL.out hK);go_enter Tryz.func135,Tryz.ntmps135;go_wp2_with fail;refine KN.out.mono ?_;rintro e w2 ⟨pP,hx⟩;have hX:=Xa pP;have HX:=Xa hx;clear pP hx;cases hO:XT (L.drop n) with
 |error q=>
  have h1:=HX.out;rw[hO] at h1;simp only at h1;subst h1;refine⟨rfl,Below.grown brf hX.out (Nat.le_of_lt hI) (λk hk=>by injection hk with hk;omega),?_⟩;rw[HE.out,XqQ hO];rfl
 |ok v=>
  obtain⟨nm,r⟩:=v;have h1:=HX.out;rw[hO] at h1;obtain⟨rfl,m2,h2,h3⟩:=h1;have hL:=Y7 (L.drop n) HL.out;rw[hO] at hL;have H5:=Xa (show XC (L.drop m2) by rw[h2];exact hL.2);have qI:=Xa h3;have HN:=Xa (And.intro hO h2);clear HX h2 h3 hO hL KN;go_upto_region 1 with fail;have KP:=Xa (XfC [1,2,3,4,6,7,8,9,10] (cur:=#[.string nm,.int .i64 0,.int .i64 0,.int .i64 0,.int .i64 0,.slice none 0 0,.int .i64 0,.int .i64 0,.int .i64 0,.int .i64 0,.int .i64 0,.slice none 0 0,.slice none 0 0]) (ty:=57) qI.out hP.out.low H5.out hK pO (HC.out.grown hX.out) (by intro o ho;simp at ho ⊢;omega) (by decide) 217 #[.pointer (some ⟨w2.heap.size,1,none⟩),.pointer (some ⟨w2.heap.size,2,none⟩),.pointer (some ⟨w2.heap.size,3,none⟩),.pointer (some ⟨w2.heap.size,4,none⟩),.pointer (some ⟨w2.heap.size,6,none⟩),.pointer (some ⟨w2.heap.size,7,none⟩),.pointer (some ⟨w2.heap.size,8,none⟩),.pointer (some ⟨w2.heap.size,9,none⟩),.pointer (some ⟨w2.heap.size,10,none⟩)] rfl 9)
  go_wp2_with fail;refine KP.out.mono ?_;rintro e w3 ⟨pQ,hx⟩;have pE:=Xa (XG hX.out pQ);have HX:=Xa hx;obtain⟨sb,hD⟩:∃b,b=w2.heap.size:=⟨_,rfl⟩
  have pF:=Xa hD;clear pQ hx KP hD;rw[show([1,2,3,4,6,7,8,9,10]:List Nat).length=9 from rfl] at HX;rw[<-pF.out] at HX;rw[<-pF.out];cases hJ:XY 9 (L.drop m2) with
  |error q=>
   have h1:=HX.out;rw[hJ] at h1;simp only at h1;subst h1;refine⟨rfl,Below.grown brf pE.out (Nat.le_of_lt hI) (λk hk=>by injection hk with hk;omega),?_⟩;rw[HE.out,XqP HN.out.1 (by rw[<-HN.out.2];exact hJ)];rfl
  |ok v=>
   obtain⟨a,r2⟩:=v;have h1:=HX.out;rw[hJ] at h1;obtain⟨rfl,hsz,h2,m3,h3,h4⟩:=h1;have pR:=Qu 9 hJ;have hQ:=XuD a pR h2;have qJ:=Xa h4;have hM:=QZ 9 (L.drop m2) H5.out;rw[hJ] at hM;have pS:=Xa (show XC (L.drop m3) by rw[h3];exact hM.2);have hlen:n+1<=m3:=by
    have e1:=Ym HN.out.1;have e2:=Zt 9 _ _ _ hJ;have e3:=congrArg List.length h3;have e4:=congrArg List.length HN.out.2;obtain⟨_,_,_,_,_,h9⟩:=pS.out.head;simp only[List.length_drop] at e1 e2 e3 e4;omega
   have hT:=Xa (hP.out.kept pE.out qJ.out (by omega));have pG:u.heap.size<=sb:=by rw[pF.out];exact hX.out.size
   have qK:=Xa (show XeJ rb sb tv L h0.name h0.aH S R C A u nm a (.slice none ([]:List Int).length 0) [] m3 w3 from
    ⟨hT.out,hT.out.rows.nil_cons 3 1,hQ,pE.out,λk hk=>by simp[Value.ownBlock] at hk,Nat.zero_le _⟩)
   have hY:=Xa (And.intro (show XY 9 r=.ok (a,r2) by rw[<-HN.out.2];exact hJ) h3)
   have pH:=Xa (show ∀r∈XE S R C A,r.v.ownBlock≠some sb from λr hr e=>by
    have h1:=World.ownsRow.lt (hP.out.rows.all r hr) sb e
    omega)
   have pT:sb≠rb:=by omega
   clear hM HX h2 h3 h4 hJ pR hQ;obtain⟨i8,pU,pV,pI,pW⟩:=info_parts Xwh;have HI:=Xa (And.intro pU (And.intro pV (And.intro pI pW)));clear pU pV pI pW;go_wp2_with fail;go_loopw [3] (λv wr=>∃(l:List Int) (lA:Option Addr) (lc m:Nat) (more:Bool),v=.bool more/\Hid (n+1+l.length<=m)/\Hid (XeJ rb sb tv L h0.name h0.aH S R C A u nm a (.slice lA l.length lc) l m wr)/\Hid (XC (L.drop m))/\Hid (XcV (L.drop m3).length (L.drop m3) l more (L.drop m))) (λ_ wr=>L.length-numAt wr ⟨rb,1,none⟩)
   case atStart=>exact⟨[],none,0,m3,true,rfl,Xa (by simpa using hlen),qK,pS,Xa (XcV.start _)⟩
   case round=>
    obtain⟨l,lA,lc,m,more,rfl,pX,hE,h5,pJ⟩:=hrel;cases more with
    |false=>
     obtain⟨i9,pY,pZ,qA,qB⟩:=info_parts XuV;have hZ:=Xa (And.intro pY (And.intro pZ (And.intro qA qB)));have pK:=pX.out;have qC:S.l.length<=n:=hP.out.cnt ⟨57,13,S.val,S.l.length,S.l.flatMap Xd.cells⟩ (by unfold XE;exact List.mem_cons_self);have qL:m<=1000000:=by obtain⟨_,_,_,_,_,h9⟩:=h5.out.head;omega
     have qM:=hE.out.rin.rd.lt;have c6:wr.cell? ⟨rb,4,none⟩=some (.slice S.A S.l.length S.cap):=(hE.out.rin.rd.cellr 2).trans rfl;have hD:=Joins.cell_of_block hE.out.box;have qW:wr.cell? ⟨sb,0,none⟩=some (.string nm):=(hD 0).trans rfl;have qX:wr.cell? ⟨sb,1,none⟩=some (.int .i64 (nth a 0)):=(hD 1).trans rfl;have qY:wr.cell? ⟨sb,2,none⟩=some (.int .i64 (nth a 1)):=(hD 2).trans rfl;have qZ:wr.cell? ⟨sb,3,none⟩=some (.int .i64 (nth a 2)):=(hD 3).trans rfl;have rA:wr.cell? ⟨sb,4,none⟩=some (.int .i64 (nth a 3)):=(hD 4).trans rfl;have rB:wr.cell? ⟨sb,5,none⟩=some (.slice lA l.length lc):=(hD 5).trans rfl
     have rC:wr.cell? ⟨sb,6,none⟩=some (.int .i64 (nth a 4)):=(hD 6).trans rfl;have rD:wr.cell? ⟨sb,7,none⟩=some (.int .i64 (nth a 5)):=(hD 7).trans rfl;have pI:wr.cell? ⟨sb,8,none⟩=some (.int .i64 (nth a 6)):=(hD 8).trans rfl;have qA:wr.cell? ⟨sb,9,none⟩=some (.int .i64 (nth a 7)):=(hD 9).trans rfl;have qN:wr.cell? ⟨sb,10,none⟩=some (.int .i64 (nth a 8)):=(hD 10).trans rfl;have qO:wr.cell? ⟨sb,11,none⟩=some (.slice none 0 0):=(hD 11).trans rfl;have qP:wr.cell? ⟨sb,12,none⟩=some (.slice none 0 0):=(hD 12).trans rfl;clear pY pZ qB hD;go_wp2_with fail;go_region_law ((refine step_append_lies _ (by rfl) (.tmp 36) (.tmp 38) 22 (by rfl) (rb+1) 57 i9 (.agg #[.string ⟨#[]⟩,.int .i64 0,.int .i64 0,.int .i64 0,.int .i64 0,.slice none 0 0,.int .i64 0,.int .i64 0,.int .i64 0,.int .i64 0,.int .i64 0,.slice none 0 0,.slice none 0 0]) 13 160 Tryz.underlying22 hZ.out.1 hZ.out.2.1 hZ.out.2.2.1 hZ.out.2.2.2 rfl (by omega) S.val S.l.length (S.l.flatMap Xd.cells) (by rfl) (hE.out.rin.aA.alloc _) ⟨wr.heap.size,0,none⟩ 1 1 (Xd.cells ⟨nm,nth a 0,nth a 1,nth a 2,nth a 3,⟨lA,lc,l⟩,nth a 4,nth a 5,nth a 6,nth a 7,nth a 8,⟨none,0,[]⟩,⟨none,0,[]⟩⟩) (by go_simp) rfl (World.news_of_block (heap_alloc_new wr _)) (λu hu=>by simp[Xd.cells] at hu;rcases hu with rfl|rfl|rfl|rfl|rfl|rfl|rfl|rfl|rfl|rfl|rfl|rfl|rfl<;>rfl) (by omega) (by unfold maxLen;omega) (by omega) (by simp;omega) (wr.heap.size+1) (by simp) ?_;intro g4 cap4 w6 hG hH pA hU;obtain⟨⟨cv,qD⟩,qE,hV,pL⟩:=RIn.addSet (s:=⟨nm,nth a 0,nth a 1,nth a 2,nth a 3,⟨lA,lc,l⟩,nth a 4,nth a 5,nth a 6,nth a 7,nth a 8,⟨none,0,[]⟩,⟨none,0,[]⟩⟩) hE.out.rin rfl rfl hE.out.rows hE.out.cnt hG (Q1 hH) pA (by omega)))
     all_goals
      go_end0;refine⟨((Below.grown (Below.refl rb u) hE.out.frame (Nat.le_of_lt hI) (λk hk=>by injection hk with hk;omega))).trans (hV.mono nr),?_⟩;rw[HE.out,XuC HN.out.1 hY.out.1 (by rw[<-hY.out.2];exact pJ.out)];refine⟨rfl,m,rfl,_,R,C,A,pL,?_,hR,hC,hA⟩;rw[<-hS,List.map_append,List.map_singleton];rfl
    |true=>
     have pK:=pX.out;obtain⟨t5,r5,_,_,_,rE⟩:=h5.out.head;have KN:=Xa (XeZ (u:=wr.drew) ⟨hE.out.rin.rd.box,hE.out.rin.rd.toks⟩ h5.out hK pO (HC.out.grown (Xi0 hE.out.frame)));cases hv:Y2 (L.drop m) with
     |error q=>
      have KE:=Xa (show Calls Tryz.prog 83 #[.pointer (some ⟨rb,0,none⟩)] wr.drew (λe w'=>wr.drew.grownBy w' (some rb)/\e=.panicked [{v:=.iface 170 (.agg #[.int .i64 q.1,.int .i64 q.2]),recovered:=false}]) from KN.out.mono (λe w' h=>by
       have h1:=h.2;rw[hv] at h1
       exact⟨h.1,h1⟩))
      have HF:=Xa (XqR HN.out.1 hY.out.1 (by rw[<-hY.out.2];exact pJ.out.err h5.out.ne hv));have cl:wr.cell? ⟨sb,5,none⟩=some (.slice lA l.length lc):=(Joins.cell_of_block hE.out.box 5).trans rfl;clear KN;go_wp2_with fail;go_region_law ((go_simp;go_at_call 83;refine KE.out.mono ?_;rintro e w1 ⟨pB,rfl⟩;refine XdF (md:=.any) (a:=⟨#[],[]⟩) (w:=w1) ?_ ?_;focus (go_simp;exact⟨rfl,Below.grown brf (XG hE.out.frame (Q1 pB)) (Nat.le_of_lt hI) (λk hk=>by injection hk with hk;omega),by rw[HE.out,HF.out];rfl⟩)))
      all_goals exact trivial
     |ok v=>
      obtain⟨i,r⟩:=v
      have KO:=Xa (show Calls Tryz.prog 83 #[.pointer (some ⟨rb,0,none⟩)] wr.drew (λe w'=>wr.drew.grownBy w' (some rb)/\e=.returned (.int .i64 i)/\∃n,L.drop n=r/\Rd0 rb tv L n (Ya h0.name h0.aH S R C A) w') from KN.out.mono (λe w' h=>by
       have h1:=h.2;rw[hv] at h1
       exact⟨h.1,h1⟩))
      have cl:wr.cell? ⟨sb,5,none⟩=some (.slice lA l.length lc):=(Joins.cell_of_block hE.out.box 5).trans rfl;have qL:m<=1000000:=by omega
      have qQ:=Xa (QQ _ _ _ hv);clear KN;go_wp2_with fail
      go_region_law (first
       |(go_simp;go_at_call 83;refine KO.out.mono ?_;rintro e w1 ⟨pB,rfl,m1,pM,pN⟩
         have rF:m+1<=m1:=by have e1:=qQ.out;have e2:=congrArg List.length pM;simp only[List.length_drop] at e1 e2;omega
         have pC:=Xa (hE.out.kept pT (Q1 pB) pN (by omega));have cl1:w1.cell? ⟨sb,5,none⟩=some (.slice lA l.length lc):=(Joins.cell_of_block pC.out.box 5).trans rfl;have cl2:∀o,(w1.alloc o).cell? ⟨sb,5,none⟩=some (.slice lA l.length lc):=λo=>(World.cell?_of_block (a:=⟨sb,5,none⟩) (heap_alloc_old w1 o (agS pC.out.box).1)).trans cl1;have qR:=pN.lt;have qF:=Xa pM
         clear pM pB pN)
       |(refine step_append_lies _ (by rfl) (.tmp 25) (.tmp 28) 30 (by rfl) (rb+1) 3 i8 (.int .i64 0) 1 8 Tryz.underlying30 HI.out.1 HI.out.2.1 HI.out.2.2.1 HI.out.2.2.2 rfl (by omega) (.slice lA l.length lc) l.length (l.flatMap Xj) (by rfl) (pC.out.own.alloc _) ⟨w1.heap.size,0,none⟩ 1 1 (Xj i) (by go_simp) rfl (World.news_of_block (heap_alloc_new w1 _)) (λu hu=>by simp[Xj] at hu;subst hu;rfl) (by omega) (by unfold maxLen;omega) (by omega) (by simp;omega) (w1.heap.size+1) (by simp) ?_;intro g4 cap4 w4 hG hH pA hU;obtain⟨⟨cv,qD⟩,qE,hN⟩:=pC.out.append pG (by omega) hG (by first|exact hH|exact Q1 hH) pA (by omega) pH.out))
      all_goals
       have hL:=(XiC (L.drop m)) h5.out;rw[hv] at hL;have H5:=Xa (show XC (L.drop m1) by rw[qF.out];exact hL.2);have qG:=Xa (pJ.out.step h5.out.ne hv);rw[<-qF.out] at qG;obtain⟨t,rr,qS,hg,hr,rG⟩:=H5.out.head;have hW:=Xa hN;have qH:=Xa (Xc.first (XcD hN.rin.rd hg));simp only[Xh.val] at qH;have g0:=Xu2;clear hL hg hN hG hH pA hU qD qE cl cl1 cl2;go_simp;go_wp2_with (go_at_call 84;refine qH.out.mono ?_;rintro e w5 ⟨rfl,z,rfl⟩)
       have qT:decide (JU (L.drop m1)≠4)=(t.kind !=4):=by
        rw[qS];show decide (t.kind≠4)=_;by_cases h:t.kind=4<;>simp[h]
       have hz:=hW.out.rin.rd.more z.below;have qU:=hz.numAt;have qV:=hE.out.rin.rd.numAt;refine⟨⟨l++[i],some ⟨g4,0,none⟩,cap4,m1,(t.kind !=4),rfl,Xa (by rw[List.length_append,List.length_singleton];omega),Xa (by rw[List.length_append,List.length_singleton];exact hW.out.kept pT (XD z.below) hz nr),H5,Xa (by rw[<-qT];exact qG.out)⟩,?_⟩;rw[qU,qV];omega
end Go.Proofs.YtdcahhbipeaggaaGreatDoor
namespace Go.Proofs.YtdcahhbipeaggaaGreatDoor
open Go.RowKit
theorem XoM{rb sb n:Nat}{tv:Value}{L:List Xh}{rest:List Value}{u0 w w0:World}{cur:Array Value}{ty:TypeId}(offs:List Nat)(h:Rd0 rb tv L n rest w)(hE:∀tb cap,tv=.slice (some ⟨tb,0,none⟩) L.length cap->tb<rb)(hl:XC (L.drop n))(hD:L.length<=1000000)(hG:∀t∈L,t.text.size<=1000000)(hc:Ctx w0 rb w)
 (hu:u0.grownBy w (some rb)) (hH:u0.heap.size<=sb) (hK:rb<u0.heap.size) (hs:w.heap[sb]? =some (.cells cur ty (0,0)))
 (ho:∀o∈offs,o<cur.size) (h9:offs.length<=9) (tp:TypeId) (ptrs:Array Value) (hp:ptrs.toList=offs.map λo=> .pointer (some ⟨sb,o,none⟩)) (pc:Nat):
 Calls Tryz.prog 134 #[.pointer (some ⟨rb,0,none⟩),.slice (some ⟨w.heap.size,0,none⟩) offs.length pc] (w.alloc (.cells ptrs tp (0,0))) (Xqu rb sb tv L rest cur ty offs (XY offs.length (L.drop n)) u0):=by
 obtain⟨U,hU,hL,hC,hI⟩:=boxed w (.cells ptrs tp (0,0));have hJ:=(agS hs).1;have hM:=hc.lo;have KN:=Xhb (pb:=w.heap.size) (po:=0) (pc:=pc) (sb:=sb) offs (h.more hC) hl hD hG ⟨hc.tabs,hc.bel.trans (hC.mono hc.bel.size),hc.lo⟩ (by omega) (by omega)
  (λtb cap e=>by have:=hE tb cap e;omega) (by have:=hu.size;omega) (by omega) (by omega) ((hC.block _ hJ).trans hs) ho h9
  (λi o hi=>by
    rw[Nat.zero_add,Joins.cell_of_block hI i,<-Array.getElem?_toList,hp,List.getElem?_map,hi];rfl)
 rw[<-hU];refine KN.mono ?_;rintro e w' ⟨hg,hx⟩;refine⟨hg.one (Yj hu hC) hH,?_⟩;cases hn:XY offs.length (L.drop n) with
 |error q=>rw[hn] at hx;exact hx
 |ok v=>
  obtain⟨l,r⟩:=v;rw[hn] at hx;exact⟨hx.1,(agS hx.2.1).1,hx.2.1,hx.2.2⟩
theorem QO{U:World}{b:Nat}{tt:TypeId}(zs:List ByteArray)(hz:0<zs.length)(hC:zs.length<=1000)(hU:U.heap[b]? =some (.cells (zs.map Value.string).toArray tt (0,0)))(ok:List UInt8->Bool)(hD:∀x:ByteArray,ok (bs x)=true↔x∈zs)(c:Nat):
 Xmx U (.slice (some ⟨b,0,none⟩) zs.length c) ok:=by
 refine Or.inr ⟨b,0,zs,c,rfl,hz,hC,(agS hU).1,λj hj=> ?_,λx=> ?_⟩
 ·rw[Nat.zero_add,Joins.cell_of_block hU j];simp[hj]
 ·have h1:=hD x;have h2:=Lib.containsS_iff zs x;cases h3:ok (bs x)<;>cases h4:Lib.containsS zs x<;>simp_all
def Xly:ByteArray:=⟨#[109,97,110,117,97,108]⟩
def Xlz:ByteArray:=⟨#[102,111,108,108,111,119]⟩
def XsF:ByteArray:=⟨#[119,105,116,104]⟩
theorem XpF{x y:ByteArray}:bs x=bs y↔x=y:=⟨XgQ,λh=>by rw[h]⟩
theorem Xpa(x:ByteArray):Qg (bs x)=true↔x∈[Xly,Xlz,XsF]:=by
 have e1:QY=bs Xly:=by kernel_rfl
 have e2:Jo=bs Xlz:=by kernel_rfl
 have e3:Xkh=bs XsF:=by kernel_rfl
 simp only[Qg,e1,e2,e3,XpF,Bool.or_eq_true,decide_eq_true_eq,List.mem_cons,List.not_mem_nil,or_false,or_assoc]
def ZT:List ByteArray:=[⟨#[114,111,111,102]⟩,⟨#[115,101,116]⟩,⟨#[105,116,101,109]⟩,⟨#[98,114,105,99,107]⟩,⟨#[99,117,101]⟩,⟨#[109,111,118,101]⟩,⟨#[97,112,97,114,116]⟩]
theorem Qa(x:ByteArray):XM (bs x)=true↔x∈ZT:=by
 have e1:Xeh=bs ⟨#[114,111,111,102]⟩:=by kernel_rfl
 have e2:Xjp=bs ⟨#[115,101,116]⟩:=by kernel_rfl
 have e3:Xc0=bs ⟨#[105,116,101,109]⟩:=by kernel_rfl
 have e4:Xat=bs ⟨#[98,114,105,99,107]⟩:=by kernel_rfl
 have e5:Xhz=bs ⟨#[99,117,101]⟩:=by kernel_rfl
 have e6:XcZ=bs ⟨#[109,111,118,101]⟩:=by kernel_rfl
 have e7:Xcq=bs ⟨#[97,112,97,114,116]⟩:=by kernel_rfl
 simp only[XM,ZT,e1,e2,e3,e4,e5,e6,e7,XpF,Bool.or_eq_true,decide_eq_true_eq,List.mem_cons,List.not_mem_nil,or_false,or_assoc]
theorem XgK{ts r r2:List Xh}{nm:ByteArray}{k:Int×ByteArray}{q:Int×Int}(h:XT ts=.ok (nm,r))(h2:QF r=.ok (k,r2))(h3:XY 3 r2=.error q):Xfc ts=.error q:=by rw[Xfc,h];simp only[Xr];rw[h2];simp only;rw[h3]
theorem Xmn{ts r r2 r3:List Xh}{nm:ByteArray}{k:Int×ByteArray}{a:List Int}(h:XT ts=.ok (nm,r))(h2:QF r=.ok (k,r2))(h3:XY 3 r2=.ok (a,r3)):Xfc ts=.ok (⟨nm,k.2,k.1,nth a 0,[],nth a 1,nth a 2⟩,r3):=by rw[Xfc,h];simp only[Xr];rw[h2];simp only;rw[h3]
theorem Xl2:(Tryz.prog.info? 70).map (λi=>(i.zero,i.size,i.bytes))=some (some (.agg #[.string ⟨#[]⟩,.string ⟨#[]⟩,.int .i64 0,.int .i64 0,.slice none 0 0,.int .i64 0,.int .i64 0]),7,88):=by kernel_rfl
theorem Xvc{rb n:Nat}{tv:Value}{L:List Xh}{h0:Xl}{c0:Xp}{u w0:World}(h:RSt rb tv L n h0 c0 u)(p:Int×Int)(hl:XC (L.drop n))(hQ:L.length<=1000000)(qJ:∀t∈L,t.text.size<=1000000)(hc:Ctx w0 rb u):
 Calls Tryz.prog 138 #[.pointer (some ⟨rb,0,none⟩)] u (JM rb tv L (X3 h0 c0 Xhz p (L.drop n)) u):=by
 obtain⟨S,R,C,A,qK,hS,hR,hC,hA⟩:=h
 have HE:=Xa (show X3 h0 c0 Xhz p (L.drop n)=Xr (Xfc (L.drop n)) λx r=> .ok ((h0,{c0 with aC:=c0.aC++[x]}),r) by
  rw[X3,if_neg (by decide),if_neg (by decide),if_neg (by decide),if_neg (by decide),if_pos rfl])
 have hW:=Xa qK;have HL:=Xa hl;have HC:=Xa hc;have hI:=qK.rd.lt;clear hl hc qK;have KN:=Xa (ZO hW.out.rd HL.out hQ);go_enter Tryz.func138,Tryz.ntmps138;go_wp2_with fail;refine KN.out.mono ?_;rintro e w2 ⟨rB,hx⟩;have qG:=Xa rB;have HX:=Xa hx;clear rB hx;cases pS:XT (L.drop n) with
 |error q=>
  have h1:=HX.out;rw[pS] at h1;simp only at h1;subst h1;refine⟨rfl,Below.grown brf qG.out (Nat.le_of_lt hI) (λk hk=>by injection hk with hk;omega),?_⟩;rw[HE.out,Xfc,pS];rfl
 |ok v=>
  obtain⟨nm,r⟩:=v;have h1:=HX.out;rw[pS] at h1;obtain⟨rfl,m2,h2,h3⟩:=h1;have hX:=Y7 (L.drop n) HL.out;rw[pS] at hX;have H5:=Xa (show XC (L.drop m2) by rw[h2];exact hX.2);have rP:=Xa h3;have HN:=Xa (And.intro pS h2);clear HX h2 h3 pS hX KN;go_upto_region 1 with fail;obtain⟨V,hV,qL,rC,qM⟩:=boxed w2 (.cells #[.string nm,.string ⟨#[]⟩,.int .i64 0,.int .i64 0,.slice none 0 0,.int .i64 0,.int .i64 0] 70);obtain⟨sb,hE⟩:∃b,b=w2.heap.size:=⟨_,rfl⟩
  rw[<-hE] at qL qM;obtain⟨U,hU,rQ,qN,rD⟩:=boxed V (.cells #[.string ⟨#[109,97,110,117,97,108]⟩,.string ⟨#[102,111,108,108,111,119]⟩,.string ⟨#[119,105,116,104]⟩] 9);rw[qL] at rQ;have hT:=QO [Xly,Xlz,XsF] (by decide) (by decide) rD Qg Xpa 3;have qO:Below w2.heap.size w2 U:=rC.trans (qN.mono (by omega));have KT:=Xa (ZM (rP.out.more qO) H5.out hQ 1 _ Qg hT);have pU:=Xa (Yj qG.out qO);have rE:=Xa ((qN.block sb (by omega)).trans qM);have HV:=Xa hV;have HU:=Xa hU;have qP:=Xa hE;clear hV hU hE qL rC qM qN rD hT qO
  rw[<-HV.out,<-qP.out];go_wp2_with fail;rw[<-HU.out];refine KT.out.mono ?_;rintro e w3 ⟨qH,hx⟩;have pE:=Xa (XG pU qH);have HX:=Xa hx;have pF:=Xa ((qH.block sb (by omega) (λe=>by injection e with e;have:=qG.out.size;have:=qP.out;omega)).trans rE);have rR:=qH.size;clear qH hx KT pU rE;cases pT:XP 1 Qg (L.drop m2) with
  |error q=>
   have h1:=HX.out;rw[pT] at h1;simp only at h1;subst h1;refine⟨rfl,Below.grown brf pE.out (Nat.le_of_lt hI) (λk hk=>by injection hk with hk;omega),?_⟩;rw[HE.out,Xfc,HN.out.1];simp only[Xr];rw[QF,<-HN.out.2,pT];rfl
  |ok v=>
   obtain⟨lw,r2⟩:=v;have h1:=HX.out;rw[pT] at h1;obtain⟨rfl,m3,h2,h3⟩:=h1;have hX:=(Xfo (k:=1) (by decide) Qg (L.drop m2)) H5.out;rw[pT] at hX;have pV:=Xa (show XC (L.drop m3) by rw[h2];exact hX.2);have qQ:=Xa h3;have hP:=Xa (And.intro pT h2);clear HX h2 h3 pT hX;have qR:w3.cell? ⟨sb,1,none⟩=some (.string ⟨#[]⟩)/\w3.cell? ⟨sb,2,none⟩=some (.int .i64 0):=⟨(Joins.cell_of_block pF.out 1).trans rfl,(Joins.cell_of_block pF.out 2).trans rfl⟩
   have qS:=λi=>Xe pF.out i;have pP:u.heap.size<=sb:=by rw[qP.out];exact qG.out.size
   have hY:sb≠rb:=by omega
   cases qT:(lw.toList==[109,97,110,117,97,108])
   ·have qI:=Xa (show ¬bs lw=QY by intro h;have h':lw.toList=[109,97,110,117,97,108]:=h;rw[h'] at qT;exact absurd qT (by decide));cases qU:(lw.toList==[102,111,108,108,111,119])
    ·have qV:=Xa (show(if bs lw=Jo then(2:Int) else 3)=3 by rw[if_neg];intro h;have h':lw.toList=[102,111,108,108,111,119]:=h;rw[h'] at qU;exact absurd qU (by decide));have pW:=Xa (ZO qQ.out pV.out hQ);go_wp2_with fail;refine pW.out.mono ?_;rintro e w4a ⟨hZ,hx⟩;have hJ:=Xa (XG pE.out hZ);have HX:=Xa hx;have pQ:=Xa ((hZ.block sb (agS pF.out).1 (λe=>hY (by injection e))).trans pF.out);clear hZ hx pW qR qS;cases hD:XT (L.drop m3) with
     |error q=>
      have h1:=HX.out;rw[hD] at h1;simp only at h1;subst h1;refine⟨rfl,Below.grown brf hJ.out (Nat.le_of_lt hI) (λk hk=>by injection hk with hk;omega),?_⟩;rw[HE.out,Xfc,HN.out.1];simp only[Xr];rw[QF,<-HN.out.2,hP.out.1];simp only[Xr];rw[if_neg qI.out,<-hP.out.2,hD]
     |ok v=>
     obtain⟨aft,r4⟩:=v;have h1:=HX.out;rw[hD] at h1;obtain⟨rfl,m4,h2,h3⟩:=h1;have hX:=Y7 (L.drop m3) pV.out;rw[hD] at hX;have pG:=Xa (show XC (L.drop m4) by rw[h2];exact hX.2);have pR:=Xa h3
     have pH:=Xa (show QF (L.drop m2)=.ok ((3,aft),L.drop m4) by
      rw[QF,hP.out.1];simp only[Xr]
      rw[if_neg qI.out,<-hP.out.2,hD];simp only;rw[qV.out,h2])
     have pX:=Xa (show m4>=m2 by
      have e1:=Yr 1 Qg (L.drop m2) _ _ hP.out.1;have e2:=congrArg List.length hP.out.2;have e3:=Ym hD;have e4:=congrArg List.length h2;simp only[List.length_drop] at e1 e2 e3 e4
      omega)
     have pD:=Xx (i:=2) pQ.out (.int .i64 3);have qW:w4a.cell? ⟨sb,2,none⟩=some (.int .i64 0):=(Joins.cell_of_block pQ.out 2).trans rfl;have qX:=Xe pQ.out 2;have qY:(w4a.setCell ⟨sb,2,none⟩ (.int .i64 3)).cell? ⟨sb,1,none⟩=some (.string ⟨#[]⟩):=(Joins.cell_of_block pD 1).trans rfl;have qZ:=Xe pD 1;have rA:=Xa pD;clear HX h2 h3 hD hX pD;go_upto_region 7 with fail;obtain⟨w4,hM⟩:∃w4,w4=(w4a.setCell ⟨sb,2,none⟩ (.int .i64 3)).setCell ⟨sb,1,none⟩ (.string aft):=⟨_,rfl⟩
     have pY:=Xa (show Rd0 rb tv L m4 (Ya h0.name h0.aH S R C A) w4 by rw[hM];exact(pR.out.putOther hY (λtb cap e=>by have:=hW.out.low tb cap e;omega) _ _).putOther hY (λtb cap e=>by have:=hW.out.low tb cap e;omega) _ _)
     have pI:=Xa (show u.grownBy w4 (some rb) by
      rw[hM]
      exact⟨hJ.out.os,hJ.out.tape,hJ.out.output,by simp[World.setCell];exact hJ.out.size,λk hk hY=>(Below.heap_setCell _ _ _ _ (by simp only;omega)).trans ((Below.heap_setCell _ _ _ _ (by simp only;omega)).trans (hJ.out.block k hk hY))⟩)
     have pZ:=Xa (show w4.heap[sb]? =some (.cells #[.string nm,.string aft,.int .i64 3,.int .i64 0,.slice none 0 0,.int .i64 0,.int .i64 0] 70 (0,0)) by rw[hM];exact Xx rA.out _);rw[<-hM];clear hM qY qZ qW qX;have KP:=Xa (XoM [3,5,6] (cur:=#[.string nm,.string aft,.int .i64 3,.int .i64 0,.slice none 0 0,.int .i64 0,.int .i64 0]) (ty:=70) pY.out hW.out.low pG.out hQ qJ (HC.out.grown pI.out) pI.out pP hI pZ.out (by intro o ho;simp at ho ⊢;omega) (by decide) 217 #[.pointer (some ⟨sb,3,none⟩),.pointer (some ⟨sb,5,none⟩),.pointer (some ⟨sb,6,none⟩)] rfl 3);go_wp2_with fail
     refine KP.out.mono ?_;rintro e w5 ⟨pJ,hx⟩;have pA:=Xa pJ;have HX:=Xa hx;clear pJ hx KP;rw[show([3,5,6]:List Nat).length=3 from rfl] at HX;cases hK:XY 3 (L.drop m4) with
     |error q=>
      have h1:=HX.out;rw[hK] at h1;simp only at h1;subst h1;refine⟨rfl,Below.grown brf pA.out (Nat.le_of_lt hI) (λk hk=>by injection hk with hk;omega),?_⟩;rw[HE.out,XgK HN.out.1 (by rw[<-HN.out.2];exact pH.out) hK];rfl
     |ok v=>
      obtain⟨l,r5⟩:=v;have h1:=HX.out;rw[hK] at h1;obtain⟨rfl,hsz,h2,m5,h3,h4⟩:=h1;have pK:=Qu 3 hK;obtain⟨a1,a2,a3,rfl⟩:∃a1 a2 a3,l=[a1,a2,a3]:=by
       match l,pK with
       |[a1,a2,a3],_=>exact⟨_,_,_,rfl⟩
      have qA:=Xa h4;have hL:=QZ 3 (L.drop m4) pG.out;rw[hK] at hL;have qB:=Xa (show XC (L.drop m5) by rw[h3];exact hL.2);clear hL;have hG:=Xa (And.intro (Xmn HN.out.1 (by rw[<-HN.out.2];exact pH.out) hK) (And.intro h3 hK));have h2:w5.heap[sb]? =some (.cells #[.string nm,.string aft,.int .i64 3,.int .i64 a1,.slice none 0 0,.int .i64 a2,.int .i64 a3] 70 (0,0)):=h2;have qC:=Xa h2;clear HX h3 h4 hK pK h2;obtain⟨i8,pL,pM,pN,pO⟩:=info_parts Xl2;have HI:=Xa (And.intro pL (And.intro pM (And.intro pN pO)));have hlen:n+1<=m5:=by
       have e1:=Ym HN.out.1;have e2:=Zt 3 _ _ _ hG.out.2.2;have e3:=congrArg List.length hG.out.2.1;have e4:=congrArg List.length HN.out.2;have e5:=pX.out;simp only[List.length_drop] at e1 e2 e3 e4;omega
      have hH:=Xa (hW.out.kept pA.out qA.out (by omega));have qD:=hW.out.aC.2;have rF:m5<=1000000:=by obtain⟨_,_,_,_,_,h9⟩:=qB.out.head;omega
      have qE:=hH.out.rd.lt;have c6:w5.cell? ⟨rb,6,none⟩=some (.slice C.A C.l.length C.cap):=(hH.out.rd.cellr 4).trans rfl;have hE:=Joins.cell_of_block qC.out;have rG:=hE 0;have rH:=hE 1;have rI:=hE 2;have rJ:=hE 3;have rK:=hE 4;have rL:=hE 5;have rM:=hE 6;clear pL pM pN pO hE;go_wp2_with fail;go_region_law ((refine step_append_lies _ (by rfl) (.tmp 33) (.tmp 35) 26 (by rfl) (rb+1) 70 i8 (.agg #[.string ⟨#[]⟩,.string ⟨#[]⟩,.int .i64 0,.int .i64 0,.slice none 0 0,.int .i64 0,.int .i64 0]) 7 88 Tryz.underlying26 HI.out.1 HI.out.2.1 HI.out.2.2.1 HI.out.2.2.2 rfl (by omega) C.val C.l.length (C.l.flatMap Xn.cells) (by rfl) (hH.out.aC.1.alloc _) ⟨w5.heap.size,0,none⟩ 1 1 (Xn.cells ⟨nm,aft,3,a1,⟨none,0,[]⟩,a2,a3⟩) (by go_simp) rfl (World.news_of_block (heap_alloc_new w5 _)) (λu hu=>by simp[Xn.cells,Sl.val] at hu;rcases hu with rfl|rfl|rfl|rfl|rfl|rfl|rfl<;>rfl) (by omega) (by unfold maxLen;omega) (by omega) (by simp;omega) (w5.heap.size+1) (by simp) ?_;intro g4 cap4 w6 hN pB hZ qF;obtain⟨⟨cv,rN⟩,rO,hO,pC⟩:=RIn.addCue hH.out rfl hN (Q1 pB) hZ (by omega)))
      all_goals
       go_end0;refine⟨((Below.grown (Below.refl rb u) pA.out (Nat.le_of_lt hI) (λk hk=>by injection hk with hk;omega))).trans (hO.mono nr),?_⟩;rw[HE.out,hG.out.1];refine⟨rfl,m5,hG.out.2.1,S,R,_,A,pC,hS,hR,?_,hA⟩;rw[<-hC,List.map_append,List.map_singleton];rfl
    ·have qV:=Xa (show(if bs lw=Jo then(2:Int) else 3)=2 by rw[if_pos (show bs lw=Jo by simpa[bs,Jo] using qU)]);have pW:=Xa (ZO qQ.out pV.out hQ);go_wp2_with fail;refine pW.out.mono ?_;rintro e w4a ⟨hZ,hx⟩;have hJ:=Xa (XG pE.out hZ);have HX:=Xa hx;have pQ:=Xa ((hZ.block sb (agS pF.out).1 (λe=>hY (by injection e))).trans pF.out);clear hZ hx pW qR qS;cases hD:XT (L.drop m3) with
     |error q=>
      have h1:=HX.out;rw[hD] at h1;simp only at h1;subst h1;refine⟨rfl,Below.grown brf hJ.out (Nat.le_of_lt hI) (λk hk=>by injection hk with hk;omega),?_⟩;rw[HE.out,Xfc,HN.out.1];simp only[Xr];rw[QF,<-HN.out.2,hP.out.1];simp only[Xr];rw[if_neg qI.out,<-hP.out.2,hD]
     |ok v=>
     obtain⟨aft,r4⟩:=v;have h1:=HX.out;rw[hD] at h1;obtain⟨rfl,m4,h2,h3⟩:=h1;have hX:=Y7 (L.drop m3) pV.out;rw[hD] at hX;have pG:=Xa (show XC (L.drop m4) by rw[h2];exact hX.2);have pR:=Xa h3
     have pH:=Xa (show QF (L.drop m2)=.ok ((2,aft),L.drop m4) by
      rw[QF,hP.out.1];simp only[Xr]
      rw[if_neg qI.out,<-hP.out.2,hD];simp only;rw[qV.out,h2])
     have pX:=Xa (show m4>=m2 by
      have e1:=Yr 1 Qg (L.drop m2) _ _ hP.out.1;have e2:=congrArg List.length hP.out.2;have e3:=Ym hD;have e4:=congrArg List.length h2;simp only[List.length_drop] at e1 e2 e3 e4
      omega)
     have pD:=Xx (i:=2) pQ.out (.int .i64 2);have qW:w4a.cell? ⟨sb,2,none⟩=some (.int .i64 0):=(Joins.cell_of_block pQ.out 2).trans rfl;have qX:=Xe pQ.out 2;have qY:(w4a.setCell ⟨sb,2,none⟩ (.int .i64 2)).cell? ⟨sb,1,none⟩=some (.string ⟨#[]⟩):=(Joins.cell_of_block pD 1).trans rfl;have qZ:=Xe pD 1;have rA:=Xa pD;clear HX h2 h3 hD hX pD;go_upto_region 7 with fail;obtain⟨w4,hM⟩:∃w4,w4=(w4a.setCell ⟨sb,2,none⟩ (.int .i64 2)).setCell ⟨sb,1,none⟩ (.string aft):=⟨_,rfl⟩
     have pY:=Xa (show Rd0 rb tv L m4 (Ya h0.name h0.aH S R C A) w4 by rw[hM];exact(pR.out.putOther hY (λtb cap e=>by have:=hW.out.low tb cap e;omega) _ _).putOther hY (λtb cap e=>by have:=hW.out.low tb cap e;omega) _ _)
     have pI:=Xa (show u.grownBy w4 (some rb) by
      rw[hM]
      exact⟨hJ.out.os,hJ.out.tape,hJ.out.output,by simp[World.setCell];exact hJ.out.size,λk hk hY=>(Below.heap_setCell _ _ _ _ (by simp only;omega)).trans ((Below.heap_setCell _ _ _ _ (by simp only;omega)).trans (hJ.out.block k hk hY))⟩)
     have pZ:=Xa (show w4.heap[sb]? =some (.cells #[.string nm,.string aft,.int .i64 2,.int .i64 0,.slice none 0 0,.int .i64 0,.int .i64 0] 70 (0,0)) by rw[hM];exact Xx rA.out _);rw[<-hM];clear hM qY qZ qW qX;have KP:=Xa (XoM [3,5,6] (cur:=#[.string nm,.string aft,.int .i64 2,.int .i64 0,.slice none 0 0,.int .i64 0,.int .i64 0]) (ty:=70) pY.out hW.out.low pG.out hQ qJ (HC.out.grown pI.out) pI.out pP hI pZ.out (by intro o ho;simp at ho ⊢;omega) (by decide) 217 #[.pointer (some ⟨sb,3,none⟩),.pointer (some ⟨sb,5,none⟩),.pointer (some ⟨sb,6,none⟩)] rfl 3);go_wp2_with fail
     refine KP.out.mono ?_;rintro e w5 ⟨pJ,hx⟩;have pA:=Xa pJ;have HX:=Xa hx;clear pJ hx KP;rw[show([3,5,6]:List Nat).length=3 from rfl] at HX;cases hK:XY 3 (L.drop m4) with
     |error q=>
      have h1:=HX.out;rw[hK] at h1;simp only at h1;subst h1;refine⟨rfl,Below.grown brf pA.out (Nat.le_of_lt hI) (λk hk=>by injection hk with hk;omega),?_⟩;rw[HE.out,XgK HN.out.1 (by rw[<-HN.out.2];exact pH.out) hK];rfl
     |ok v=>
      obtain⟨l,r5⟩:=v;have h1:=HX.out;rw[hK] at h1;obtain⟨rfl,hsz,h2,m5,h3,h4⟩:=h1;have pK:=Qu 3 hK;obtain⟨a1,a2,a3,rfl⟩:∃a1 a2 a3,l=[a1,a2,a3]:=by
       match l,pK with
       |[a1,a2,a3],_=>exact⟨_,_,_,rfl⟩
      have qA:=Xa h4;have hL:=QZ 3 (L.drop m4) pG.out;rw[hK] at hL;have qB:=Xa (show XC (L.drop m5) by rw[h3];exact hL.2);clear hL;have hG:=Xa (And.intro (Xmn HN.out.1 (by rw[<-HN.out.2];exact pH.out) hK) (And.intro h3 hK));have h2:w5.heap[sb]? =some (.cells #[.string nm,.string aft,.int .i64 2,.int .i64 a1,.slice none 0 0,.int .i64 a2,.int .i64 a3] 70 (0,0)):=h2;have qC:=Xa h2;clear HX h3 h4 hK pK h2;obtain⟨i8,pL,pM,pN,pO⟩:=info_parts Xl2;have HI:=Xa (And.intro pL (And.intro pM (And.intro pN pO)));have hlen:n+1<=m5:=by
       have e1:=Ym HN.out.1;have e2:=Zt 3 _ _ _ hG.out.2.2;have e3:=congrArg List.length hG.out.2.1;have e4:=congrArg List.length HN.out.2;have e5:=pX.out;simp only[List.length_drop] at e1 e2 e3 e4;omega
      have hH:=Xa (hW.out.kept pA.out qA.out (by omega));have qD:=hW.out.aC.2;have rF:m5<=1000000:=by obtain⟨_,_,_,_,_,h9⟩:=qB.out.head;omega
      have qE:=hH.out.rd.lt;have c6:w5.cell? ⟨rb,6,none⟩=some (.slice C.A C.l.length C.cap):=(hH.out.rd.cellr 4).trans rfl;have hE:=Joins.cell_of_block qC.out;have rG:=hE 0;have rH:=hE 1;have rI:=hE 2;have rJ:=hE 3;have rK:=hE 4;have rL:=hE 5;have rM:=hE 6;clear pL pM pN pO hE;go_wp2_with fail;go_region_law ((refine step_append_lies _ (by rfl) (.tmp 33) (.tmp 35) 26 (by rfl) (rb+1) 70 i8 (.agg #[.string ⟨#[]⟩,.string ⟨#[]⟩,.int .i64 0,.int .i64 0,.slice none 0 0,.int .i64 0,.int .i64 0]) 7 88 Tryz.underlying26 HI.out.1 HI.out.2.1 HI.out.2.2.1 HI.out.2.2.2 rfl (by omega) C.val C.l.length (C.l.flatMap Xn.cells) (by rfl) (hH.out.aC.1.alloc _) ⟨w5.heap.size,0,none⟩ 1 1 (Xn.cells ⟨nm,aft,2,a1,⟨none,0,[]⟩,a2,a3⟩) (by go_simp) rfl (World.news_of_block (heap_alloc_new w5 _)) (λu hu=>by simp[Xn.cells,Sl.val] at hu;rcases hu with rfl|rfl|rfl|rfl|rfl|rfl|rfl<;>rfl) (by omega) (by unfold maxLen;omega) (by omega) (by simp;omega) (w5.heap.size+1) (by simp) ?_;intro g4 cap4 w6 hN pB hZ qF;obtain⟨⟨cv,rN⟩,rO,hO,pC⟩:=RIn.addCue hH.out rfl hN (Q1 pB) hZ (by omega)))
      all_goals
       go_end0;refine⟨((Below.grown (Below.refl rb u) pA.out (Nat.le_of_lt hI) (λk hk=>by injection hk with hk;omega))).trans (hO.mono nr),?_⟩;rw[HE.out,hG.out.1];refine⟨rfl,m5,hG.out.2.1,S,R,_,A,pC,hS,hR,?_,hA⟩;rw[<-hC,List.map_append,List.map_singleton];rfl
   ·have pH:=Xa (show QF (L.drop m2)=.ok ((1,⟨#[]⟩),L.drop m3) by
     rw[QF,hP.out.1];simp only[Xr]
     rw[if_pos (show bs lw=QY by simpa[bs,QY] using qT),hP.out.2])
    go_upto_region 7 with fail;obtain⟨w4,hM⟩:∃w4,w4=w3.setCell ⟨sb,2,none⟩ (.int .i64 1):=⟨_,rfl⟩
    have pY:=Xa (show Rd0 rb tv L m3 (Ya h0.name h0.aH S R C A) w4 by rw[hM];exact qQ.out.putOther hY (λtb cap e=>by have:=hW.out.low tb cap e;omega) _ _)
    have pI:=Xa (show u.grownBy w4 (some rb) by
     rw[hM]
     exact⟨pE.out.os,pE.out.tape,pE.out.output,by simp[World.setCell];exact pE.out.size,λk hk hY=>(Below.heap_setCell _ _ _ _ (by simp only;omega)).trans (pE.out.block k hk hY)⟩)
    have pZ:=Xa (show w4.heap[sb]? =some (.cells #[.string nm,.string ⟨#[]⟩,.int .i64 1,.int .i64 0,.slice none 0 0,.int .i64 0,.int .i64 0] 70 (0,0)) by rw[hM];exact Xx pF.out _);have pG:=pV
    have pX:=Xa (show m3>=m2 by
     have e1:=Yr 1 Qg (L.drop m2) _ _ hP.out.1;have e2:=congrArg List.length hP.out.2;simp only[List.length_drop] at e1 e2
     omega)
    rw[<-hM];clear hM qR qS;have KP:=Xa (XoM [3,5,6] (cur:=#[.string nm,.string ⟨#[]⟩,.int .i64 1,.int .i64 0,.slice none 0 0,.int .i64 0,.int .i64 0]) (ty:=70) pY.out hW.out.low pG.out hQ qJ (HC.out.grown pI.out) pI.out pP hI pZ.out (by intro o ho;simp at ho ⊢;omega) (by decide) 217 #[.pointer (some ⟨sb,3,none⟩),.pointer (some ⟨sb,5,none⟩),.pointer (some ⟨sb,6,none⟩)] rfl 3);go_wp2_with fail;refine KP.out.mono ?_;rintro e w5 ⟨pJ,hx⟩;have pA:=Xa pJ;have HX:=Xa hx;clear pJ hx KP;rw[show([3,5,6]:List Nat).length=3 from rfl] at HX;cases hK:XY 3 (L.drop m3) with
    |error q=>
     have h1:=HX.out;rw[hK] at h1;simp only at h1;subst h1;refine⟨rfl,Below.grown brf pA.out (Nat.le_of_lt hI) (λk hk=>by injection hk with hk;omega),?_⟩;rw[HE.out,XgK HN.out.1 (by rw[<-HN.out.2];exact pH.out) hK];rfl
    |ok v=>
     obtain⟨l,r5⟩:=v;have h1:=HX.out;rw[hK] at h1;obtain⟨rfl,hsz,h2,m5,h3,h4⟩:=h1;have pK:=Qu 3 hK;obtain⟨a1,a2,a3,rfl⟩:∃a1 a2 a3,l=[a1,a2,a3]:=by
      match l,pK with
      |[a1,a2,a3],_=>exact⟨_,_,_,rfl⟩
     have qA:=Xa h4;have hL:=QZ 3 (L.drop m3) pG.out;rw[hK] at hL;have qB:=Xa (show XC (L.drop m5) by rw[h3];exact hL.2);clear hL;have hG:=Xa (And.intro (Xmn HN.out.1 (by rw[<-HN.out.2];exact pH.out) hK) (And.intro h3 hK));have h2:w5.heap[sb]? =some (.cells #[.string nm,.string ⟨#[]⟩,.int .i64 1,.int .i64 a1,.slice none 0 0,.int .i64 a2,.int .i64 a3] 70 (0,0)):=h2;have qC:=Xa h2;clear HX h3 h4 hK pK h2;obtain⟨i8,pL,pM,pN,pO⟩:=info_parts Xl2;have HI:=Xa (And.intro pL (And.intro pM (And.intro pN pO)));have hlen:n+1<=m5:=by
      have e1:=Ym HN.out.1;have e2:=Zt 3 _ _ _ hG.out.2.2;have e3:=congrArg List.length hG.out.2.1;have e4:=congrArg List.length HN.out.2;have e5:=pX.out;simp only[List.length_drop] at e1 e2 e3 e4;omega
     have hH:=Xa (hW.out.kept pA.out qA.out (by omega));have qD:=hW.out.aC.2;have rF:m5<=1000000:=by obtain⟨_,_,_,_,_,h9⟩:=qB.out.head;omega
     have qE:=hH.out.rd.lt;have c6:w5.cell? ⟨rb,6,none⟩=some (.slice C.A C.l.length C.cap):=(hH.out.rd.cellr 4).trans rfl;have hE:=Joins.cell_of_block qC.out;have rG:=hE 0;have rH:=hE 1;have rI:=hE 2;have rJ:=hE 3;have rK:=hE 4;have rL:=hE 5;have rM:=hE 6;clear pL pM pN pO hE;go_wp2_with fail;go_region_law ((refine step_append_lies _ (by rfl) (.tmp 33) (.tmp 35) 26 (by rfl) (rb+1) 70 i8 (.agg #[.string ⟨#[]⟩,.string ⟨#[]⟩,.int .i64 0,.int .i64 0,.slice none 0 0,.int .i64 0,.int .i64 0]) 7 88 Tryz.underlying26 HI.out.1 HI.out.2.1 HI.out.2.2.1 HI.out.2.2.2 rfl (by omega) C.val C.l.length (C.l.flatMap Xn.cells) (by rfl) (hH.out.aC.1.alloc _) ⟨w5.heap.size,0,none⟩ 1 1 (Xn.cells ⟨nm,⟨#[]⟩,1,a1,⟨none,0,[]⟩,a2,a3⟩) (by go_simp) rfl (World.news_of_block (heap_alloc_new w5 _)) (λu hu=>by simp[Xn.cells,Sl.val] at hu;rcases hu with rfl|rfl|rfl|rfl|rfl|rfl|rfl<;>rfl) (by omega) (by unfold maxLen;omega) (by omega) (by simp;omega) (w5.heap.size+1) (by simp) ?_;intro g4 cap4 w6 hN pB hZ qF;obtain⟨⟨cv,rN⟩,rO,hO,pC⟩:=RIn.addCue hH.out rfl hN (Q1 pB) hZ (by omega)))
     all_goals
      go_end0;refine⟨((Below.grown (Below.refl rb u) pA.out (Nat.le_of_lt hI) (λk hk=>by injection hk with hk;omega))).trans (hO.mono nr),?_⟩;rw[HE.out,hG.out.1];refine⟨rfl,m5,hG.out.2.1,S,R,_,A,pC,hS,hR,?_,hA⟩;rw[<-hC,List.map_append,List.map_singleton];rfl
end Go.Proofs.YtdcahhbipeaggaaGreatDoor
namespace Go.Proofs.YtdcahhbipeaggaaGreatDoor
open Go.RowKit
theorem XaY{h:Xl}{c:Xp}{ts r:List Xh}{lw:ByteArray}(hw:XP 1 XM ts=.ok (lw,r)):Ye h c ts=Xr (X3 h c (bs lw) (Xbt ts) r) λx r=>Xr (QA r) λ_ r=> .ok (x,r):=by rw[Ye,hw];rfl
def Xvs(rb:Nat)(tv:Value)(L:List Xh)(h:Xl)(c:Xp)(x:Rd ByteArray)(u:World)(e:Ending)(w':World):Prop:=
 Below rb u w'/\match x with
  |.ok (s,r)=>e=.returned (.string s)/\∃n,L.drop n=r/\RSt rb tv L n h c w'
  |.error q=>e=.panicked [{v:=.iface 170 (.agg #[.int .i64 q.1,.int .i64 q.2]),recovered:=false}]
theorem XcN{rb n:Nat}{tv:Value}{L:List Xh}{h:Xl}{c:Xp}{u:World}(hG:RSt rb tv L n h c u)(hl:XC (L.drop n))(hD:L.length<=1000000):
 Calls Tryz.prog 81 #[.pointer (some ⟨rb,0,none⟩),.int .i64 4,.slice none 0 0] u (Xvs rb tv L h c (QA (L.drop n)) u):=by
 obtain⟨S,R,C,A,hE,hS,hR,hC,hA⟩:=hG;refine(ZM hE.rd hl hD 4 (.slice none 0 0) (λ_=>true) (Or.inl ⟨rfl,rfl⟩)).mono ?_;rintro e w' ⟨hg,hx⟩;have hb:Below rb u w':=Below.grown brf hg (Nat.le_of_lt hE.rd.lt) (λk hk=>by injection hk with hk;omega);refine⟨hb,?_⟩;show match XP 4 (λ_=>true) (L.drop n) with|.ok (s,r)=>_|.error q=>_
 cases ht:XP 4 (λ_=>true) (L.drop n) with
 |error q=>rw[ht] at hx;exact hx
 |ok v=>
  obtain⟨s,r⟩:=v;rw[ht] at hx;obtain⟨h1,m,h2,h3⟩:=hx;have e1:=Yr 4 (λ_=>true) _ _ _ ht;have e2:=congrArg List.length h2;simp only[List.length_drop] at e1 e2;exact⟨h1,m,h2,S,R,C,A,hE.kept hg h3 (by omega),hS,hR,hC,hA⟩
theorem RSt.grown{rb n m:Nat}{tv:Value}{L:List Xh}{h:Xl}{c:Xp}{S:Sl Xd}{R:Sl Xt}{C:Sl Xn}{A:Sl (ByteArray×ByteArray)}{x y:World}(hD:RIn rb tv L n h.name h.aH S R C A x)(hS:S.l.map Xd.pl=h.aA)(hR:R.l=h.aB)(hC:C.l.map Xn.pl=c.aC)(hA:A.l=c.apart)(hg:x.grownBy y (some rb))(hr:Rd0 rb tv L m (Ya h.name h.aH S R C A) y)(hE:n<=m):RSt rb tv L m h c y:=
 ⟨S,R,C,A,hD.kept hg hr hE,hS,hR,hC,hA⟩
theorem J5{L r:List Xh}{n m:Nat}{t:Xh}(h:L.drop n=t::r)(h2:L.drop m=r)(hl:XC r):m=n+1:=by
 have e1:=congrArg List.length h;have e2:=congrArg List.length h2;have e3:r.length≠0:=λe=>hl.ne (List.eq_nil_of_length_eq_zero e);simp only[List.length_drop,List.length_cons] at e1 e2;omega
theorem Xs4{rb n:Nat}{tv:Value}{L:List Xh}{h0:Xl}{c0:Xp}{u w0:World}(h:RSt rb tv L n h0 c0 u)(hl:XC (L.drop n))(hD:L.length<=1000000)(pM:∀t∈L,t.text.size<=1000000)(hc:Ctx w0 rb u){lw:ByteArray}{r:List Xh}(hw:XP 1 XM (L.drop n)=.ok (lw,r))(pA:bs lw=Xjp):
 Calls Tryz.prog 85 #[.pointer (some ⟨rb,0,none⟩)] u (JM rb tv L (Ye h0 c0 (L.drop n)) u):=by
 obtain⟨S,R,C,A,hL,hS,hR,hC,hA⟩:=h;obtain⟨t,rr,hM,pB,pN,pV⟩:=hl.head;have hO:r=rr/\t.kind=1:=by
  rw[hM] at hw;simp only[XP] at hw;split at hw
  ·rename_i hk
   simp only[Except.ok.injEq,Prod.mk.injEq] at hw;exact⟨hw.2.symm,hk.1⟩
  ·cases hw
 obtain⟨hO,pW⟩:=hO;have hE:t.kind≠5:=by omega
 subst hO;have HE:=Xa (XaY (h:=h0) (c:=c0) hw);have HW:=Xa hw;have pC:XC r:=XC.tail (hM▸hl) hE;have pD:=Xa pC;have pO:=Xa hL;have HC:=Xa hc;have hP:=hL.rd.lt;obtain⟨U,hU,pP,hQ,pE⟩:=boxed u (.cells #[.string ⟨#[114,111,111,102]⟩,.string ⟨#[115,101,116]⟩,.string ⟨#[105,116,101,109]⟩,.string ⟨#[98,114,105,99,107]⟩,.string ⟨#[99,117,101]⟩,.string ⟨#[109,111,118,101]⟩,.string ⟨#[97,112,97,114,116]⟩] 9);have KT:=Xa (ZM (hL.rd.more hQ) hl hD 1 _ XM (QO ZT (by decide) (by decide) pE XM Qa 7));have pF:=Xa (XD (g:=some rb) hQ)
 have hT:=Xa hM;have pX:=Xa pB;have pQ:=Xa hl;have HU:=Xa hU;clear hc hL hU pP hQ pE hw hM pB pN hl pC;go_enter Tryz.func85,Tryz.ntmps85;go_wp2_with fail;rw[<-HU.out];refine KT.out.mono ?_;rintro e w2 ⟨pG,hx⟩;rw[HW.out] at hx;obtain⟨rfl,m2,h2,h3⟩:=hx;obtain rfl:=J5 hT.out h2 pD.out;have hV:=Xa (XG pF.out pG);have pR:=Xa (RSt.grown pO.out hS hR hC hA hV.out h3 (by omega));have pS:=Xa (HC.out.grown hV.out);have pH:=Xa h2;have pY:=Xa h3;clear pG h2 h3 KT pF HU;have hW:lw.toList=[115,101,116]:=pA;have q0:(lw.toList==[114,111,111,102])=false:=by rw[hW];rfl
 have q1:(lw.toList==[115,101,116])=true:=by rw[hW];rfl
 clear hW;have KS:=Xa (XuB pR.out (Xbt (L.drop n)) (by rw[pH.out];exact pD.out) hD pM pS.out);rw[pH.out,<-pA] at KS;go_wp2_with fail;refine KS.out.mono ?_;rintro e w3 ⟨pI,hG⟩;have pJ:=(Below.grown (Below.refl rb u) hV.out (Nat.le_of_lt hP) (λk hk=>by injection hk with hk;omega)).trans pI;have pK:=Xa pJ;have hX:=Xd9 h0 c0 (bs lw) r (show Xbt (L.drop n)=(t.line,t.col) by rw[hT.out];rfl) hE (hT.out▸pQ.out);cases hH:X3 h0 c0 (bs lw) (Xbt (L.drop n)) r with
 |error q=>
  rw[hH] at hG;simp only at hG;subst hG;refine⟨rfl,pK.out,?_⟩;rw[HE.out,hH];rfl
 |ok v=>
  obtain⟨⟨h1,c1⟩,r3⟩:=v;rw[hH] at hG hX;obtain⟨rfl,m3,hY,hI⟩:=hG;have KE:=Xa (XcN hI (by rw[hY];exact hX.2) hD);rw[hY] at KE;have hJ:=Xa (HE.out.trans (by rw[hH];rfl:_=Xr (QA r3) λ_ r=> .ok ((h1,c1),r)));clear hX hH hY hI pI pJ KS;go_wp2_with fail;refine KE.out.mono ?_;rintro e w4 ⟨pT,hK⟩;have pL:=Xa (pK.out.trans pT);cases hN:QA r3 with
  |error q=>
   rw[hN] at hK;simp only at hK;subst hK;refine⟨rfl,pL.out,?_⟩;rw[hJ.out,hN];rfl
  |ok v=>
   obtain⟨s,r4⟩:=v;rw[hN] at hK;obtain⟨rfl,m4,pU,hZ⟩:=hK;clear KE;go_wp2_with fail;go_end0;refine⟨pL.out,?_⟩;rw[hJ.out,hN];exact⟨rfl,m4,pU,hZ⟩
theorem Xrv{rb n:Nat}{tv:Value}{L:List Xh}{h0:Xl}{c0:Xp}{u w0:World}(h:RSt rb tv L n h0 c0 u)(hl:XC (L.drop n))(hD:L.length<=1000000)(pM:∀t∈L,t.text.size<=1000000)(hc:Ctx w0 rb u){lw:ByteArray}{r:List Xh}(hw:XP 1 XM (L.drop n)=.ok (lw,r))(pA:bs lw=Xc0):
 Calls Tryz.prog 85 #[.pointer (some ⟨rb,0,none⟩)] u (JM rb tv L (Ye h0 c0 (L.drop n)) u):=by
 obtain⟨S,R,C,A,hL,hS,hR,hC,hA⟩:=h;obtain⟨t,rr,hM,pB,pN,pW⟩:=hl.head;have hQ:r=rr/\t.kind=1:=by
  rw[hM] at hw;simp only[XP] at hw;split at hw
  ·rename_i hk
   simp only[Except.ok.injEq,Prod.mk.injEq] at hw;exact⟨hw.2.symm,hk.1⟩
  ·cases hw
 obtain⟨hQ,pX⟩:=hQ;have hE:t.kind≠5:=by omega
 subst hQ;have HE:=Xa (XaY (h:=h0) (c:=c0) hw);have HW:=Xa hw;have pC:XC r:=XC.tail (hM▸hl) hE;have pD:=Xa pC;have pO:=Xa hL;have HC:=Xa hc;have hT:=hL.rd.lt;obtain⟨U,hU,pP,hV,pE⟩:=boxed u (.cells #[.string ⟨#[114,111,111,102]⟩,.string ⟨#[115,101,116]⟩,.string ⟨#[105,116,101,109]⟩,.string ⟨#[98,114,105,99,107]⟩,.string ⟨#[99,117,101]⟩,.string ⟨#[109,111,118,101]⟩,.string ⟨#[97,112,97,114,116]⟩] 9);have KT:=Xa (ZM (hL.rd.more hV) hl hD 1 _ XM (QO ZT (by decide) (by decide) pE XM Qa 7));have pF:=Xa (XD (g:=some rb) hV)
 have hN:=Xa hM;have pQ:=Xa pB;have pR:=Xa hl;have HU:=Xa hU;clear hc hL hU pP hV pE hw hM pB pN hl pC;go_enter Tryz.func85,Tryz.ntmps85;go_wp2_with fail;rw[<-HU.out];refine KT.out.mono ?_;rintro e w2 ⟨pG,hx⟩;rw[HW.out] at hx;obtain⟨rfl,m2,h2,h3⟩:=hx;obtain rfl:=J5 hN.out h2 pD.out;have hW:=Xa (XG pF.out pG);have pS:=Xa (RSt.grown pO.out hS hR hC hA hW.out h3 (by omega));have pT:=Xa (HC.out.grown hW.out);have pH:=Xa h2;have pY:=Xa h3;clear pG h2 h3 KT pF HU;have hO:lw.toList=[105,116,101,109]:=pA;have q0:(lw.toList==[114,111,111,102])=false:=by rw[hO];rfl
 have q1:(lw.toList==[115,101,116])=false:=by rw[hO];rfl
 have q2:(lw.toList==[105,116,101,109])=true:=by rw[hO];rfl
 clear hO;have KS:=Xa (Xtg pS.out pQ.out (by rw[pH.out];exact pD.out) hD pM pT.out);rw[show((t.line,t.col):Int×Int)=Xbt (L.drop n) by rw[hN.out];rfl] at KS;rw[pH.out,<-pA] at KS;go_wp2_with fail;refine KS.out.mono ?_;rintro e w3 ⟨pI,hG⟩;have pJ:=(Below.grown (Below.refl rb u) hW.out (Nat.le_of_lt hT) (λk hk=>by injection hk with hk;omega)).trans pI;have pK:=Xa pJ;have hX:=Xd9 h0 c0 (bs lw) r (show Xbt (L.drop n)=(t.line,t.col) by rw[hN.out];rfl) hE (hN.out▸pR.out);cases hH:X3 h0 c0 (bs lw) (Xbt (L.drop n)) r with
 |error q=>
  rw[hH] at hG;simp only at hG;subst hG;refine⟨rfl,pK.out,?_⟩;rw[HE.out,hH];rfl
 |ok v=>
  obtain⟨⟨h1,c1⟩,r3⟩:=v;rw[hH] at hG hX;obtain⟨rfl,m3,hY,hI⟩:=hG;have KE:=Xa (XcN hI (by rw[hY];exact hX.2) hD);rw[hY] at KE;have hJ:=Xa (HE.out.trans (by rw[hH];rfl:_=Xr (QA r3) λ_ r=> .ok ((h1,c1),r)));clear hX hH hY hI pI pJ KS;go_wp2_with fail;refine KE.out.mono ?_;rintro e w4 ⟨pU,hK⟩;have pL:=Xa (pK.out.trans pU);cases hP:QA r3 with
  |error q=>
   rw[hP] at hK;simp only at hK;subst hK;refine⟨rfl,pL.out,?_⟩;rw[hJ.out,hP];rfl
  |ok v=>
   obtain⟨s,r4⟩:=v;rw[hP] at hK;obtain⟨rfl,m4,pV,hZ⟩:=hK;clear KE;go_wp2_with fail;go_end0;refine⟨pL.out,?_⟩;rw[hJ.out,hP];exact⟨rfl,m4,pV,hZ⟩
theorem Xpd{rb n:Nat}{tv:Value}{L:List Xh}{h0:Xl}{c0:Xp}{u w0:World}(h:RSt rb tv L n h0 c0 u)(hl:XC (L.drop n))(hD:L.length<=1000000)(pM:∀t∈L,t.text.size<=1000000)(hc:Ctx w0 rb u){lw:ByteArray}{r:List Xh}(hw:XP 1 XM (L.drop n)=.ok (lw,r))(pA:bs lw=Xat):
 Calls Tryz.prog 85 #[.pointer (some ⟨rb,0,none⟩)] u (JM rb tv L (Ye h0 c0 (L.drop n)) u):=by
 obtain⟨S,R,C,A,hM,hS,hR,hC,hA⟩:=h;obtain⟨t,rr,hN,pB,pN,pW⟩:=hl.head;have hQ:r=rr/\t.kind=1:=by
  rw[hN] at hw;simp only[XP] at hw;split at hw
  ·rename_i hk
   simp only[Except.ok.injEq,Prod.mk.injEq] at hw;exact⟨hw.2.symm,hk.1⟩
  ·cases hw
 obtain⟨hQ,pX⟩:=hQ;have hE:t.kind≠5:=by omega
 subst hQ;have HE:=Xa (XaY (h:=h0) (c:=c0) hw);have HW:=Xa hw;have pC:XC r:=XC.tail (hN▸hl) hE;have pD:=Xa pC;have pO:=Xa hM;have HC:=Xa hc;have hT:=hM.rd.lt;obtain⟨U,hU,pP,hV,pE⟩:=boxed u (.cells #[.string ⟨#[114,111,111,102]⟩,.string ⟨#[115,101,116]⟩,.string ⟨#[105,116,101,109]⟩,.string ⟨#[98,114,105,99,107]⟩,.string ⟨#[99,117,101]⟩,.string ⟨#[109,111,118,101]⟩,.string ⟨#[97,112,97,114,116]⟩] 9);have KT:=Xa (ZM (hM.rd.more hV) hl hD 1 _ XM (QO ZT (by decide) (by decide) pE XM Qa 7));have pF:=Xa (XD (g:=some rb) hV)
 have hO:=Xa hN;have pQ:=Xa pB;have pR:=Xa hl;have HU:=Xa hU;clear hc hM hU pP hV pE hw hN pB pN hl pC;go_enter Tryz.func85,Tryz.ntmps85;go_wp2_with fail;rw[<-HU.out];refine KT.out.mono ?_;rintro e w2 ⟨pG,hx⟩;rw[HW.out] at hx;obtain⟨rfl,m2,h2,h3⟩:=hx;obtain rfl:=J5 hO.out h2 pD.out;have hW:=Xa (XG pF.out pG);have pS:=Xa (RSt.grown pO.out hS hR hC hA hW.out h3 (by omega));have pT:=Xa (HC.out.grown hW.out);have pH:=Xa h2;have pY:=Xa h3;clear pG h2 h3 KT pF HU;have hG:lw.toList=[98,114,105,99,107]:=pA;have q0:(lw.toList==[114,111,111,102])=false:=by rw[hG];rfl
 have q1:(lw.toList==[115,101,116])=false:=by rw[hG];rfl
 have q2:(lw.toList==[105,116,101,109])=false:=by rw[hG];rfl
 have q3:(lw.toList==[98,114,105,99,107])=true:=by rw[hG];rfl
 clear hG;have KS:=Xa (Xse pS.out pQ.out (by rw[pH.out];exact pD.out) hD pM pT.out);rw[show((t.line,t.col):Int×Int)=Xbt (L.drop n) by rw[hO.out];rfl] at KS;rw[pH.out,<-pA] at KS;go_wp2_with fail;refine KS.out.mono ?_;rintro e w3 ⟨pI,hH⟩;have pJ:=(Below.grown (Below.refl rb u) hW.out (Nat.le_of_lt hT) (λk hk=>by injection hk with hk;omega)).trans pI;have pK:=Xa pJ;have hX:=Xd9 h0 c0 (bs lw) r (show Xbt (L.drop n)=(t.line,t.col) by rw[hO.out];rfl) hE (hO.out▸pR.out);cases hI:X3 h0 c0 (bs lw) (Xbt (L.drop n)) r with
 |error q=>
  rw[hI] at hH;simp only at hH;subst hH;refine⟨rfl,pK.out,?_⟩;rw[HE.out,hI];rfl
 |ok v=>
  obtain⟨⟨h1,c1⟩,r3⟩:=v;rw[hI] at hH hX;obtain⟨rfl,m3,hY,hJ⟩:=hH;have KE:=Xa (XcN hJ (by rw[hY];exact hX.2) hD);rw[hY] at KE;have hK:=Xa (HE.out.trans (by rw[hI];rfl:_=Xr (QA r3) λ_ r=> .ok ((h1,c1),r)));clear hX hI hY hJ pI pJ KS;go_wp2_with fail;refine KE.out.mono ?_;rintro e w4 ⟨pU,hL⟩;have pL:=Xa (pK.out.trans pU);cases hP:QA r3 with
  |error q=>
   rw[hP] at hL;simp only at hL;subst hL;refine⟨rfl,pL.out,?_⟩;rw[hK.out,hP];rfl
  |ok v=>
   obtain⟨s,r4⟩:=v;rw[hP] at hL;obtain⟨rfl,m4,pV,hZ⟩:=hL;clear KE;go_wp2_with fail;go_end0;refine⟨pL.out,?_⟩;rw[hK.out,hP];exact⟨rfl,m4,pV,hZ⟩
theorem Xs5{rb n:Nat}{tv:Value}{L:List Xh}{h0:Xl}{c0:Xp}{u w0:World}(h:RSt rb tv L n h0 c0 u)(hl:XC (L.drop n))(hD:L.length<=1000000)(pM:∀t∈L,t.text.size<=1000000)(hc:Ctx w0 rb u){lw:ByteArray}{r:List Xh}(hw:XP 1 XM (L.drop n)=.ok (lw,r))(pA:bs lw=Xhz):
 Calls Tryz.prog 85 #[.pointer (some ⟨rb,0,none⟩)] u (JM rb tv L (Ye h0 c0 (L.drop n)) u):=by
 obtain⟨S,R,C,A,hM,hS,hR,hC,hA⟩:=h;obtain⟨t,rr,hN,pB,pN,pV⟩:=hl.head;have hP:r=rr/\t.kind=1:=by
  rw[hN] at hw;simp only[XP] at hw;split at hw
  ·rename_i hk
   simp only[Except.ok.injEq,Prod.mk.injEq] at hw;exact⟨hw.2.symm,hk.1⟩
  ·cases hw
 obtain⟨hP,pW⟩:=hP;have hG:t.kind≠5:=by omega
 subst hP;have HE:=Xa (XaY (h:=h0) (c:=c0) hw);have HW:=Xa hw;have pC:XC r:=XC.tail (hN▸hl) hG;have pD:=Xa pC;have pO:=Xa hM;have HC:=Xa hc;have hQ:=hM.rd.lt;obtain⟨U,hU,pP,hT,pE⟩:=boxed u (.cells #[.string ⟨#[114,111,111,102]⟩,.string ⟨#[115,101,116]⟩,.string ⟨#[105,116,101,109]⟩,.string ⟨#[98,114,105,99,107]⟩,.string ⟨#[99,117,101]⟩,.string ⟨#[109,111,118,101]⟩,.string ⟨#[97,112,97,114,116]⟩] 9);have KT:=Xa (ZM (hM.rd.more hT) hl hD 1 _ XM (QO ZT (by decide) (by decide) pE XM Qa 7));have pF:=Xa (XD (g:=some rb) hT)
 have hV:=Xa hN;have pX:=Xa pB;have pQ:=Xa hl;have HU:=Xa hU;clear hc hM hU pP hT pE hw hN pB pN hl pC;go_enter Tryz.func85,Tryz.ntmps85;go_wp2_with fail;rw[<-HU.out];refine KT.out.mono ?_;rintro e w2 ⟨pG,hx⟩;rw[HW.out] at hx;obtain⟨rfl,m2,h2,h3⟩:=hx;obtain rfl:=J5 hV.out h2 pD.out;have hW:=Xa (XG pF.out pG);have pR:=Xa (RSt.grown pO.out hS hR hC hA hW.out h3 (by omega));have pS:=Xa (HC.out.grown hW.out);have pH:=Xa h2;have pY:=Xa h3;clear pG h2 h3 KT pF HU;have hE:lw.toList=[99,117,101]:=pA;have q0:(lw.toList==[114,111,111,102])=false:=by rw[hE];rfl
 have q1:(lw.toList==[115,101,116])=false:=by rw[hE];rfl
 have q2:(lw.toList==[105,116,101,109])=false:=by rw[hE];rfl
 have q3:(lw.toList==[98,114,105,99,107])=false:=by rw[hE];rfl
 have q4:(lw.toList==[99,117,101])=true:=by rw[hE];rfl
 clear hE;have KS:=Xa (Xvc pR.out (Xbt (L.drop n)) (by rw[pH.out];exact pD.out) hD pM pS.out);rw[pH.out,<-pA] at KS;go_wp2_with fail;refine KS.out.mono ?_;rintro e w3 ⟨pI,hH⟩;have pJ:=(Below.grown (Below.refl rb u) hW.out (Nat.le_of_lt hQ) (λk hk=>by injection hk with hk;omega)).trans pI;have pK:=Xa pJ;have hX:=Xd9 h0 c0 (bs lw) r (show Xbt (L.drop n)=(t.line,t.col) by rw[hV.out];rfl) hG (hV.out▸pQ.out);cases hI:X3 h0 c0 (bs lw) (Xbt (L.drop n)) r with
 |error q=>
  rw[hI] at hH;simp only at hH;subst hH;refine⟨rfl,pK.out,?_⟩;rw[HE.out,hI];rfl
 |ok v=>
  obtain⟨⟨h1,c1⟩,r3⟩:=v;rw[hI] at hH hX;obtain⟨rfl,m3,hY,hJ⟩:=hH;have KE:=Xa (XcN hJ (by rw[hY];exact hX.2) hD);rw[hY] at KE;have hK:=Xa (HE.out.trans (by rw[hI];rfl:_=Xr (QA r3) λ_ r=> .ok ((h1,c1),r)));clear hX hI hY hJ pI pJ KS;go_wp2_with fail;refine KE.out.mono ?_;rintro e w4 ⟨pT,hL⟩;have pL:=Xa (pK.out.trans pT);cases hO:QA r3 with
  |error q=>
   rw[hO] at hL;simp only at hL;subst hL;refine⟨rfl,pL.out,?_⟩;rw[hK.out,hO];rfl
  |ok v=>
   obtain⟨s,r4⟩:=v;rw[hO] at hL;obtain⟨rfl,m4,pU,hZ⟩:=hL;clear KE;go_wp2_with fail;go_end0;refine⟨pL.out,?_⟩;rw[hK.out,hO];exact⟨rfl,m4,pU,hZ⟩
theorem Xru{rb n:Nat}{tv:Value}{L:List Xh}{h0:Xl}{c0:Xp}{u w0:World}(h:RSt rb tv L n h0 c0 u)(hl:XC (L.drop n))(hD:L.length<=1000000)(pM:∀t∈L,t.text.size<=1000000)(hc:Ctx w0 rb u){lw:ByteArray}{r:List Xh}(hw:XP 1 XM (L.drop n)=.ok (lw,r))(pA:bs lw=XcZ):
 Calls Tryz.prog 85 #[.pointer (some ⟨rb,0,none⟩)] u (JM rb tv L (Ye h0 c0 (L.drop n)) u):=by
 obtain⟨S,R,C,A,hM,hS,hR,hC,hA⟩:=h;obtain⟨t,rr,hN,pB,pN,pW⟩:=hl.head;have hQ:r=rr/\t.kind=1:=by
  rw[hN] at hw;simp only[XP] at hw;split at hw
  ·rename_i hk
   simp only[Except.ok.injEq,Prod.mk.injEq] at hw;exact⟨hw.2.symm,hk.1⟩
  ·cases hw
 obtain⟨hQ,pX⟩:=hQ;have hG:t.kind≠5:=by omega
 subst hQ;have HE:=Xa (XaY (h:=h0) (c:=c0) hw);have HW:=Xa hw;have pC:XC r:=XC.tail (hN▸hl) hG;have pD:=Xa pC;have pO:=Xa hM;have HC:=Xa hc;have hT:=hM.rd.lt;obtain⟨U,hU,pP,hV,pE⟩:=boxed u (.cells #[.string ⟨#[114,111,111,102]⟩,.string ⟨#[115,101,116]⟩,.string ⟨#[105,116,101,109]⟩,.string ⟨#[98,114,105,99,107]⟩,.string ⟨#[99,117,101]⟩,.string ⟨#[109,111,118,101]⟩,.string ⟨#[97,112,97,114,116]⟩] 9);have KT:=Xa (ZM (hM.rd.more hV) hl hD 1 _ XM (QO ZT (by decide) (by decide) pE XM Qa 7));have pF:=Xa (XD (g:=some rb) hV)
 have hO:=Xa hN;have pQ:=Xa pB;have pR:=Xa hl;have HU:=Xa hU;clear hc hM hU pP hV pE hw hN pB pN hl pC;go_enter Tryz.func85,Tryz.ntmps85;go_wp2_with fail;rw[<-HU.out];refine KT.out.mono ?_;rintro e w2 ⟨pG,hx⟩;rw[HW.out] at hx;obtain⟨rfl,m2,h2,h3⟩:=hx;obtain rfl:=J5 hO.out h2 pD.out;have hW:=Xa (XG pF.out pG);have pS:=Xa (RSt.grown pO.out hS hR hC hA hW.out h3 (by omega));have pT:=Xa (HC.out.grown hW.out);have pH:=Xa h2;have pY:=Xa h3;clear pG h2 h3 KT pF HU;have hE:lw.toList=[109,111,118,101]:=pA;have q0:(lw.toList==[114,111,111,102])=false:=by rw[hE];rfl
 have q1:(lw.toList==[115,101,116])=false:=by rw[hE];rfl
 have q2:(lw.toList==[105,116,101,109])=false:=by rw[hE];rfl
 have q3:(lw.toList==[98,114,105,99,107])=false:=by rw[hE];rfl
 have q4:(lw.toList==[99,117,101])=false:=by rw[hE];rfl
 have q5:(lw.toList==[109,111,118,101])=true:=by rw[hE];rfl
 clear hE;have KS:=Xa (XsY pS.out pQ.out (by rw[pH.out];exact pD.out) hD pM pT.out);rw[show((t.line,t.col):Int×Int)=Xbt (L.drop n) by rw[hO.out];rfl] at KS;rw[pH.out,<-pA] at KS;go_wp2_with fail;refine KS.out.mono ?_;rintro e w3 ⟨pI,hH⟩;have pJ:=(Below.grown (Below.refl rb u) hW.out (Nat.le_of_lt hT) (λk hk=>by injection hk with hk;omega)).trans pI;have pK:=Xa pJ;have hX:=Xd9 h0 c0 (bs lw) r (show Xbt (L.drop n)=(t.line,t.col) by rw[hO.out];rfl) hG (hO.out▸pR.out);cases hI:X3 h0 c0 (bs lw) (Xbt (L.drop n)) r with
 |error q=>
  rw[hI] at hH;simp only at hH;subst hH;refine⟨rfl,pK.out,?_⟩;rw[HE.out,hI];rfl
 |ok v=>
  obtain⟨⟨h1,c1⟩,r3⟩:=v;rw[hI] at hH hX;obtain⟨rfl,m3,hY,hJ⟩:=hH;have KE:=Xa (XcN hJ (by rw[hY];exact hX.2) hD);rw[hY] at KE;have hK:=Xa (HE.out.trans (by rw[hI];rfl:_=Xr (QA r3) λ_ r=> .ok ((h1,c1),r)));clear hX hI hY hJ pI pJ KS;go_wp2_with fail;refine KE.out.mono ?_;rintro e w4 ⟨pU,hL⟩;have pL:=Xa (pK.out.trans pU);cases hP:QA r3 with
  |error q=>
   rw[hP] at hL;simp only at hL;subst hL;refine⟨rfl,pL.out,?_⟩;rw[hK.out,hP];rfl
  |ok v=>
   obtain⟨s,r4⟩:=v;rw[hP] at hL;obtain⟨rfl,m4,pV,hZ⟩:=hL;clear KE;go_wp2_with fail;go_end0;refine⟨pL.out,?_⟩;rw[hK.out,hP];exact⟨rfl,m4,pV,hZ⟩
end Go.Proofs.YtdcahhbipeaggaaGreatDoor
namespace Go.Proofs.YtdcahhbipeaggaaGreatDoor
open Go.RowKit
theorem XpH(h:Xl)(c:Xp)(p:Int×Int)(ts:List Xh):X3 h c Xeh p ts=Xr (Xby ts) λx r=> .ok (({h with aB:=h.aB++[x]},c),r):=by rw[X3,if_pos rfl]
theorem Xn1(h:Xl)(c:Xp)(p:Int×Int)(ts:List Xh):X3 h c Xcq p ts=Xr (JK ts) λx r=> .ok ((h,{c with apart:=c.apart++[x]}),r):=by
 rw[X3,if_neg (by decide),if_neg (by decide),if_neg (by decide),if_neg (by decide),if_neg (by decide),if_neg (by decide)]
theorem XoE{ts:List Xh}{q:Int×Int}(h:XT ts=.error q):Xby ts=.error q:=by rw[Xby,h];rfl
theorem XoD{ts r:List Xh}{nm:ByteArray}{q:Int×Int}(h:XT ts=.ok (nm,r))(h2:XY 3 r=.error q):Xby ts=.error q:=by rw[Xby,h];simp only[Xr];rw[h2]
theorem XsH{ts r r2:List Xh}{nm:ByteArray}{a:List Int}(h:XT ts=.ok (nm,r))(h2:XY 3 r=.ok (a,r2)):Xby ts=.ok (⟨nm,nth a 0,nth a 1,nth a 2⟩,r2):=by rw[Xby,h];simp only[Xr];rw[h2]
theorem XpN{ts:List Xh}{q:Int×Int}(h:XT ts=.error q):JK ts=.error q:=by rw[JK,h];rfl
theorem XpM{ts r:List Xh}{a:ByteArray}{q:Int×Int}(h:XT ts=.ok (a,r))(h2:XT r=.error q):JK ts=.error q:=by rw[JK,h];simp only[Xr];rw[h2]
theorem Xsn{ts r r2:List Xh}{a b:ByteArray}(h:XT ts=.ok (a,r))(h2:XT r=.ok (b,r2)):JK ts=.ok ((a,b),r2):=by rw[JK,h];simp only[Xr];rw[h2]
theorem Xtq:(Tryz.prog.info? 67).map (λi=>(i.zero,i.size,i.bytes))=some (some (.agg #[.string ⟨#[]⟩,.int .i64 0,.int .i64 0,.int .i64 0]),4,40):=by kernel_rfl
theorem Xtr:(Tryz.prog.info? 73).map (λi=>(i.zero,i.size,i.bytes))=some (some (.agg #[.string ⟨#[]⟩,.string ⟨#[]⟩]),2,32):=by kernel_rfl
theorem Xrt{rb n:Nat}{tv:Value}{L:List Xh}{h0:Xl}{c0:Xp}{u w0:World}(h:RSt rb tv L n h0 c0 u)(hl:XC (L.drop n))(hD:L.length<=1000000)(qB:∀t∈L,t.text.size<=1000000)(hc:Ctx w0 rb u){lw:ByteArray}{r:List Xh}(hw:XP 1 XM (L.drop n)=.ok (lw,r))(pK:bs lw=Xeh):
 Calls Tryz.prog 85 #[.pointer (some ⟨rb,0,none⟩)] u (JM rb tv L (Ye h0 c0 (L.drop n)) u):=by
 obtain⟨S,R,C,A,hT,hS,hR,hC,hA⟩:=h;obtain⟨t,rr,hV,pL,qC,qR⟩:=hl.head;have hY:r=rr/\t.kind=1:=by
  rw[hV] at hw;simp only[XP] at hw;split at hw
  ·rename_i hk
   simp only[Except.ok.injEq,Prod.mk.injEq] at hw;exact⟨hw.2.symm,hk.1⟩
  ·cases hw
 obtain⟨hY,qS⟩:=hY;have hZ:t.kind≠5:=by omega
 subst hY;have HE:=Xa (XaY (h:=h0) (c:=c0) hw);have HW:=Xa hw;have pM:XC r:=XC.tail (hV▸hl) hZ;have pA:=Xa pM;have hW:=Xa hT;have HC:=Xa hc;have hL:=hT.rd.lt;obtain⟨U,hU,qD,pB,pN⟩:=boxed u (.cells #[.string ⟨#[114,111,111,102]⟩,.string ⟨#[115,101,116]⟩,.string ⟨#[105,116,101,109]⟩,.string ⟨#[98,114,105,99,107]⟩,.string ⟨#[99,117,101]⟩,.string ⟨#[109,111,118,101]⟩,.string ⟨#[97,112,97,114,116]⟩] 9);have KT:=Xa (ZM (hT.rd.more pB) hl hD 1 _ XM (QO ZT (by decide) (by decide) pN XM Qa 7));have pO:=Xa (XD (g:=some rb) pB)
 have qE:=Xa hV;have qT:=Xa pL;have qU:=Xa hl;have HU:=Xa hU;clear hc hT hU qD pB pN hw hV pL qC hl pM;go_enter Tryz.func85,Tryz.ntmps85;go_wp2_with fail;rw[<-HU.out];refine KT.out.mono ?_;rintro e w2 ⟨pP,hx⟩;rw[HW.out] at hx;obtain⟨rfl,m2,h2,h3⟩:=hx;obtain rfl:=J5 qE.out h2 pA.out;have pC:=Xa (XG pO.out pP);have qV:=Xa (RSt.grown hW.out hS hR hC hA pC.out h3 (by omega));have qW:=Xa (HC.out.grown pC.out);have pD:=Xa h2;have qF:=Xa h3;clear pP h2 h3 KT pO HU;have pQ:lw.toList=[114,111,111,102]:=pK;have q0:(lw.toList==[114,111,111,102])=true:=by rw[pQ];rfl
 clear pQ;have qG:=Xa hS;have qH:=Xa hR;have qI:=Xa hC;have qJ:=Xa hA;clear hS hR hC hA;have HB:=Xa (show X3 h0 c0 (bs lw) (Xbt (L.drop n)) r=Xr (Xby r) λx r=> .ok (({h0 with aB:=h0.aB++[x]},c0),r) by rw[pK,XpH]);have KN:=Xa (ZO qF.out (by rw[pD.out];exact pA.out) hD);rw[pD.out] at KN;go_wp2_with fail;refine KN.out.mono ?_;rintro e w3 ⟨pR,hx⟩;have pE:=Xa (XG pC.out pR);cases hN:XT r with
 |error q=>
  rw[hN] at hx;simp only at hx;subst hx;refine⟨rfl,Below.grown brf pE.out (Nat.le_of_lt hL) (λk hk=>by injection hk with hk;omega),?_⟩;rw[HE.out,HB.out,XoE hN];rfl
 |ok v=>
  obtain⟨nm,r3⟩:=v;rw[hN] at hx;obtain⟨rfl,m3,h2,h3⟩:=hx;have pF:=Y7 r pA.out;rw[hN] at pF;have H5:=Xa (show XC (L.drop m3) by rw[h2];exact pF.2);have qK:=Xa h3;have HN:=Xa (And.intro hN h2);clear h2 h3 hN pF KN pR;go_upto_region 4 with fail;have KP:=Xa (XfC [1,2,3] (cur:=#[.string nm,.int .i64 0,.int .i64 0,.int .i64 0]) (ty:=67) qK.out hW.out.low H5.out hD qB (HC.out.grown pE.out) (by intro o ho;simp at ho ⊢;omega) (by decide) 217 #[.pointer (some ⟨w3.heap.size,1,none⟩),.pointer (some ⟨w3.heap.size,2,none⟩),.pointer (some ⟨w3.heap.size,3,none⟩)] rfl 3);go_wp2_with fail
  refine KP.out.mono ?_;rintro e w5 ⟨pS,hx⟩;have HG:=Xa (XG pE.out pS);have HX:=Xa hx;obtain⟨sb,hG⟩:∃b,b=w3.heap.size:=⟨_,rfl⟩
  have pT:=Xa hG;clear pS hx KP hG;rw[show([1,2,3]:List Nat).length=3 from rfl] at HX;rw[<-pT.out] at HX;rw[<-pT.out];cases hH:XY 3 (L.drop m3) with
  |error q=>
   have h1:=HX.out;rw[hH] at h1;simp only at h1;subst h1;refine⟨rfl,Below.grown brf HG.out (Nat.le_of_lt hL) (λk hk=>by injection hk with hk;omega),?_⟩;rw[HE.out,HB.out,XoD HN.out.1 (by rw[<-HN.out.2];exact hH)];rfl
  |ok v=>
   obtain⟨l,r2⟩:=v;have h1:=HX.out;rw[hH] at h1;obtain⟨rfl,hsz,h2,m5,h3,h4⟩:=h1;have pU:=Qu 3 hH;obtain⟨a1,a2,a3,rfl⟩:∃a1 a2 a3,l=[a1,a2,a3]:=by
    match l,pU with
    |[a1,a2,a3],_=>exact⟨_,_,_,rfl⟩
   have qL:=Xa h4;have hM:=QZ 3 (L.drop m3) H5.out;rw[hH] at hM;have pG:=Xa (show XC (L.drop m5) by rw[h3];exact hM.2);clear hM
   have hI:=Xa (show Ye h0 c0 (L.drop n)=Xr (QA (L.drop m5)) λ_ r=> .ok (({h0 with aB:=h0.aB++[⟨nm,a1,a2,a3⟩]},c0),r) by
    rw[HE.out,HB.out,XsH HN.out.1 (by rw[<-HN.out.2];exact hH),h3];rfl)
   have h2:w5.heap[sb]? =some (.cells #[.string nm,.int .i64 a1,.int .i64 a2,.int .i64 a3] 67 (0,0)):=h2;have hlen:n+1<=m5:=by
    have e1:=Ym HN.out.1;have e2:=Zt 3 _ _ _ hH;have e3:=congrArg List.length h3;have e4:=congrArg List.length HN.out.2;have e5:=congrArg List.length pD.out;obtain⟨_,_,_,_,_,h9⟩:=pG.out.head;simp only[List.length_drop] at e1 e2 e3 e4 e5;omega
   obtain⟨i8,pV,pW,pX,pY⟩:=info_parts Xtq;have HI:=Xa (And.intro pV (And.intro pW (And.intro pX pY)));have hE:=Xa (hW.out.kept HG.out qL.out (by omega));have qM:=hW.out.aB.2;have qX:m5<=1000000:=by obtain⟨_,_,_,_,_,h9⟩:=pG.out.head;omega
   have qN:=hE.out.rd.lt;have c6:w5.cell? ⟨rb,5,none⟩=some (.slice R.A R.l.length R.cap):=(hE.out.rd.cellr 3).trans rfl;have hG:=Joins.cell_of_block h2;have qY:=hG 0;have qZ:=hG 1;have rA:=hG 2;have rB:=hG 3;clear pV pW pX pY hG HX h2 h3 h4 hH pU;go_wp2_with fail;go_region_law ((refine step_append_lies _ (by rfl) (.tmp 38) (.tmp 40) 23 (by rfl) (rb+1) 67 i8 (.agg #[.string ⟨#[]⟩,.int .i64 0,.int .i64 0,.int .i64 0]) 4 40 Tryz.underlying23 HI.out.1 HI.out.2.1 HI.out.2.2.1 HI.out.2.2.2 rfl (by omega) R.val R.l.length (R.l.flatMap Xt.cells) (by rfl) (hE.out.aB.1.alloc _) ⟨w5.heap.size,0,none⟩ 1 1 (Xt.cells ⟨nm,a1,a2,a3⟩) (by go_simp) rfl (World.news_of_block (heap_alloc_new w5 _)) (λu hu=>by simp[Xt.cells] at hu;rcases hu with rfl|rfl|rfl|rfl<;>rfl) (by omega) (by unfold maxLen;omega) (by omega) (by simp;omega) (w5.heap.size+1) (by simp) ?_;intro g4 cap4 w6 hJ hO pZ pH;obtain⟨⟨cv,rC⟩,rD,hK,hP⟩:=RIn.addRoof hE.out hJ (Q1 hO) pZ (by omega)))
   all_goals
    have pI:RSt rb tv L m5 {h0 with aB:=h0.aB++[⟨nm,a1,a2,a3⟩]} c0 _:=⟨S,_,C,A,hP,qG.out,by rw[<-qH.out],qI.out,qJ.out⟩
    go_simp;have qO:=Xa (((Below.grown (Below.refl rb u) HG.out (Nat.le_of_lt hL) (λk hk=>by injection hk with hk;omega))).trans (hK.mono nr));have KE:=Xa (XcN pI pG.out hD);clear hJ hO pZ pH hP hK;go_wp2_with fail;refine KE.out.mono ?_;rintro e w9 ⟨qP,hQ⟩;have qA:=Xa (qO.out.trans qP);cases hX:QA (L.drop m5) with
    |error q=>
     rw[hX] at hQ;simp only at hQ;subst hQ;refine⟨rfl,qA.out,?_⟩;rw[hI.out,hX];rfl
    |ok v=>
     obtain⟨s,r4⟩:=v;rw[hX] at hQ;obtain⟨rfl,m9,qQ,pJ⟩:=hQ;clear KE;go_wp2_with fail;go_end0;refine⟨qA.out,?_⟩;rw[hI.out,hX];exact⟨rfl,m9,qQ,pJ⟩
theorem Xpe{rb n:Nat}{tv:Value}{L:List Xh}{h0:Xl}{c0:Xp}{u w0:World}(h:RSt rb tv L n h0 c0 u)(hl:XC (L.drop n))(hD:L.length<=1000000)(_:∀t∈L,t.text.size<=1000000)(hc:Ctx w0 rb u){lw:ByteArray}{r:List Xh}(hw:XP 1 XM (L.drop n)=.ok (lw,r))(pR:bs lw=Xcq):
 Calls Tryz.prog 85 #[.pointer (some ⟨rb,0,none⟩)] u (JM rb tv L (Ye h0 c0 (L.drop n)) u):=by
 obtain⟨S,R,C,A,pB,hS,hR,hC,hA⟩:=h;obtain⟨t,rr,pC,pS,qD,qS⟩:=hl.head;have pG:r=rr/\t.kind=1:=by
  rw[pC] at hw;simp only[XP] at hw;split at hw
  ·rename_i hk
   simp only[Except.ok.injEq,Prod.mk.injEq] at hw;exact⟨hw.2.symm,hk.1⟩
  ·cases hw
 obtain⟨pG,qT⟩:=pG;have pH:t.kind≠5:=by omega
 subst pG;have HE:=Xa (XaY (h:=h0) (c:=c0) hw);have HW:=Xa hw;have pT:XC r:=XC.tail (pC▸hl) pH;have pI:=Xa pT;have pD:=Xa pB;have HC:=Xa hc;have hI:=pB.rd.lt;obtain⟨U,hU,qE,pJ,pU⟩:=boxed u (.cells #[.string ⟨#[114,111,111,102]⟩,.string ⟨#[115,101,116]⟩,.string ⟨#[105,116,101,109]⟩,.string ⟨#[98,114,105,99,107]⟩,.string ⟨#[99,117,101]⟩,.string ⟨#[109,111,118,101]⟩,.string ⟨#[97,112,97,114,116]⟩] 9);have KT:=Xa (ZM (pB.rd.more pJ) hl hD 1 _ XM (QO ZT (by decide) (by decide) pU XM Qa 7));have pV:=Xa (XD (g:=some rb) pJ)
 have qF:=Xa pC;have qU:=Xa pS;have qV:=Xa hl;have HU:=Xa hU;clear hc pB hU qE pJ pU hw pC pS qD hl pT;go_enter Tryz.func85,Tryz.ntmps85;go_wp2_with fail;rw[<-HU.out];refine KT.out.mono ?_;rintro e w2 ⟨pW,hx⟩;rw[HW.out] at hx;obtain⟨rfl,m2,h2,h3⟩:=hx;obtain rfl:=J5 qF.out h2 pI.out;have hT:=Xa (XG pV.out pW);have qW:=Xa (RSt.grown pD.out hS hR hC hA hT.out h3 (by omega));have qX:=Xa (HC.out.grown hT.out);have pK:=Xa h2;have pE:=Xa h3;clear pW h2 h3 KT pV HU;have hJ:lw.toList=[97,112,97,114,116]:=pR;have q0:(lw.toList==[114,111,111,102])=false:=by rw[hJ];rfl
 have q1:(lw.toList==[115,101,116])=false:=by rw[hJ];rfl
 have q2:(lw.toList==[105,116,101,109])=false:=by rw[hJ];rfl
 have q3:(lw.toList==[98,114,105,99,107])=false:=by rw[hJ];rfl
 have q4:(lw.toList==[99,117,101])=false:=by rw[hJ];rfl
 have q5:(lw.toList==[109,111,118,101])=false:=by rw[hJ];rfl
 clear hJ;have qG:=Xa hS;have qH:=Xa hR;have qI:=Xa hC;have qJ:=Xa hA;clear hS hR hC hA;have HB:=Xa (show X3 h0 c0 (bs lw) (Xbt (L.drop n)) r=Xr (JK r) λx r=> .ok ((h0,{c0 with apart:=c0.apart++[x]}),r) by rw[pR,Xn1]);have qK:=Xa (pD.out.kept hT.out pE.out (by omega));have c6:w2.cell? ⟨rb,7,none⟩=some (.slice A.A A.l.length A.cap):=(pE.out.cellr 5).trans rfl;have KN:=ZO (u:=w2.drew) ⟨pE.out.box,pE.out.toks⟩ (by rw[pK.out];exact pI.out) hD;rw[pK.out] at KN;cases hK:XT r with
 |error q=>
  have KE:=Xa (show Calls Tryz.prog 82 #[.pointer (some ⟨rb,0,none⟩)] w2.drew (λe w'=>w2.drew.grownBy w' (some rb)/\e=.panicked [{v:=.iface 170 (.agg #[.int .i64 q.1,.int .i64 q.2]),recovered:=false}]) from KN.mono (λe w' h=>by
   have h1:=h.2;rw[hK] at h1
   exact⟨h.1,h1⟩))
  clear KN;go_wp2_with fail;go_region_law ((go_simp;go_at_call 82;refine KE.out.mono ?_;rintro e w3 ⟨hL,rfl⟩;refine XdF (md:=.any) (a:=⟨#[],[]⟩) (w:=w3) ?_ ?_;focus (go_simp;exact⟨rfl,Below.grown brf (XG hT.out (Q1 hL)) (Nat.le_of_lt hI) (λk hk=>by injection hk with hk;omega),by rw[HE.out,HB.out,XpN hK];rfl⟩)))
  all_goals exact trivial
 |ok v=>
  obtain⟨na,r3⟩:=v
  have KO:=Xa (show Calls Tryz.prog 82 #[.pointer (some ⟨rb,0,none⟩)] w2.drew (λe w'=>w2.drew.grownBy w' (some rb)/\e=.returned (.string na)/\∃n,L.drop n=r3/\Rd0 rb tv L n (Ya h0.name h0.aH S R C A) w') from KN.mono (λe w' h=>by
   have h1:=h.2;rw[hK] at h1
   exact⟨h.1,h1⟩))
  have hM:=Y7 r pI.out;rw[hK] at hM;have pL:=Xa hM.2;have qY:=Ym hK;clear KN hM;cases hV:XT r3 with
  |error q=>
   have HA:=Xa (XpM hK hV);go_wp2_with fail
   go_region_law (first
    |(go_simp;go_at_call 82;refine pM.out.mono ?_;rintro e w4 ⟨hN,rfl⟩;refine XdF (md:=.any) (a:=⟨#[],[]⟩) (w:=w4) ?_ ?_;focus (go_simp;exact⟨rfl,Below.grown brf (XG pN.out hN) (Nat.le_of_lt hI) (λk hk=>by injection hk with hk;omega),by rw[HE.out,HB.out,HA.out];rfl⟩))
    |(go_simp;go_at_call 82;refine KO.out.mono ?_;rintro e w3 ⟨hL,rfl,m3,hO,hP⟩
      have pN:=Xa (XG hT.out (Q1 hL));have c63:w3.cell? ⟨rb,7,none⟩=some (.slice A.A A.l.length A.cap):=(hP.cellr 5).trans rfl
      have pM:=Xa (show Calls Tryz.prog 82 #[.pointer (some ⟨rb,0,none⟩)] w3 (λe w'=>w3.grownBy w' (some rb)/\e=.panicked [{v:=.iface 170 (.agg #[.int .i64 q.1,.int .i64 q.2]),recovered:=false}]) from(ZO hP (by rw[hO];exact pL.out) hD).mono (λe w' h=>by
       have h1:=h.2;rw[hO,hV] at h1
       exact⟨h.1,h1⟩))
      clear hO hL hP))
   all_goals exact trivial
  |ok v=>
   obtain⟨nb,r4⟩:=v;have hM:=Y7 r3 pL.out;rw[hV] at hM;have pX:=Xa hM.2;have qL:=Ym hV
   have HA:=Xa (show Ye h0 c0 (L.drop n)=Xr (QA r4) λ_ r=> .ok ((h0,{c0 with apart:=c0.apart++[(na,nb)]}),r) by
    rw[HE.out,HB.out,Xsn hK hV];rfl)
   obtain⟨i8,pY,pZ,qA,qB⟩:=info_parts Xtr;have HI:=Xa (And.intro pY (And.intro pZ (And.intro qA qB)));have qM:=pD.out.pairs.2;clear hM pY pZ qA qB;go_wp2_with fail
   go_region_law (first
    |(go_simp;go_at_call 82;refine pM.out.mono ?_;rintro e w4 ⟨hN,rfl,m4,hW,hX⟩
      have HG:=Xa (XG pN.out hN);have c64:w4.cell? ⟨rb,7,none⟩=some (.slice A.A A.l.length A.cap):=(hX.cellr 5).trans rfl;have c65:∀o,(w4.alloc o).cell? ⟨rb,7,none⟩=some (.slice A.A A.l.length A.cap):=λo=>(World.cell?_of_block (a:=⟨rb,7,none⟩) (heap_alloc_old w4 o hX.lt)).trans c64;have qZ:n+2<=m4/\m4<=1000000:=by
       have e1:=congrArg List.length hW;have e3:=congrArg List.length pK.out;obtain⟨_,_,_,_,_,h9⟩:=(show XC (L.drop m4) by rw[hW];exact pX.out).head;simp only[List.length_drop] at e1 e3;omega
      have hY:=Xa (pD.out.kept HG.out hX (by omega));have qN:=Xa (show XC (L.drop m4) by rw[hW];exact pX.out);have hE:=Xa (show Ye h0 c0 (L.drop n)=Xr (QA (L.drop m4)) λ_ r=> .ok ((h0,{c0 with apart:=c0.apart++[(na,nb)]}),r) by rw[hW];exact HA.out);have qO:=hX.lt
      clear hW hN hX)
    |(go_simp;go_at_call 82;refine KO.out.mono ?_;rintro e w3 ⟨hL,rfl,m3,hO,hP⟩
      have pN:=Xa (XG hT.out (Q1 hL));have c63:w3.cell? ⟨rb,7,none⟩=some (.slice A.A A.l.length A.cap):=(hP.cellr 5).trans rfl
      have pM:=Xa (show Calls Tryz.prog 82 #[.pointer (some ⟨rb,0,none⟩)] w3 (λe w'=>w3.grownBy w' (some rb)/\e=.returned (.string nb)/\∃n,L.drop n=r4/\Rd0 rb tv L n (Ya h0.name h0.aH S R C A) w') from(ZO hP (by rw[hO];exact pL.out) hD).mono (λe w' h=>by
       have h1:=h.2;rw[hO,hV] at h1
       exact⟨h.1,h1⟩))
      clear hO hL hP)
    |(refine step_append_lies _ (by rfl) (.tmp 11) (.tmp 17) 27 (by rfl) (rb+1) 73 i8 (.agg #[.string ⟨#[]⟩,.string ⟨#[]⟩]) 2 32 Tryz.underlying27 HI.out.1 HI.out.2.1 HI.out.2.2.1 HI.out.2.2.2 rfl (by omega) A.val A.l.length (A.l.flatMap X5) (by rfl) (hY.out.pairs.1.alloc _) ⟨w4.heap.size,0,none⟩ 1 1 (X5 (na,nb)) (by go_simp) rfl (World.news_of_block (heap_alloc_new w4 _)) (λu hu=>by simp[X5] at hu;rcases hu with rfl|rfl<;>rfl) (by omega) (by unfold maxLen;omega) (by omega) (by simp;omega) (w4.heap.size+1) (by simp) ?_;intro g4 cap4 w6 hG hQ hN pO;obtain⟨⟨cv,rA⟩,rB,hH,hZ⟩:=RIn.addPair hY.out hG (by first|exact hQ|exact Q1 hQ) hN (by omega)))
   all_goals
    have pP:RSt rb tv L m4 h0 {c0 with apart:=c0.apart++[(na,nb)]} _:=⟨S,R,C,_,hZ,qG.out,qH.out,qI.out,by rw[<-qJ.out]⟩
    go_simp;have qP:=Xa (((Below.grown (Below.refl rb u) HG.out (Nat.le_of_lt hI) (λk hk=>by injection hk with hk;omega))).trans (hH.mono nr));have KE:=Xa (XcN pP qN.out hD);clear hG hQ hN pO hZ hH;go_wp2_with fail;refine KE.out.mono ?_;rintro e w9 ⟨qQ,pA⟩;have qC:=Xa (qP.out.trans qQ);cases pF:QA (L.drop m4) with
    |error q=>
     rw[pF] at pA;simp only at pA;subst pA;refine⟨rfl,qC.out,?_⟩;rw[hE.out,pF];rfl
    |ok v=>
     obtain⟨s,r4⟩:=v;rw[pF] at pA;obtain⟨rfl,m9,qR,pQ⟩:=pA;clear KE;go_wp2_with fail;go_end0;refine⟨qC.out,?_⟩;rw[hE.out,pF];exact⟨rfl,m9,qR,pQ⟩
theorem Xs6{rb n:Nat}{tv:Value}{L:List Xh}{h0:Xl}{c0:Xp}{u:World}(h:RSt rb tv L n h0 c0 u)(hl:XC (L.drop n))(hD:L.length<=1000000){q:Int×Int}(hw:XP 1 XM (L.drop n)=.error q):
 Calls Tryz.prog 85 #[.pointer (some ⟨rb,0,none⟩)] u (JM rb tv L (Ye h0 c0 (L.drop n)) u):=by
 obtain⟨S,R,C,A,hE,hS,hR,hC,hA⟩:=h;have HE:=Xa (show Ye h0 c0 (L.drop n)=.error q by rw[Ye,hw];rfl);have HW:=Xa hw;have hG:=hE.rd.lt;obtain⟨U,hU,hJ,hH,hI⟩:=boxed u (.cells #[.string ⟨#[114,111,111,102]⟩,.string ⟨#[115,101,116]⟩,.string ⟨#[105,116,101,109]⟩,.string ⟨#[98,114,105,99,107]⟩,.string ⟨#[99,117,101]⟩,.string ⟨#[109,111,118,101]⟩,.string ⟨#[97,112,97,114,116]⟩] 9);have KT:=Xa (ZM (hE.rd.more hH) hl hD 1 _ XM (QO ZT (by decide) (by decide) hI XM Qa 7));have hK:=Xa (XD (g:=some rb) hH);have HU:=Xa hU;clear hE hU hJ hH hI hw hl
 go_enter Tryz.func85,Tryz.ntmps85;go_wp2_with fail;rw[<-HU.out];refine KT.out.mono ?_;rintro e w2 ⟨hL,hx⟩;rw[HW.out] at hx;simp only at hx;subst hx;refine⟨rfl,Below.grown brf (XG hK.out hL) (Nat.le_of_lt hG) (λk hk=>by injection hk with hk;omega),?_⟩;rw[HE.out]
theorem Xlp{k:Int}{ok:List UInt8->Bool}{ts r:List Xh}{lw:ByteArray}(h:XP k ok ts=.ok (lw,r)):ok (bs lw)=true:=by
 cases ts with
 |nil=>cases h
 |cons t rr=>
  simp only[XP] at h;split at h
  ·rename_i hk
   simp only[Except.ok.injEq,Prod.mk.injEq] at h;rw[<-h.1];exact hk.2
  ·cases h
theorem Xs7{rb n:Nat}{tv:Value}{L:List Xh}{h0:Xl}{c0:Xp}{u w0:World}(h:RSt rb tv L n h0 c0 u)(hl:XC (L.drop n))(hC:L.length<=1000000)(hD:∀t∈L,t.text.size<=1000000)(hc:Ctx w0 rb u):
 Calls Tryz.prog 85 #[.pointer (some ⟨rb,0,none⟩)] u (JM rb tv L (Ye h0 c0 (L.drop n)) u):=by
 cases hw:XP 1 XM (L.drop n) with
 |error q=>exact Xs6 h hl hC hw
 |ok v=>
  obtain⟨lw,r⟩:=v;have hk:=Xlp hw;simp only[XM,Bool.or_eq_true,decide_eq_true_eq] at hk;rcases hk with (((((hk|hk)|hk)|hk)|hk)|hk)|hk
  ·exact Xrt h hl hC hD hc hw hk
  ·exact Xs4 h hl hC hD hc hw hk
  ·exact Xrv h hl hC hD hc hw hk
  ·exact Xpd h hl hC hD hc hw hk
  ·exact Xs5 h hl hC hD hc hw hk
  ·exact Xru h hl hC hD hc hw hk
  ·exact Xpe h hl hC hD hc hw hk
end Go.Proofs.YtdcahhbipeaggaaGreatDoor
namespace Go.Proofs.YtdcahhbipeaggaaGreatDoor
open Go.RowKit
structure Ja(b:Nat)(p l c e:Value)(w:World):Prop where
 r:w.heap[b]? =some (.cells #[p] 91 (0,0))
 at_:w.heap[b+1]? =some (.cells #[l,c] 39 (0,0))
 e:w.heap[b+2]? =some (.cells #[e] 35 (0,0))
theorem Ja.kept{b B:Nat}{p l c e:Value}{w y:World}(h:Ja b p l c e w)(hb:Below B w y)(hB:b+2<B):Ja b p l c e y:=
 ⟨(hb.block _ (by omega)).trans h.r,(hb.block _ (by omega)).trans h.at_,(hb.block _ (by omega)).trans h.e⟩
section
variable {b:Nat} {p l c e:Value} {w:World}
theorem Ja.setR(h:Ja b p l c e w)(v:Value):Ja b v l c e (w.setCell ⟨b,0,none⟩ v):=
 ⟨Xx h.r v,(Below.heap_setCell _ _ _ _ (by simp only;omega)).trans h.at_,(Below.heap_setCell _ _ _ _ (by simp only;omega)).trans h.e⟩
theorem Ja.setL(h:Ja b p l c e w)(v:Value):Ja b p v c e (w.setCell ⟨b+1,0,none⟩ v):=
 ⟨(Below.heap_setCell _ _ _ _ (by simp only;omega)).trans h.r,Xx h.at_ v,(Below.heap_setCell _ _ _ _ (by simp only;omega)).trans h.e⟩
theorem Ja.setC(h:Ja b p l c e w)(v:Value):Ja b p l v e (w.setCell ⟨b+1,1,none⟩ v):=
 ⟨(Below.heap_setCell _ _ _ _ (by simp only;omega)).trans h.r,Xx h.at_ v,(Below.heap_setCell _ _ _ _ (by simp only;omega)).trans h.e⟩
theorem Ja.setE(h:Ja b p l c e w)(v:Value):Ja b p l c v (w.setCell ⟨b+2,0,none⟩ v):=
 ⟨(Below.heap_setCell _ _ _ _ (by simp only;omega)).trans h.r,(Below.heap_setCell _ _ _ _ (by simp only;omega)).trans h.at_,Xx h.e v⟩
theorem Ja.cells(h:Ja b p l c e w):(w.cell? ⟨b,0,none⟩=some p/\w.cell? ⟨b+1,0,none⟩=some l/\w.cell? ⟨b+1,1,none⟩=some c/\w.cell? ⟨b+2,0,none⟩=some e)/\(w.frozen? ⟨b,0,none⟩=false/\w.frozen? ⟨b+1,0,none⟩=false/\w.frozen? ⟨b+1,1,none⟩=false/\w.frozen? ⟨b+2,0,none⟩=false):=
 ⟨⟨(Joins.cell_of_block h.r 0).trans rfl,(Joins.cell_of_block h.at_ 0).trans rfl,(Joins.cell_of_block h.at_ 1).trans rfl,(Joins.cell_of_block h.e 0).trans rfl⟩,Xe h.r 0,Xe h.at_ 0,Xe h.at_ 1,Xe h.e 0⟩
end
theorem Xsc(b:Nat)(p l c e0:Value)(x y:Int)(w:World)(h:Ja b p l c e0 w):
 CallsD Tryz.prog 79 #[.pointer (some ⟨b,0,none⟩),.pointer (some ⟨b+1,0,none⟩),.pointer (some ⟨b+2,0,none⟩)] (.panicking [{v:=.iface 170 (.agg #[.int .i64 x,.int .i64 y]),recovered:=false}]) w λe u' w'=>
  e=.returned (.tuple #[])/\u'=.panicking [{v:=.iface 170 (.agg #[.int .i64 x,.int .i64 y]),recovered:=true}]/\Below b w w'/\Ja b (.pointer none) (.int .i64 x) (.int .i64 y) (.int .i64 7) w':=by
 have HH:=Xa h;have hG:∀w:World,(Instr.typeAssert (.iface 170 (.agg #[.int .i64 x,.int .i64 y])) 20 170 true).run Tryz.prog w=.ok (.tuple #[.agg #[.int .i64 x,.int .i64 y],.bool true]) w:=λw=>by kernel_rfl
 refine callsD_of_wpS Tryz.func79 rfl λc₀ cs hu=> ?_;rw[show(#[Value.pointer (some ⟨b,0,none⟩),.pointer (some ⟨b+1,0,none⟩),.pointer (some ⟨b+2,0,none⟩)]:Array Value)++Array.replicate (Tryz.f79.ntmps-(#[Value.pointer (some ⟨b,0,none⟩),.pointer (some ⟨b+1,0,none⟩),.pointer (some ⟨b+2,0,none⟩)]:Array Value).size) undef=#[.pointer (some ⟨b,0,none⟩),.pointer (some ⟨b+1,0,none⟩),.pointer (some ⟨b+2,0,none⟩),undef,undef,undef,undef,undef,undef,undef,undef,undef,undef,undef,undef,undef,undef,undef] from rfl];apply wpS_seq;apply wpS_region;simp[wpOpsS,go_sem,recoverD,hu,Exit.thenS];refine wpS_of_wp ?_
 go_wp2_with fail;obtain⟨V,hV,hH,hE,hD⟩:=boxed w (.cells #[.int .i64 x,.int .i64 y] 170);have hI:b+2<w.heap.size:=(agS h.e).1;have r0:=HH.out.kept hE hI;have r1:=r0.setR (.pointer none);have r2:=r1.setL (.int .i64 x);have r3:=r2.setC (.int .i64 y);have r4:=Xa (r3.setE (.int .i64 7));obtain⟨f0,g0⟩:=r0.cells;obtain⟨f1,g1⟩:=r1.cells;obtain⟨f2,g2⟩:=r2.cells;obtain⟨f3,g3⟩:=r3.cells;have d0:V.cell? ⟨w.heap.size,0,none⟩=some (.int .i64 x)/\V.cell? ⟨w.heap.size,1,none⟩=some (.int .i64 y):=⟨(Joins.cell_of_block hD 0).trans rfl,(Joins.cell_of_block hD 1).trans rfl⟩
 have hC:(V.setCell ⟨b,0,none⟩ (.pointer none)).heap[w.heap.size]? =some (.cells #[.int .i64 x,.int .i64 y] 170 (0,0)):=(Below.heap_setCell _ _ _ _ (by simp only;omega)).trans hD;have d1:(V.setCell ⟨b,0,none⟩ (.pointer none)).cell? ⟨w.heap.size,0,none⟩=some (.int .i64 x)/\(V.setCell ⟨b,0,none⟩ (.pointer none)).cell? ⟨w.heap.size,1,none⟩=some (.int .i64 y):=⟨(Joins.cell_of_block hC 0).trans rfl,(Joins.cell_of_block hC 1).trans rfl⟩
 have HB:=Xa (((((hE.mono (show b<=w.heap.size by omega)).setCell (p:=⟨b,0,none⟩) nr (.pointer none)).setCell (p:=⟨b+1,0,none⟩) (by simp only;omega) (.int .i64 x)).setCell (p:=⟨b+1,1,none⟩) (by simp only;omega) (.int .i64 y)).setCell (p:=⟨b+2,0,none⟩) (by simp only;omega) (.int .i64 7));rw[<-hV];clear hV hH hE hD h HH r0 r1 r2 r3 hC hG;go_region
 all_goals
  refine⟨rfl,_,rfl,_,?_,rfl,rfl,?_,?_⟩
  ·simp[results,Tryz.results79,go_sem]
  ·exact HB.out.drew
  ·exact⟨r4.out.r,r4.out.at_,r4.out.e⟩
theorem XpE(b:Nat)(w:World):
 CallsD Tryz.prog 79 #[.pointer (some ⟨b,0,none⟩),.pointer (some ⟨b+1,0,none⟩),.pointer (some ⟨b+2,0,none⟩)] .returning w λe u' w'=>e=.returned (.tuple #[])/\u'=.returning/\w'=w:=by
 refine callsD_of_wpS Tryz.func79 rfl λc₀ cs hu=> ?_;rw[show(#[Value.pointer (some ⟨b,0,none⟩),.pointer (some ⟨b+1,0,none⟩),.pointer (some ⟨b+2,0,none⟩)]:Array Value)++Array.replicate (Tryz.f79.ntmps-(#[Value.pointer (some ⟨b,0,none⟩),.pointer (some ⟨b+1,0,none⟩),.pointer (some ⟨b+2,0,none⟩)]:Array Value).size) undef=#[.pointer (some ⟨b,0,none⟩),.pointer (some ⟨b+1,0,none⟩),.pointer (some ⟨b+2,0,none⟩),undef,undef,undef,undef,undef,undef,undef,undef,undef,undef,undef,undef,undef,undef,undef] from rfl];apply wpS_seq;apply wpS_region;simp[wpOpsS,go_sem,recoverD,hu,Exit.thenS];refine wpS_of_wp ?_
 go_wp2_with fail;cases c₀
 simp_all [bodyPostS,results,Tryz.results79]
end Go.Proofs.YtdcahhbipeaggaaGreatDoor
namespace Go.Proofs.YtdcahhbipeaggaaGreatDoor
open Go.RowKit
def Qn(w:World)(x:Xjl)(e:Ending)(w':World):Prop:=
 Below w.heap.size w w'/\match x with
  |.bad a c=>e=.returned (.tuple #[.pointer none,.agg #[.int .i64 a,.int .i64 c],.int .i64 7])
  |.good L=>match Zr L with
   |.ok (a,_)=>∃(rb n:Nat) (tv:Value),n<=1000000/\w.heap.size<=rb/\e=.returned (.tuple #[.pointer (some ⟨rb,0,none⟩),.agg #[.int .i64 0,.int .i64 0],.int .i64 0])/\RSt rb tv L n a.1 a.2 w'
   |.error q=>e=.returned (.tuple #[.pointer none,.agg #[.int .i64 q.1,.int .i64 q.2],.int .i64 7])
structure Rq(w:World)(b rb:Nat)(tv:Value)(L:List Xh)(n:Nat)(h:Xl)(c:Xp)(x:World):Prop where
 bel:Below b w x
 res:Ja b (.pointer (some ⟨rb,0,none⟩)) (.int .i64 0) (.int .i64 0) (.int .i64 0) x
 st:RSt rb tv L n h c x
 lt:b+2<rb
section
variable {w:World} {b rb:Nat} {tv:Value} {L:List Xh} {n:Nat} {h:Xl} {c:Xp} {x y:World}
theorem Rq.step{m:Nat}{h':Xl}{c':Xp}(hq:Rq w b rb tv L n h c x)(hb:Below rb x y)(hC:RSt rb tv L m h' c' y):Rq w b rb tv L m h' c' y:=
 ⟨hq.bel.trans (hb.mono (by have:=hq.lt;omega)),hq.res.kept hb hq.lt,hC,hq.lt⟩
theorem Rq.rlt(hq:Rq w b rb tv L n h c x):rb<x.heap.size:=by
 obtain⟨S,R,C,A,hC,_⟩:=hq.st;exact hC.rd.lt
theorem Rq.below(hq:Rq w b rb tv L n h c x)(hg:x.grownBy y (some rb)):Below rb x y:=Below.grown brf hg (Nat.le_of_lt hq.rlt) (λk hk=>by injection hk with hk;omega)
theorem Rq.ctx(hq:Rq w b rb tv L n h c x)(ht:Xch w)(hb:b=w.heap.size):Ctx w rb x:=⟨ht,hb▸hq.bel,by have:=hq.lt;omega⟩
theorem Rq.more(hq:Rq w b rb tv L n h c x)(hb:Below x.heap.size x y):Rq w b rb tv L n h c y:=by
 have hl:=hq.rlt;obtain⟨S,R,C,A,hD,hS,hR,hC,hA⟩:=hq.st;exact hq.step (hb.mono (Nat.le_of_lt hl)) ⟨S,R,C,A,hD.kept (XD hb) (hD.rd.more hb) nr,hS,hR,hC,hA⟩
theorem Ja.cells1{b:Nat}{p l c e:Value}{w:World}(h:Ja b p l c e w):(w.cell? ⟨b,0,none⟩=some p/\w.cell? ⟨b+1,0,none⟩=some l/\w.cell? ⟨b+1,1,none⟩=some c/\w.cell? ⟨b+1+1,0,none⟩=some e)/\(w.frozen? ⟨b,0,none⟩=false/\w.frozen? ⟨b+1,0,none⟩=false/\w.frozen? ⟨b+1,1,none⟩=false/\w.frozen? ⟨b+1+1,0,none⟩=false):=h.cells
theorem Rq.len(hq:Rq w b rb tv L n h c x)(hb:Below rb x y):Below b w y/\Ja b (.pointer (some ⟨rb,0,none⟩)) (.int .i64 0) (.int .i64 0) (.int .i64 0) y:=⟨hq.bel.trans (hb.mono (by have:=hq.lt;omega)),hq.res.kept hb hq.lt⟩
def Xci{α:Type}(w:World)(b rb:Nat)(tv:Value)(L:List Xh)(h:Xl)(c:Xp)(val:α->Value)(x:Rd α)(e:Ending)(y:World):Prop:=
 match x with
 |.ok (a,r)=>e=.returned (val a)/\∃m,L.drop m=r/\Rq w b rb tv L m h c y
 |.error q=>e=.panicked [{v:=.iface 170 (.agg #[.int .i64 q.1,.int .i64 q.2]),recovered:=false}]/\Below b w y/\Ja b (.pointer (some ⟨rb,0,none⟩)) (.int .i64 0) (.int .i64 0) (.int .i64 0) y
theorem Xci.of{α:Type}{val:α->Value}{xr:Rd α}(hq:Rq w b rb tv L n h c x)(hl:XC (L.drop n))(hG:∀a r,xr=.ok (a,r)->r.length<=(L.drop n).length){f:FuncId}{args:Array Value}(K:∀S R C A,RIn rb tv L n h.name h.aH S R C A x->Calls Tryz.prog f args x (Xn8 rb tv L (Ya h.name h.aH S R C A) val xr x)):Calls Tryz.prog f args x (Xci w b rb tv L h c val xr):=by
 obtain⟨S,R,C,A,hE,hS,hR,hC,hA⟩:=hq.st;refine(K S R C A hE).mono ?_;rintro e y ⟨hg,hx⟩;have hb:=hq.below hg;unfold Xci;cases hD:xr with
 |error q=>rw[hD] at hx;exact⟨hx,hq.len hb⟩
 |ok v=>
  obtain⟨a,r⟩:=v;rw[hD] at hx;obtain⟨h1,m,h2,h3⟩:=hx;have e1:=hG a r hD;have e2:=congrArg List.length h2;obtain⟨_,_,_,_,_,hH⟩:=hl.head;simp only[List.length_drop] at e1 e2;exact⟨h1,m,h2,hq.step hb ⟨S,R,C,A,hE.kept hg h3 (by omega),hS,hR,hC,hA⟩⟩
theorem Xv3(hq:Rq w b rb tv L n h c x){t:Xh}(hg:L[n]? =some t):Calls Tryz.prog 84 #[.pointer (some ⟨rb,0,none⟩)] x (Xc x t.val):=by
 obtain⟨S,R,C,A,hC,_⟩:=hq.st;exact XcD hC.rd hg
theorem Rq.numAt(hq:Rq w b rb tv L n h c x):Go.Proofs.YtdcahhbipeaggaaGreatDoor.numAt x ⟨rb,1,none⟩=n:=by
 obtain⟨S,R,C,A,hC,_⟩:=hq.st;exact hC.rd.numAt
theorem Xmu(hq:Rq w b rb tv L n h c x)(hl:XC (L.drop n))(hC:L.length<=1000000):Calls Tryz.prog 80 #[.pointer (some ⟨rb,0,none⟩)] x (Xci w b rb tv L h c (λ_:Unit=> .tuple #[]) (.ok ((),XS (L.drop n)))):=
 Xci.of hq hl (λ_ r e=>by
  injection e with e;injection e with _ e;rw[<-e];obtain⟨p,hp⟩:=(Xcg _ hl).1;have:=congrArg List.length hp;rw[List.length_append] at this
  omega) (λ_ _ _ _ hD=>Xsi hD.rd hl hC)
theorem Xsv(hq:Rq w b rb tv L n h c x)(hl:XC (L.drop n))(hC:L.length<=1000000)(k:Int)(vt:Value)(ok:List UInt8->Bool)(ht:Xmx x vt ok):Calls Tryz.prog 81 #[.pointer (some ⟨rb,0,none⟩),.int .i64 k,vt] x (Xci w b rb tv L h c Value.string (XP k ok (L.drop n))):=
 Xci.of hq hl (λa r e=>Nat.le_of_lt (Yr k ok _ a r e)) (λ_ _ _ _ hD=>ZM hD.rd hl hC k vt ok ht)
theorem XvH(hq:Rq w b rb tv L n h c x)(hl:XC (L.drop n))(hC:L.length<=1000000):Calls Tryz.prog 82 #[.pointer (some ⟨rb,0,none⟩)] x (Xci w b rb tv L h c Value.string (XT (L.drop n))):=
 Xci.of hq hl (λ_ _ e=>Nat.le_of_lt (Ym e)) (λ_ _ _ _ hD=>ZO hD.rd hl hC)
theorem XsW(hq:Rq w b rb tv L n h c x)(hl:XC (L.drop n))(hC:L.length<=1000000)(hD:∀t∈L,t.text.size<=1000000)(ht:Xch w)(hb:b=w.heap.size):Calls Tryz.prog 83 #[.pointer (some ⟨rb,0,none⟩)] x (Xci w b rb tv L h c (λv:Int=> .int .i64 v) (Y2 (L.drop n))):=
 Xci.of hq hl (λa r e=>Nat.le_of_lt (QQ _ a r e)) (λ_ _ _ _ hE=>XeZ hE.rd hl hC hD (hq.ctx ht hb))
theorem XvI(hq:Rq w b rb tv L n h c x)(hl:XC (L.drop n))(hC:L.length<=1000000)(hE:∀t∈L,t.text.size<=1000000)(ht:Xch w)(hb:b=w.heap.size):Calls Tryz.prog 85 #[.pointer (some ⟨rb,0,none⟩)] x λe y=>
 match Ye h c (L.drop n) with
 |.ok (a,r)=>e=.returned (.tuple #[])/\∃m,L.drop m=r/\Rq w b rb tv L m a.1 a.2 y
 |.error q=>e=.panicked [{v:=.iface 170 (.agg #[.int .i64 q.1,.int .i64 q.2]),recovered:=false}]/\Below b w y/\Ja b (.pointer (some ⟨rb,0,none⟩)) (.int .i64 0) (.int .i64 0) (.int .i64 0) y:=by
 refine(Xs7 hq.st hl hC hE (hq.ctx ht hb)).mono ?_;rintro e y ⟨hD,hx⟩;cases hs:Ye h c (L.drop n) with
 |error q=>rw[hs] at hx;exact⟨hx,hq.len hD⟩
 |ok v=>
  obtain⟨a,r⟩:=v;rw[hs] at hx;obtain⟨h1,m,h2,h3⟩:=hx;exact⟨h1,m,h2,hq.step hD h3⟩
theorem RSt.putAt{k:Nat}(hE:RSt rb tv L n h c x)(hk:k<rb)(hG:∀tb cap,tv=.slice (some ⟨tb,0,none⟩) L.length cap->k≠tb)(i:Nat)(v:Value):RSt rb tv L n h c (x.setCell ⟨k,i,none⟩ v):=by
 obtain⟨S,R,C,A,hD,hS,hR,hC,hA⟩:=hE;exact⟨S,R,C,A,⟨hD.rd.putOther (by omega) hG i v,hD.rows.kept (XX (World.grownBy.refl x (some k))) (λj hj=>by injection hj with hj;omega),hD.low,hD.cnt⟩,hS,hR,hC,hA⟩
theorem Rq.setName(hq:Rq w b rb tv L n h c x)(nm:ByteArray):(∃v,x.cell? ⟨rb,2,none⟩=some v)/\x.frozen? ⟨rb,2,none⟩=false/\Rq w b rb tv L n {h with name:=nm} c (x.setCell ⟨rb,2,none⟩ (.string nm)):=by
 obtain⟨S,R,C,A,hD,hS,hR,hC,hA⟩:=hq.st;refine⟨⟨_,(hD.rd.cellr 0).trans rfl⟩,hD.rd.free 2,hq.step ((Below.refl rb x).setCell (p:=⟨rb,2,none⟩) nr _) ⟨S,R,C,A,⟨hD.rd.put 0 (.string nm),hD.rows.kept (XX (World.grownBy.refl x (some rb))) (λj hj=>by injection hj with hj;omega),hD.low,hD.cnt⟩,hS,hR,hC,hA⟩⟩
theorem Rq.setHeight(hq:Rq w b rb tv L n h c x)(v:Int):(∃v,x.cell? ⟨rb,3,none⟩=some v)/\x.frozen? ⟨rb,3,none⟩=false/\Rq w b rb tv L n {h with aH:=v} c (x.setCell ⟨rb,3,none⟩ (.int .i64 v)):=by
 obtain⟨S,R,C,A,hD,hS,hR,hC,hA⟩:=hq.st;refine⟨⟨_,(hD.rd.cellr 1).trans rfl⟩,hD.rd.free 3,hq.step ((Below.refl rb x).setCell (p:=⟨rb,3,none⟩) nr _) ⟨S,R,C,A,⟨hD.rd.put 1 (.int .i64 v),hD.rows.kept (XX (World.grownBy.refl x (some rb))) (λj hj=>by injection hj with hj;omega),hD.low,hD.cnt⟩,hS,hR,hC,hA⟩⟩
end
def Q9(f:Nat)(h:Xl)(c:Xp)(ts:List Xh):Rd (Xl×Xp):=if JU ts=5 then .ok ((h,c),ts) else Xr (Ye h c ts) λx r=>Zl f x.1 x.2 r
theorem Q9.done{f:Nat}{h:Xl}{c:Xp}{ts:List Xh}(hk:JU ts=5):Q9 f h c ts=.ok ((h,c),ts):=by rw[Q9,if_pos hk]
theorem Q9.err{f:Nat}{h:Xl}{c:Xp}{ts:List Xh}{q:Int×Int}(hk:¬JU ts=5)(hs:Ye h c ts=.error q):Q9 f h c ts=.error q:=by rw[Q9,if_neg hk,hs];rfl
theorem Q9.step{f:Nat}{h:Xl}{c:Xp}{ts r:List Xh}{a:Xl×Xp}(hk:¬JU ts=5)(hs:Ye h c ts=.ok (a,r)):Q9 (f+1) h c ts=Q9 f a.1 a.2 (XS r):=by rw[Q9,if_neg hk,hs];rfl
theorem RSt.start{rb:Nat}{tv:Value}{L:List Xh}{x:World}(hD:Rd0 rb tv L 0 [.string ⟨#[]⟩,.int .i64 0,.slice none 0 0,.slice none 0 0,.slice none 0 0,.slice none 0 0] x)(hC:∀tb cap,tv=.slice (some ⟨tb,0,none⟩) L.length cap->tb<rb):RSt rb tv L 0 ⟨⟨#[]⟩,0,[],[]⟩ ⟨[],[]⟩ x:=by
 refine⟨⟨none,0,[]⟩,⟨none,0,[]⟩,⟨none,0,[]⟩,⟨none,0,[]⟩,⟨hD,⟨λr hr=> ?_,?_⟩,hC,λr hr=> ?_⟩,rfl,rfl,rfl,rfl⟩
 ·simp only[XE,List.flatMap_nil,List.append_nil,List.mem_cons,List.not_mem_nil,or_false] at hr;rcases hr with rfl|rfl|rfl|rfl<;>exact World.ownsRow_nil _ _ _ _
 ·unfold XE;refine List.pairwise_cons.2 ⟨λ_ _ k hk=>by simp[Value.ownBlock,Sl.val] at hk,List.pairwise_cons.2 ⟨λ_ _ k hk=>by simp[Value.ownBlock,Sl.val] at hk,List.pairwise_cons.2 ⟨λ_ _ k hk=>by simp[Value.ownBlock,Sl.val] at hk,List.pairwise_cons.2 ⟨λ_ _ k hk=>by simp[Value.ownBlock,Sl.val] at hk,List.Pairwise.nil⟩⟩⟩⟩
 ·simp only[XE,List.flatMap_nil,List.append_nil,List.mem_cons,List.not_mem_nil,or_false] at hr;rcases hr with rfl|rfl|rfl|rfl<;>exact Nat.zero_le _
theorem Xfm:∀(L:List Xh) (i:Nat) (t:Xh),L[i]? =some t->∀(j:Nat) (u:Value),(Xh.cells t)[j]? =some u->(YF L)[i*4+j]? =some u
 |t::L,0,t',h,j,u,hu=>by
  simp only[List.getElem?_cons_zero,Option.some.injEq] at h;subst h;have hj:j<(Xh.cells t).length:=(lgS hu).1;rw[Nat.zero_mul,Nat.zero_add,YF,List.flatMap_cons,List.getElem?_append_left hj];exact hu
 |t::L,i+1,t',h,j,u,hu=>by
  have h1:=Xfm L i t' (by simpa using h) j u hu;rw[YF,List.flatMap_cons,List.getElem?_append_right (by rw[show(Xh.cells t).length=4 from rfl];omega)];rw[show(i+1)*4+j-(Xh.cells t).length=i*4+j by rw[show(Xh.cells t).length=4 from rfl];omega];exact h1
theorem Xbj{b:Nat}{p l c e:Value}{x:World}(h:Ja b p l c e x)(q0 q1:Int){tmps:Array Value}(h2:tmps[2]? =some (.pointer (some ⟨b,0,none⟩)))(h3:tmps[3]? =some (.pointer (some ⟨b+1,0,none⟩)))(h4:tmps[4]? =some (.pointer (some ⟨b+1+1,0,none⟩))){R:Ending->World->Prop}
 (hR:∀x',Below b x x'->R (.returned (.tuple #[.pointer none,.agg #[.int .i64 q0,.int .i64 q1],.int .i64 7])) x'):
 Leaves Tryz.prog Tryz.f30 tmps R [{target:=.fn (.func 79) #[.pointer (some ⟨b,0,none⟩),.pointer (some ⟨b+1,0,none⟩),.pointer (some ⟨b+1+1,0,none⟩)],args:=#[]}] (.panicking [{v:=.iface 170 (.agg #[.int .i64 q0,.int .i64 q1]),recovered:=false}]) x:=by
 refine leaves_cons (f:=79) (args:=#[.pointer (some ⟨b,0,none⟩),.pointer (some ⟨b+1,0,none⟩),.pointer (some ⟨b+1+1,0,none⟩)]) (by simp) (by simp[go_sem]) ?_;refine(Xsc b p l c e q0 q1 x h).mono ?_;rintro e1 u' x' ⟨rfl,rfl,hb,hr⟩;obtain⟨⟨c0,c1,c2,c3⟩,_⟩:=hr.cells1;refine⟨_,?_,hR x' hb⟩;simp[results,Tryz.results30,go_sem,h2,h3,h4,c0,c1,c2,c3]
theorem XnS{b:Nat}{p l c e:Value}{x:World}(h:Ja b p l c e x){tmps:Array Value}(h2:tmps[2]? =some (.pointer (some ⟨b,0,none⟩)))(h3:tmps[3]? =some (.pointer (some ⟨b+1,0,none⟩)))(h4:tmps[4]? =some (.pointer (some ⟨b+1+1,0,none⟩))){R:Ending->World->Prop}
 (hR:R (.returned (.tuple #[p,.agg #[l,c],e])) x):
 Leaves Tryz.prog Tryz.f30 tmps R [{target:=.fn (.func 79) #[.pointer (some ⟨b,0,none⟩),.pointer (some ⟨b+1,0,none⟩),.pointer (some ⟨b+1+1,0,none⟩)],args:=#[]}] .returning x:=by
 refine leaves_cons (f:=79) (args:=#[.pointer (some ⟨b,0,none⟩),.pointer (some ⟨b+1,0,none⟩),.pointer (some ⟨b+1+1,0,none⟩)]) (by simp) (by simp[go_sem]) ?_;refine(XpE b x).mono ?_;rintro e1 u' x' ⟨rfl,rfl,rfl⟩;obtain⟨⟨c0,c1,c2,c3⟩,_⟩:=h.cells1;refine⟨_,?_,hR⟩;simp[results,Tryz.results30,go_sem,h2,h3,h4,c0,c1,c2,c3]
theorem Qn.err{s:ByteArray}{w x:World}{b:Nat}{L:List Xh}{q:Int×Int}(hb:b=w.heap.size)(hD:toks (bs s)=.good L)(he:Zr L=.error q)(hC:Below b w x):Qn w (toks (bs s)) (.returned (.tuple #[.pointer none,.agg #[.int .i64 q.1,.int .i64 q.2],.int .i64 7])) x:=by
 refine⟨hb▸hC,?_⟩;rw[hD];simp only[he]
theorem Qn.good{s:ByteArray}{w x:World}{b rb n:Nat}{tv:Value}{L r:List Xh}{h:Xl}{c:Xp}(hb:b=w.heap.size)(hD:toks (bs s)=.good L)(he:Zr L=.ok ((h,c),r))(hC:Below b w x)(hG:b+2<rb)(hn:n<=1000000)(hE:RSt rb tv L n h c x):Qn w (toks (bs s)) (.returned (.tuple #[.pointer (some ⟨rb,0,none⟩),.agg #[.int .i64 0,.int .i64 0],.int .i64 0])) x:=by
 refine⟨hb▸hC,?_⟩;rw[hD];simp only[he];exact⟨rb,n,tv,hn,by omega,rfl,hE⟩
abbrev Xau:List UInt8->Bool:=λw=>decide (w=Xdc)
section
variable {L r r2 r3 r4:List Xh} {q:Int×Int} {s s2 nm:ByteArray} {v:Int}
theorem XoJ(h:XP 1 Xau (XS L)=.error q):Zr L=.error q:=by rw[Zr,XaA,h];rfl
theorem XoL(h:XP 1 Xau (XS L)=.ok (s,r))(h2:XT r=.error q):Zr L=.error q:=by rw[Zr,XaA,h];simp only[Xr];rw[h2]
theorem Xq0(h:XP 1 Xau (XS L)=.ok (s,r))(h2:XT r=.ok (nm,r2))(h3:Y2 r2=.error q):Zr L=.error q:=by rw[Zr,XaA,h];simp only[Xr];rw[h2];simp only;rw[h3]
theorem Xq1(h:XP 1 Xau (XS L)=.ok (s,r))(h2:XT r=.ok (nm,r2))(h3:Y2 r2=.ok (v,r3))(h4:QA r3=.error q):Zr L=.error q:=by rw[Zr,XaA,h];simp only[Xr];rw[h2];simp only;rw[h3];simp only;rw[h4]
theorem XoK(h:XP 1 Xau (XS L)=.ok (s,r))(h2:XT r=.ok (nm,r2))(h3:Y2 r2=.ok (v,r3))(h4:QA r3=.ok (s2,r4)):Zr L=Zl L.length ⟨nm,v,[],[]⟩ ⟨[],[]⟩ r4:=by rw[Zr,XaA,h];simp only[Xr];rw[h2];simp only;rw[h3];simp only;rw[h4]
end
def Xoz:ByteArray:=⟨#[104,111,117,115,101]⟩
theorem XnA(x:ByteArray):Xau (bs x)=true↔x∈[Xoz]:=by
 have e1:Xdc=bs Xoz:=by kernel_rfl
 simp only[Xau,e1,XpF,decide_eq_true_eq,List.mem_cons,List.not_mem_nil,or_false]
end Go.Proofs.YtdcahhbipeaggaaGreatDoor
namespace Go.Proofs.YtdcahhbipeaggaaGreatDoor
open Go.RowKit
theorem Xuc(b n:Nat):(⟨b,0,none⟩:Addr).add n=⟨b,n,none⟩:=by
 unfold Addr.add;split
 ·rename_i h;rw[h]
 ·simp
theorem XsK(s:ByteArray)(hs:s.size<=262144)(w:World)(hc:Xch w):Calls Tryz.prog 30 #[.string s] w (Qn w (toks (bs s))):=by
 have sM:∀(fn:Fn) (first cap:Array Value) (w:World),(Instr.makeFunc fn first cap).run Tryz.prog w=.ok (.func fn first cap) w:=λ_ _ _ _=>rfl;obtain⟨b,hb⟩:∃b,b=w.heap.size:=⟨_,rfl⟩
 obtain⟨U1,qS,hT,hU,hV⟩:=boxed w (.cells #[.pointer none] 91);obtain⟨U2,qT,hL,hK,hM⟩:=boxed U1 (.cells #[.int .i64 0,.int .i64 0] 39);obtain⟨U,qU,hG,hJ,hN⟩:=boxed U2 (.cells #[.int .i64 0] 35);rw[hT] at hL hM hK;rw[hL] at hG hN hJ;rw[<-hb] at hT hU hV hL hM hK hG hN hJ;have qV:Below b w U:=(hU.trans (hK.mono (by omega))).trans (hJ.mono (by omega));have hC:Ja b (.pointer none) (.int .i64 0) (.int .i64 0) (.int .i64 0) U:=⟨(hJ.block _ (by omega)).trans ((hK.block _ (by omega)).trans hV),(hJ.block _ (by omega)).trans hM,hN⟩
 have HT:=Xa (Xoi s hs U);have qW:=Xa qV;have pI:=Xa hC;have HU:=Xa (show((w.alloc (.cells #[.pointer none] 91)).alloc (.cells #[.int .i64 0,.int .i64 0] 39)).alloc (.cells #[.int .i64 0] 35)=U by rw[<-qS,<-qT,<-qU]);have HC:=Xa hc;have HB:=Xa hb;clear qS hT hU hV qT hL hK hM qU hJ hN qV hC hc hb;go_enter_defers Tryz.func30,Tryz.ntmps30;go_upto_region 1 with fail;rw[HU.out,<-HB.out];go_wp2_with fail;refine HT.out.mono ?_;rintro e w1 hp;cases hW:toks (bs s) with
 |bad a c=>
  rw[hW] at hp;obtain⟨hY,rfl⟩:=hp;have hP:=Xa hW;clear hW;have r0:=pI.out.kept hY (by rw[hG];omega);have r1:=r0.setL (.int .i64 a);have r2:=r1.setC (.int .i64 c);have r3:=r2.setE (.int .i64 7);have r4:=r3.setR (.pointer none);have r5:=r4.setL (.int .i64 a);have r6:=r5.setC (.int .i64 c);have r7:=r6.setE (.int .i64 7);obtain⟨f0,g0⟩:=r0.cells1;obtain⟨f1,g1⟩:=r1.cells1;obtain⟨f2,g2⟩:=r2.cells1;obtain⟨f3,g3⟩:=r3.cells1;obtain⟨f4,g4⟩:=r4.cells1;obtain⟨f5,g5⟩:=r5.cells1;obtain⟨f6,g6⟩:=r6.cells1;obtain⟨f7,g7⟩:=r7.cells1;have HR:=Xa (And.intro r3 r7);have rP:=Xa (qW.out.trans (hY.mono (show b<=U.heap.size by rw[hG];omega)))
  clear r0 r1 r2 r3 r4 r5 r6 r7 hY;go_wp2_with fail;go_region
  all_goals
   go_simp;go_wp2_with fail;refine⟨.tuple #[.pointer none,.agg #[.int .i64 a,.int .i64 c],.int .i64 7],?_,?_,?_⟩
   ·simp[results,Tryz.results30,go_sem,f7]
   ·rw[<-HB.out];exact(((((((rP.out.setCell (p:=⟨b+1,0,none⟩) (by simp only;omega) _).setCell (p:=⟨b+1,1,none⟩) (by simp only;omega) _).setCell (p:=⟨b+1+1,0,none⟩) (by simp only;omega) _).setCell (p:=⟨b,0,none⟩) nr _).setCell (p:=⟨b+1,0,none⟩) (by simp only;omega) _).setCell (p:=⟨b+1,1,none⟩) (by simp only;omega) _).setCell (p:=⟨b+1+1,0,none⟩) (by simp only;omega) _).drew
   ·rw[hP.out]
 |good L=>
  rw[hW] at hp;obtain⟨hY,v,rfl,pA⟩:=hp;obtain⟨pX,pY,qX⟩:=Xid hW;have hP:=Xa hW;clear hW;have r0:=pI.out.kept hY (by rw[hG];omega);have r1:=r0.setL (.int .i64 0);have r2:=r1.setC (.int .i64 0);have r3:Ja b _ _ _ _ (((w1.setCell ⟨b+1,0,none⟩ (.int .i64 0)).setCell ⟨b+1,1,none⟩ (.int .i64 0)).setCell ⟨b+1+1,0,none⟩ (.int .i64 0)):=r2.setE (.int .i64 0);obtain⟨f0,g0⟩:=r0.cells1;obtain⟨f1,g1⟩:=r1.cells1;obtain⟨f2,g2⟩:=r2.cells1;obtain⟨f3,g3⟩:=r3.cells1;clear r0 r1 r2;go_upto_region 5 with fail;obtain⟨x0,pP⟩:∃x,x=(((w1.setCell ⟨b+1,0,none⟩ (.int .i64 0)).setCell ⟨b+1,1,none⟩ (.int .i64 0)).setCell ⟨b+1+1,0,none⟩ (.int .i64 0)):=⟨_,rfl⟩
  have qY:=qW.out.trans (hY.mono (show b<=U.heap.size by rw[hG];omega));have qZ:Below b w x0:=by
   rw[pP];exact((qY.setCell (p:=⟨b+1,0,none⟩) (by simp only;omega) _).setCell (p:=⟨b+1,1,none⟩) (by simp only;omega) _).setCell (p:=⟨b+1+1,0,none⟩) (by simp only;omega) _
  have hI:x0.ownsRow U.heap.size 174 4 v L.length (YF L):=XaP pA (λg hg=>by
   have:=Xb2 pA g hg
   rw[pP,Below.heap_setCell _ _ _ _ (by simp only;omega),Below.heap_setCell _ _ _ _ (by simp only;omega),Below.heap_setCell _ _ _ _ (by simp only;omega)])
  rw[<-pP] at r3 f3 g3 ⊢;have pJ:0<L.length:=by
   cases L with
   |nil=>exact absurd rfl pX.ne
   |cons t r=>simp
  obtain⟨tb,cap,rfl,pZ,qA⟩:=World.ownsRow.form hI pJ;have pB:L.length<=cap/\cap<=maxLen:=by
   rcases Jf hI with ⟨h1,_⟩|⟨g,cur,h1,h2,h3,h4,h5,_⟩
   ·cases h1
   ·exact⟨h4,h5⟩
  obtain⟨X,hX,rA,pK,qB⟩:=boxed x0 (.cells #[.slice (some ⟨tb,0,none⟩) L.length cap,.int .i64 0,.string ⟨#[]⟩,.int .i64 0,.slice none 0 0,.slice none 0 0,.slice none 0 0,.slice none 0 0] 96);obtain⟨rb,qC⟩:∃r,r=x0.heap.size:=⟨_,rfl⟩
  rw[<-qC] at rA pK qB qA;have pL:b+2<rb:=by have:=(agS r3.e).1;omega
  have rX:=r3.kept pK pL;have fA:∀o,(x0.alloc o).cell? ⟨b,0,none⟩=some (.pointer none)/\(x0.alloc o).frozen? ⟨b,0,none⟩=false:=λo=>by
   have h1:=(heap_alloc_old x0 o (by omega:b<x0.heap.size)).trans r3.r;exact⟨(Joins.cell_of_block h1 0).trans rfl,Xe h1 0⟩
  have rY:=rX.setR (.pointer (some ⟨rb,0,none⟩));have rB:(X.setCell ⟨b,0,none⟩ (.pointer (some ⟨rb,0,none⟩))).heap[rb]? =some (.cells #[.slice (some ⟨tb,0,none⟩) L.length cap,.int .i64 0,.string ⟨#[]⟩,.int .i64 0,.slice none 0 0,.slice none 0 0,.slice none 0 0,.slice none 0 0] 96 (0,0)):=(Below.heap_setCell _ _ _ _ (by simp only;omega)).trans qB
  have pQ:=Xa (show Rq w b rb (.slice (some ⟨tb,0,none⟩) L.length cap) L 0 ⟨⟨#[]⟩,0,[],[]⟩ ⟨[],[]⟩ (X.setCell ⟨b,0,none⟩ (.pointer (some ⟨rb,0,none⟩))) from
   ⟨(qZ.trans (pK.mono (by omega))).setCell (p:=⟨b,0,none⟩) nr _,rY,RSt.start ⟨rB,tb,cap,rfl,pB.1,pB.2,by omega,by simp[World.setCell];omega,λi t hi j u hu=>by
    refine(World.cell?_of_block (a:=⟨tb,i*4+j,none⟩) ((Below.heap_setCell _ _ _ _ (by simp only;rw[hG] at pZ;omega)).trans (pK.block tb qA))).trans ?_;have h9:=World.ownsRow.cells hI rfl (i*4+j) u (Xfm L i t hi j u hu);rw[<-Xuc]
    exact h9⟩ (λtb' cap' e=>by injection e with e;injection e with e;injection e with e;omega),pL⟩)
  have HX:=Xa hX;have rQ:=Xa qC;have rC:=Xa pX;have hH:L.length<=1000000:=by have:(bs s).length=s.size:=XO s;omega
  have pM:∀t∈L,t.text.size<=1000000:=λt ht=>by have h1:=qX t ht;have:(bs s).length=s.size:=XO s;omega
  have rD:=Xa pM;clear pP qY qZ pA hI r3 rA pK qB hX qC rX rY rB qX pM pX f0 g0 f1 g1 f2 g2 hY;have rR:=Xa (show b+2<tb by rw[hG] at pZ;omega);clear qA pB pZ;go_upto_region 6 with fail;rw[<-rQ.out,<-HX.out];obtain⟨y0,rE⟩:∃y,y=X.setCell ⟨b,0,none⟩ (.pointer (some ⟨rb,0,none⟩)):=⟨_,rfl⟩
  rw[<-rE] at pQ ⊢;clear rE fA f3 g3;have KB:=Xa (Xmu pQ.out (by simpa using rC.out) hH);have cl0:=pQ.out.res.cells1.1.1;go_wp2_with fail;refine KB.out.mono ?_;rintro e y1 ⟨rfl,n1,pR,pS⟩;rw[List.drop_zero] at pR;have rS:=Xa pS;have pT:=Xa pR;have qD:=Xa (show XC (L.drop n1) by rw[pR];exact(Xcg L rC.out).2);have cl1:=pS.res.cells1.1.1;clear cl0 KB pR;obtain⟨Z,hZ,rT,rF,rG⟩:=boxed y1 (.cells #[.string ⟨#[104,111,117,115,101]⟩] 9);have KT:=Xa (Xsv (pS.more rF) qD.out hH 1 _ Xau (QO [Xoz] (by decide) (by decide) rG Xau XnA 1))
  rw[pT.out] at KT;have HZ:=Xa hZ;clear hZ rT rF rG pS;go_wp2_with fail;rw[<-HZ.out];refine KT.out.mono ?_;rintro e y2 hx;unfold Xci at hx;clear KT HZ cl1;cases ht:XP 1 Xau (XS L) with
  |error q=>
   rw[ht] at hx;obtain⟨rfl,hD,hC⟩:=hx;exact Xbj hC q.1 q.2 rfl rfl rfl (λx' hO=>Qn.err HB.out hP.out (XoJ ht) (hD.trans hO))
  |ok v=>
   obtain⟨hw,r2⟩:=v;rw[ht] at hx;obtain⟨rfl,n2,qE,qF⟩:=hx;have hE:=Xfo (k:=1) (by decide) Xau (XS L) (by rw[<-pT.out];exact qD.out);rw[ht] at hE;have qG:=Xa (show XC (L.drop n2) by rw[qE];exact hE.2);have qH:=Xa qE;have rH:=Xa qF;have pF:=Xa ht;have cl2:=qF.res.cells1.1.1;clear hE qE qF ht;go_upto_region 8 with fail;have KN:=XvH (rH.out.more brf.drew) qG.out hH;rw[qH.out] at KN;cases hn:XT r2 with
   |error q=>
    have KE:=Xa (show Calls Tryz.prog 82 #[.pointer (some ⟨rb,0,none⟩)] y2.drew (λe y=>e=.panicked [{v:=.iface 170 (.agg #[.int .i64 q.1,.int .i64 q.2]),recovered:=false}]/\Below b w y/\Ja b (.pointer (some ⟨rb,0,none⟩)) (.int .i64 0) (.int .i64 0) (.int .i64 0) y) from KN.mono (λe y h=>by
     rw[hn] at h
     exact h))
    clear KN;go_region_law ((go_simp;go_at_call 82;refine KE.out.mono ?_;rintro e y3 ⟨rfl,hD,hC⟩;refine XdF (md:=.any) (a:=⟨#[],[]⟩) (w:=y3) ?_ ?_;focus (exact Xbj hC q.1 q.2 rfl rfl rfl (λx' hO=>Qn.err HB.out hP.out (XoL pF.out hn) (hD.trans hO)))))
    all_goals exact trivial
   |ok v=>
    obtain⟨nm,r3⟩:=v
    have KO:=Xa (show Calls Tryz.prog 82 #[.pointer (some ⟨rb,0,none⟩)] y2.drew (λe y=>e=.returned (.string nm)/\∃m,L.drop m=r3/\Rq w b rb (.slice (some ⟨tb,0,none⟩) L.length cap) L m ⟨⟨#[]⟩,0,[],[]⟩ ⟨[],[]⟩ y) from KN.mono (λe y h=>by
     rw[hn] at h
     exact h))
    have hE:=Y7 r2 (qH.out▸qG.out);rw[hn] at hE;have qI:=Xa hE.2;have HN:=Xa hn;clear KN hn hE;go_cut [27] from 25 to 30 (λ_ wx=>∃m,L.drop m=r3/\Rq w b rb (.slice (some ⟨tb,0,none⟩) L.length cap) L m ⟨nm,0,[],[]⟩ ⟨[],[]⟩ wx)
    case first=>
     first|go_region_law ((go_simp;go_at_call 82;refine KO.out.mono ?_;rintro e y3 ⟨rfl,m3,pC,hQ⟩;have cl3:=hQ.res.cells1.1.1;obtain⟨⟨cv,rU⟩,rV,pN⟩:=hQ.setName nm;have pU:=Xa (And.intro pC pN);clear pC hQ pN))|fail
     all_goals
      go_wp2_with fail;go_meet;exact⟨m3,pU.out.1,pU.out.2⟩
    case rest=>
    obtain⟨m3,pC,hQ⟩:=hcut;have pU:=Xa hQ;have rW:=Xa pC;have cl3:=hQ.res.cells1.1.1;have rI:XC (L.drop m3):=pC▸qI.out;have KN:=XsW (hQ.more brf.drew) rI hH rD.out HC.out HB.out;rw[pC] at KN;clear hQ pC cl2 KO;go_upto_region 9 with fail;cases hv:Y2 r3 with
    |error q=>
     have KE:=Xa (show Calls Tryz.prog 83 #[.pointer (some ⟨rb,0,none⟩)] wc.drew (λe y=>e=.panicked [{v:=.iface 170 (.agg #[.int .i64 q.1,.int .i64 q.2]),recovered:=false}]/\Below b w y/\Ja b (.pointer (some ⟨rb,0,none⟩)) (.int .i64 0) (.int .i64 0) (.int .i64 0) y) from KN.mono (λe y h=>by
      rw[hv] at h
      exact h))
     clear KN;go_region_law ((go_simp;go_at_call 83;refine KE.out.mono ?_;rintro e y4 ⟨rfl,hD,hC⟩;refine XdF (md:=.any) (a:=⟨#[],[]⟩) (w:=y4) ?_ ?_;focus (exact Xbj hC q.1 q.2 rfl rfl rfl (λx' hO=>Qn.err HB.out hP.out (Xq0 pF.out HN.out hv) (hD.trans hO)))))
     all_goals exact trivial
    |ok v=>
    obtain⟨ht,r4⟩:=v
    have KO:=Xa (show Calls Tryz.prog 83 #[.pointer (some ⟨rb,0,none⟩)] wc.drew (λe y=>e=.returned (.int .i64 ht)/\∃m,L.drop m=r4/\Rq w b rb (.slice (some ⟨tb,0,none⟩) L.length cap) L m ⟨nm,0,[],[]⟩ ⟨[],[]⟩ y) from KN.mono (λe y h=>by
     rw[hv] at h
     exact h))
    have hE:=XiC r3 qI.out;rw[hv] at hE;have qJ:=Xa hE.2;have HV:=Xa hv;clear KN hv hE rI;go_cut [34] from 31 to 36 (λ_ wx=>∃m,L.drop m=r4/\Rq w b rb (.slice (some ⟨tb,0,none⟩) L.length cap) L m ⟨nm,ht,[],[]⟩ ⟨[],[]⟩ wx)
    case first=>
     first|go_region_law ((go_simp;go_at_call 83;refine KO.out.mono ?_;rintro e y4 ⟨rfl,m4,pG,pD⟩;have cl4:=pD.res.cells1.1.1;obtain⟨⟨cv,rU⟩,rV,pO⟩:=pD.setHeight ht;have rJ:=Xa (And.intro pG pO);clear pG pD pO))|fail
     all_goals
      go_wp2_with fail;go_meet;exact⟨m4,rJ.out.1,rJ.out.2⟩
    case rest=>
    obtain⟨m4,pG,pD⟩:=hcut;have cl4:=pD.res.cells1.1.1;have rK:XC (L.drop m4):=pG▸qJ.out;have KT:=Xa (Xsv pD rK hH 4 (.slice none 0 0) (λ_=>true) (Or.inl ⟨rfl,rfl⟩));rw[pG] at KT;clear pD pG cl3 KO rK;go_wp2_with fail;refine KT.out.mono ?_;rintro e y5 hx;unfold Xci at hx;clear KT cl4;cases pE:XP 4 (λ_=>true) r4 with
    |error q=>
     rw[pE] at hx;obtain⟨rfl,hD,hC⟩:=hx;exact Xbj hC q.1 q.2 rfl rfl rfl (λx' hO=>Qn.err HB.out hP.out (Xq1 pF.out HN.out HV.out pE) (hD.trans hO))
    |ok v=>
    obtain⟨s5,r5⟩:=v;rw[pE] at hx;obtain⟨rfl,m5,pV,qK⟩:=hx;have HE:=Xa (XoK pF.out HN.out HV.out pE);have hE:=XtO r4 qJ.out;rw[show QA r4=XP 4 (λ_=>true) r4 from rfl,pE] at hE;have pW:XC (L.drop m5):=by rw[pV];exact hE.2
    have KB:=Xa (Xmu qK pW hH);have cl5:=qK.res.cells1.1.1;obtain⟨f,hf⟩:∃f,L.length=f+1:=⟨L.length-1,by omega⟩
    have qL:(L.drop m5).length<=f:=by
     have e1:=Yr 4 (λ_=>true) r4 _ _ pE;have e2:=Ym HN.out;have e3:=QQ _ _ _ HV.out;have e4:=Yr 1 Xau _ _ _ pF.out;have e5:=congrArg List.length pT.out;rw[pV];simp only[List.length_drop] at e5;omega
    clear hE qK pE;go_wp2_with fail;refine KB.out.mono ?_;rintro e y6 ⟨rfl,m6,hR,pH⟩;have rZ:=Xa (show Zr L=Q9 f ⟨nm,ht,[],[]⟩ ⟨[],[]⟩ (L.drop m6) by rw[HE.out,hf,hR,<-pV];rfl);have sA:=Xa (show XC (L.drop m6) by rw[hR];exact(Xcg _ pW).2)
    have sB:=Xa (show(L.drop m6).length<=f by
     obtain⟨p,hp⟩:=(Xcg _ pW).1;have:=congrArg List.length hp;rw[List.length_append] at this;rw[hR]
     omega)
    have qM:=Xa pH;clear KB cl5 hR pH qL pV pW hf HE pF HN HV pT qH rW rS rH pU qD qG qI qJ pQ;have g0:=Xu2;go_wp2_with fail;go_loopw [41] (λ_ wr=>∃(m f:Nat) (h1:Xl) (c1:Xp),Hid (Rq w b rb (.slice (some ⟨tb,0,none⟩) L.length cap) L m h1 c1 wr)/\Hid (XC (L.drop m))/\Hid ((L.drop m).length<=f)/\Hid (Zr L=Q9 f h1 c1 (L.drop m))) (λ_ wr=>L.length-numAt wr ⟨rb,1,none⟩)
    case atStart=>exact⟨m6,f,_,_,qM,sA,sB,rZ⟩
    case round=>
     obtain⟨m,f,h1,c1,hq,hl,pY,qN⟩:=hrel;obtain⟨t,r,rL,hg,hr,sN⟩:=hl.out.head;have KN:=Xa (Xc.first (Xv3 hq.out hg));simp only[Xh.val] at KN;have cl:=λz:Xb wr.heap.size wr=>(hq.out.more z.below).res.cells1.1.1;have cl0:=hq.out.res.cells1.1.1;have rM:=Xa rL;clear rL hr hg;by_cases hk:t.kind=5
     ·have sC:(t.kind !=5)=false:=by rw[hk];rfl
      have sD:=Xa (qN.out.trans (Q9.done (by rw[rM.out];exact hk)));clear hk;go_wp2_with (go_at_call 84;refine KN.out.mono ?_;rintro e w1 ⟨rfl,z,rfl⟩;have hz:=hq.out.more z.below;have r0:=hz.res;have r1:=r0.setR (.pointer (some ⟨rb,0,none⟩));have r2:=r1.setL (.int .i64 0);have r3:=r2.setC (.int .i64 0);have sE:=Xa (r3.setE (.int .i64 0));have HZ:=Xa hz;obtain⟨f0,g0⟩:=r0.cells1;obtain⟨f1,g1⟩:=r1.cells1;obtain⟨f2,g2⟩:=r2.cells1;obtain⟨f3,g3⟩:=r3.cells1;clear r0 r1 r2 r3 hz)
      have sF:=HZ.out.lt;refine XnS sE.out rfl rfl rfl (Qn.good HB.out hP.out sD.out ?_ sF (by omega) ((((HZ.out.st.putAt (by omega) ?_ _ _).putAt (by omega) ?_ _ _).putAt (by omega) ?_ _ _).putAt (by omega) ?_ _ _))
      ·exact(((HZ.out.bel.setCell (p:=⟨b,0,none⟩) nr _).setCell (p:=⟨b+1,0,none⟩) (by simp only;omega) _).setCell (p:=⟨b+1,1,none⟩) (by simp only;omega) _).setCell (p:=⟨b+1+1,0,none⟩) (by simp only;omega) _
      all_goals
       intro tb' cap' e;injection e with e;injection e with e;injection e with e;have:=rR.out;omega
     ·have sC:(t.kind !=5)=true:=by simpa using hk
      have qO:¬JU (L.drop m)=5:=by rw[rM.out];exact hk
      clear hk;go_wp2_with (go_at_call 84;refine KN.out.mono ?_;rintro e w1 ⟨rfl,z,rfl⟩;have clz:=cl z)
      refine(XvI (hq.out.more z.below) hl.out hH rD.out HC.out HB.out).mono ?_;rintro e y hx;cases hs:Ye h1 c1 (L.drop m) with
      |error q=>
       rw[hs] at hx;obtain⟨rfl,hD,hC⟩:=hx;exact Xbj hC q.1 q.2 rfl rfl rfl (λx' hO=>Qn.err HB.out hP.out (qN.out.trans (Q9.err qO hs)) (hD.trans hO))
      |ok v=>
       obtain⟨a,r'⟩:=v;rw[hs] at hx;obtain⟨rfl,m',qP,qQ⟩:=hx;have hE:=Xuy h1 c1 _ hl.out;rw[hs] at hE;have rN:XC (L.drop m'):=by rw[qP];exact hE.2
       have sG:=Xgu h1 c1 _ _ _ hs;obtain⟨f',rfl⟩:∃f',f=f'+1:=⟨f-1,by have:=pY.out;omega⟩
       have qR:=Xa (qN.out.trans (Q9.step qO hs));have KB:=Xa (Xmu qQ rN hH);have cl':=qQ.res.cells1.1.1;have sH:=Xa (Xcg _ rN);have rO:=Xa qP;clear hE qQ hs qP qO cl clz;go_wp2_with fail;refine KB.out.mono ?_;rintro e y6 ⟨rfl,m6,hR,pH⟩;have h6:=sH.out;rw[<-hR,rO.out] at h6;obtain⟨⟨p,hp⟩,sJ⟩:=h6;have e1:=congrArg List.length hp;rw[List.length_append] at e1;have sK:=pY.out;have qM:=Xa pH;have n1:=pH.numAt;have n0:=hq.out.numAt;have sL:=Xa hR;clear pH hR KB cl';go_wp2_with fail;refine⟨⟨m6,f',a.1,a.2,qM,Xa sJ,Xa (by omega),Xa (by rw[qR.out,sL.out,rO.out])⟩,?_⟩
       rw[n1,n0];simp only[List.length_drop] at e1 sG;omega
end Go.Proofs.YtdcahhbipeaggaaGreatDoor
