/- Lemmas for TopPrinted: ProfWalk. -/
import Derived.Test.YtdcahhbipeaggaaGreatDoorBuf
import Derived.Laws.EntriesVeiled
set_option maxRecDepth 100000
set_option maxHeartbeats 16000000
namespace Go.Proofs.YtdcahhbipeaggaaGreatDoor
open Go.RowKit
structure Yh where
 fn:Int
 fd:Int
 an:Int
 ad:Int
 bn:Int
 bd:Int
 cn:Int
 cd:Int
def Yh.cells(p:Yh):List Value:=[.int .i64 p.fn,.int .i64 p.fd,.int .i64 p.an,.int .i64 p.ad,.int .i64 p.bn,.int .i64 p.bd,.int .i64 p.cn,.int .i64 p.cd]
theorem Xdm(p:Yh):p.cells.length=8:=rfl
def Blk(w:World)(b:Nat)(p:Int×Nat):Prop:=w.heap[b]? =some (.cells #[.int .i64 p.1,.int .i64 (p.2:Int)] 110 (0,0))
theorem Blk.below{w w':World}{b:Nat}{p:Int×Nat}(h:Blk w b p)(hb:Below w.heap.size w w'):Blk w' b p:=(hb.block b (agS h).1).trans h
theorem Blk.cells{w:World}{b:Nat}{p:Int×Nat}(h:Blk w b p):w.cell? ⟨b,0,none⟩=some (.int .i64 p.1)/\w.cell? ⟨b,1,none⟩=some (.int .i64 (p.2:Int)):=Xi h
def Xsq(w:World)(f:Int×Nat)(e:Ending)(w':World):Prop:=
 Below w.heap.size w w'/\∃S:Sl Yh,e=.returned (.tuple #[.slice S.A S.l.length S.cap,.int .i64 0])/\XA w' w'.heap.size 8 Yh.cells S/\S.l.length<=4/\∃p,S.l[S.l.length-1]? =some p/\p.fn=f.1/\p.fd=(f.2:Int)
theorem Xim{α:Type}{w:World}{g:Nat}{cs:Array Value}{t:TypeId}{fr:Nat×Nat}{size:Nat}{cells:α->List Value}{l:List α}(hs:∀x,(cells x).length=size)(hl:cs.toList=l.flatMap cells)(h:w.heap[g]? =some (.cells cs t fr)):∀i x,l[i]? =some x->∀j u,(cells x)[j]? =some u->w.cell? ⟨g,0+(i*size+j),none⟩=some u:=λi x hi j u hu=>by
 have:=Xis hs l i x j u hi hu;rw[Nat.zero_add,Joins.cell_of_block h];rw[<-hl] at this;simpa using this
def XbT(kb nb:Nat)(w:World):Prop:=kb<w.heap.size/\w.cell? ⟨kb,0,none⟩=some (.func (.func 243) #[] #[.pointer (some ⟨nb,0,none⟩)])
theorem Xp4{B:Nat}{w:World}{obj:Nat->Obj}{fl:List (Nat×Nat)}(hB:B<=w.heap.size){x:AF B w obj fl}{n d a b:Int}{kb nb:Nat}(h:XcU n d a b)(hk:∀y:Xb B w,XbT kb nb y.val):
 Calls Tryz.prog 245 #[.int .i64 n,.int .i64 d,.pointer (some ⟨kb,0,none⟩)] x.val.val λe w''=>e=.returned (.agg #[.int .i64 a,.int .i64 b])/\∃y:AF B w obj fl,w''=y.val.val:=
 Xc.afterF hB (h.run kb nb _ (hk x.val).1 (hk x.val).2)
theorem Xp5{B:Nat}{w:World}(hB:B<=w.heap.size){x:Xb B w}{n d a b:Int}{kb nb:Nat}(h:XcU n d a b)(hk:∀y:Xb B w,XbT kb nb y.val):
 Calls Tryz.prog 245 #[.int .i64 n,.int .i64 d,.pointer (some ⟨kb,0,none⟩)] x.val λe w''=>e=.returned (.agg #[.int .i64 a,.int .i64 b])/\∃y:Xb B w,w''=y.val:=
 Xc.after hB (h.run kb nb _ (hk x).1 (hk x).2)
theorem Xq5:(Tryz.prog.info? 312).map (λi=>(i.zero,i.size,i.bytes))=some (some (.agg #[.int .i64 0,.int .i64 0,.int .i64 0,.int .i64 0,.int .i64 0,.int .i64 0,.int .i64 0,.int .i64 0]),8,64):=by kernel_rfl
theorem Xr6(d:Nat)(m:Xw)(hm:QI m=true)(hs:m.set.size<=maxLen)(hd:d<=1048576)(w:World):Calls Tryz.prog 235 #[.int .i64 (d:Int),.agg #[.string m.set,.int .i64 m.to,.int .i64 m.aK,.int .i64 m.rise,.int .i64 m.fall]] w (Xsq w (fmk (QN d m:Nat) (Jb d m))):=by
 obtain⟨-,-,h3,h4,h5⟩:=Qf.1 hm;obtain⟨W,hW,sE,qZ,rA⟩:=bxmv w m;have hc:=λy:Xb W.heap.size W=>Xw.boxed rA (by omega) y;have rB:=bdo qZ;have rC:=hc (Xb.refl _ _);simp only[Xb.refl] at rC;have K1:=Xa (λy:Xb W.heap.size W=>Xc.after (x:=y) nr (XjA d m hm hs hd y.val));have K2:=Xa (λy:World=>Xuq d m hm hd y);have HW:=Xa hW;have rD:=Xa rB;clear hW sE qZ rA rB;go_enter Tryz.func235,Tryz.ntmps235;go_upto_region 1 with fail;rw[<-HW.out,show W=(Xb.refl W.heap.size W).val from rfl]
 go_upto_region 5 with (go_at_call 241;refine(K1.out _).mono ?_;rintro e w' ⟨rfl,y1,rfl⟩)
 obtain⟨X,hX,rE,qB,pN⟩:=boxed y1.val (.cells #[.int .i64 0,.int .i64 1] 110);rw[<-hX];have HX:=Xa hX;obtain⟨zb,qC⟩:∃zb,zb=y1.val.heap.size:=⟨_,rfl⟩
 rw[<-qC] at rE qB pN ⊢;have pO:Below W.heap.size W X:=y1.below.trans (qB.mono (by rw[qC];exact y1.size));have pD:=λy:Xb X.heap.size X=>And.intro (hc ⟨y.val,pO.trans (y.below.mono pO.size)⟩) (Xi ((y.below.block zb (by omega)).trans pN));simp only at pD;have hM:=pD (Xb.refl _ _);simp only[Xb.refl] at hM;have pP:=Xa pO;have sV:=Xa pN;clear hX pN qB pO qC;by_cases pE:d=0
 ·have e1:QN d m=0:=by simp[QN,pE]
  have e2:Jb d m=1:=by simp[Jb,pE]
  have sF:((d:Int)==0)=true:=by simp[pE]
  have HD:=Xa (And.intro e1 e2);clear pE e1 e2;go_wp2_with fail;go_ret2;obtain⟨Z,hZ,sW,sG,rF⟩:=boxed X (.cells #[.int .i64 0,.int .i64 1,.int .i64 0,.int .i64 1,.int .i64 0,.int .i64 1,.int .i64 0,.int .i64 1] 312);rw[<-hZ];refine⟨rD.out ⟨Z,pP.out.trans (sG.mono pP.out.size)⟩,⟨some ⟨zb+1,0,none⟩,1,[⟨0,1,0,1,0,1,0,1⟩]⟩,rfl,⟨Nat.le_refl _,by unfold maxLen;simp only;omega,λ_=>⟨zb+1,0,rfl,by omega,λi x hi j u hu=> ?_⟩⟩,by simp,⟨0,1,0,1,0,1,0,1⟩,rfl,?_,?_⟩
  ·rw[rE] at rF;exact Xim (cells:=Yh.cells) (l:=[⟨0,1,0,1,0,1,0,1⟩]) Xdm rfl rF i x hi j u hu
  ·rw[HD.out.1,HD.out.2];rfl
  ·rw[HD.out.1,HD.out.2];rfl
 have sF:((d:Int)==0)=false:=by simp;omega
 have sX:¬(d:Int)=0:=by omega
 obtain⟨sH,qD⟩:=XeO hm (show 0<d by omega);obtain⟨R,hR⟩:∃s,s=m.rise.toNat:=⟨_,rfl⟩
 obtain⟨F,hF⟩:∃s,s=m.fall.toNat:=⟨_,rfl⟩
 obtain⟨t,ht⟩:∃s,s=Xgs d m:=⟨_,rfl⟩
 have er:m.rise=(R:Int):=by omega
 have ef:m.fall=(F:Int):=by omega
 obtain⟨ri,fa,st,s1,ru,dv,sp,wf,en,c0,s3,c2,sJ,qE⟩:=XnT d t R F hd (by omega) (by omega) (by omega) (by omega) (by omega) (by omega);have e1:QN d m=2*d*R*F+t*t*(R+F):=by rw[QN,if_neg (by omega),hR,hF,ht]
 have e2:Jb d m=2*R*F*t:=by rw[Jb,if_neg (by omega),hR,hF,ht]
 have rG:=Xa (show fmk (QN d m:Nat) (Jb d m)=en by rw[e1,e2,<-qE]);rw[<-ht] at K2 sH qD;have m1:(t:Int)*(t:Int)=((t*t:Nat):Int):=by push_cast;rfl
 have m2:2*(R:Int)=((2*R:Nat):Int):=by push_cast;rfl
 have m3:2*(F:Int)=((2*F:Nat):Int):=by push_cast;rfl
 have bW:t*t<=8192*8192:=Nat.mul_le_mul qD qD;obtain⟨t2,pQ⟩:∃x,x=t*t:=⟨_,rfl⟩
 obtain⟨R2,qF⟩:∃x,x=2*R:=⟨_,rfl⟩
 obtain⟨F2,qG⟩:∃x,x=2*F:=⟨_,rfl⟩
 obtain⟨k1,k2,k3,k4,k5,k6,k7,k8,k9,k10,k11,k12⟩:=sJ;rw[<-pQ,<-qF] at k1;rw[<-pQ,<-qG] at k2;rw[<-pQ] at m1 bW;rw[<-qF] at m2;rw[<-qG] at m3;simp only[er,ef] at pD hM K2;have sY:IntKind.i64.wrap (t2:Int)=(t2:Int):=by rw[IntKind.wrap_i64];omega
 have sZ:IntKind.i64.wrap (R2:Int)=(R2:Int):=by rw[IntKind.wrap_i64];omega
 have tA:IntKind.i64.wrap (F2:Int)=(F2:Int):=by rw[IntKind.wrap_i64];omega
 have tB:R<=16384/\F<=16384:=by omega
 have tC:=Xa qE;clear e1 e2 qE pQ qF qG er ef hR hF ht h3 h4 h5 pE rC hc;go_upto_region 12 with (go_at_call 242;refine(Xc.first (K2.out _)).mono ?_;rintro e w' ⟨rfl,y2,rfl⟩)
 obtain⟨bb,pR⟩:∃b,b=y2.val.heap.size:=⟨_,rfl⟩
 obtain⟨A,hA,qH,qI,qJ⟩:=boxed y2.val (.cells #[.int .i64 0] 35);obtain⟨U,hU,rH,pS,pT⟩:=boxed A (.cells #[.func (.func 243) #[] #[.pointer (some ⟨y2.val.heap.size,0,none⟩)]] 320);rw[<-hA,<-hU,<-pR];rw[<-pR] at qH qI qJ pT;rw[qH] at rH pS pT;have pU:Below X.heap.size X U:=y2.below.trans ((qI.mono (by rw[pR];exact y2.size)).trans (pS.mono (by have:=y2.size;omega)));have pF:=(pS.block bb (by omega)).trans qJ;have pW:=λy:Xb U.heap.size U=>And.intro (pD ⟨y.val,pU.trans (y.below.mono pU.size)⟩) (And.intro (y.cells pF (by omega) 0 _ rfl) (y.cells pT (by omega) 0 _ rfl))
 simp only at pW;have qK:∀y:Xb U.heap.size U,XbT (bb+1) bb y.val:=λy=>⟨Nat.lt_of_lt_of_le (by omega) y.size,(pW y).2.2⟩
 have rI:=Xa (pP.out.trans (pU.mono pP.out.size));have ek:=Xhl;have ew:=Xmg;have eo:=XnM;clear hA qH qI qJ hU rH pS pT pF pU pR pD hM;rw[show U=(Xb.refl U.heap.size U).val from rfl];refine Xco (Xb.refl U.heap.size U) nr 16 13 14 (.cells #[.int .i64 0,.int .i64 0] 110) (by decide) (by kernel_rfl) (by kernel_rfl) ⟨_,rfl,rfl,rfl,λa w=>by kernel_rfl⟩ ⟨_,rfl,rfl,rfl,λa w=>by kernel_rfl⟩ ?_;apply Exists.intro;refine⟨λfl qL=> ?_,?_,?_,?_⟩
 ·simp only[List.take_succ_cons,List.take_zero]
  repeat (go_big_quiet_step (first
   |(go_at_call 245;exact Xp4 nr (by assumption) qK)
   |(go_at_call 244;exact Xc.afterF nr (JV _ _))
   |(go_at_call 243;exact Xc.afterF nr (JD _ _ _ _))
   |(go_at_call 246;exact Xc.afterF nr (XdR.run (by assumption) _))
   |(go_at_call 188;exact Xc.afterF nr (Xjn.run (by assumption) _))
   |(go_at_call 247;exact Xc.afterF nr (Xlk.run (by assumption) _))))
  exact wpQuiet_nil rfl
 ·kernel_rfl
 ·rfl
 intro pV qV zV hp hq qM hN sK hC pX;have r1:=Xi hC;have r2:=Xe hC;have r3:=Xi pX;have r4:=Xe pX;have rJ:¬qV=pV:=λe=>qM e.symm;simp only[List.drop_succ_cons,List.drop_zero,ZE];go_simp;go_upto_region 13 with fail;obtain⟨V,hV⟩:∃C,C=(((zV.val.setCell ⟨pV,0,none⟩ (.int .i64 ri.1)).setCell ⟨pV,1,none⟩ (.int .i64 (ri.2:Int))).setCell ⟨qV,0,none⟩ (.int .i64 fa.1)).setCell ⟨qV,1,none⟩ (.int .i64 (fa.2:Int)):=⟨_,rfl⟩
 rw[<-hV];have rK:Blk V pV ri:=by rw[hV];exact XU (XU (XR hC) _ _ qM) _ _ qM
 have rL:Blk V qV fa:=by rw[hV];exact XR (XU (XU pX _ _ rJ) _ _ rJ)
 have hT:Below U.heap.size U V:=by rw[hV];exact(((zV.below.setCell hp _).setCell hp _).setCell hq _).setCell hq _
 have pY:=λy:Xb V.heap.size V=>And.intro (pW ⟨y.val,hT.trans (y.below.mono hT.size)⟩) (And.intro (rK.below y.below).cells (rL.below y.below).cells);simp only at pY;have qN:∀y:Xb V.heap.size V,XbT (bb+1) bb y.val:=λy=>qK ⟨y.val,hT.trans (y.below.mono hT.size)⟩;have rM:=Xa (rI.out.trans (hT.mono rI.out.size));clear hV rK rL hT r1 r2 r3 r4 hC pX hp hq hN sK pW qK;have pK:=pY (Xb.refl _ _);simp only[Xb.refl] at pK;rw[show V=(Xb.refl V.heap.size V).val from rfl];go_wp2_with fail;refine(Xp5 nr k3 qN).mono ?_;rintro e w' ⟨rfl,y5,rfl⟩;go_upto_region 14 with fail
 obtain⟨G,hG,rN,qO,qP⟩:=boxed y5.val (.cells #[.int .i64 st.1,.int .i64 (st.2:Int)] 110);obtain⟨pG,pZ⟩:∃b,b=y5.val.heap.size:=⟨_,rfl⟩
 rw[<-hG,<-pZ];rw[<-pZ] at rN qO qP;have rO:Blk G pG st:=qP;have hY:Below V.heap.size V G:=y5.below.trans (qO.mono (by rw[pZ];exact y5.size));have qQ:=λy:Xb G.heap.size G=>And.intro (pY ⟨y.val,hY.trans (y.below.mono hY.size)⟩) (rO.below y.below).cells;simp only at qQ;have qR:∀y:Xb G.heap.size G,XbT (bb+1) bb y.val:=λy=>qN ⟨y.val,hY.trans (y.below.mono hY.size)⟩;have rP:=Xa (rM.out.trans (hY.mono rM.out.size));clear hG rN qO qP rO hY pY qN pK pZ;rw[show G=(Xb.refl G.heap.size G).val from rfl];refine Xcp (Xb.refl G.heap.size G) nr 15 16 (.cells #[.int .i64 0,.int .i64 0] 110) (by kernel_rfl) (by kernel_rfl) ⟨_,rfl,rfl,rfl,λa w=>by kernel_rfl⟩ ?_
 apply Exists.intro;refine⟨λfl qL=> ?_,?_,?_,?_⟩
 ·simp only[List.take_succ_cons,List.take_zero]
  repeat (go_big_quiet_step (first
   |(go_at_call 245;exact Xp4 nr (by assumption) qR)
   |(go_at_call 244;exact Xc.afterF nr (JV _ _))
   |(go_at_call 243;exact Xc.afterF nr (JD _ _ _ _))
   |(go_at_call 246;exact Xc.afterF nr (XdR.run (by assumption) _))
   |(go_at_call 188;exact Xc.afterF nr (Xjn.run (by assumption) _))
   |(go_at_call 247;exact Xc.afterF nr (Xlk.run (by assumption) _))))
  exact wpQuiet_nil rfl
 ·kernel_rfl
 ·rfl
 intro pH zH hp hN hC;have r1:=Xi hC;have r2:=Xe hC;simp only[List.drop_succ_cons,List.drop_zero,ZE];go_simp;go_upto_region 15 with fail;obtain⟨H,hH⟩:∃C,C=(zH.val.setCell ⟨pH,0,none⟩ (.int .i64 ru.1)).setCell ⟨pH,1,none⟩ (.int .i64 (ru.2:Int)):=⟨_,rfl⟩
 rw[<-hH];have rQ:Blk H pH ru:=by rw[hH];exact XR hC
 have pA:Below G.heap.size G H:=by rw[hH];exact(zH.below.setCell hp _).setCell hp _
 have qS:=λy:Xb H.heap.size H=>And.intro (qQ ⟨y.val,pA.trans (y.below.mono pA.size)⟩) (rQ.below y.below).cells;simp only at qS;have qT:∀y:Xb H.heap.size H,XbT (bb+1) bb y.val:=λy=>qR ⟨y.val,pA.trans (y.below.mono pA.size)⟩;have rR:=Xa (rP.out.trans (pA.mono rP.out.size));clear hH rQ pA r1 r2 hC hp hN qQ qR;rw[show H=(Xb.refl H.heap.size H).val from rfl];refine Xcp (Xb.refl H.heap.size H) nr 15 17 (.cells #[.int .i64 0,.int .i64 0] 110) (by kernel_rfl) (by kernel_rfl) ⟨_,rfl,rfl,rfl,λa w=>by kernel_rfl⟩ ?_;apply Exists.intro;refine⟨λfl qL=> ?_,?_,?_,?_⟩
 ·simp only[List.take_succ_cons,List.take_zero]
  repeat (go_big_quiet_step (first
   |(go_at_call 245;exact Xp4 nr (by assumption) qT)
   |(go_at_call 244;exact Xc.afterF nr (JV _ _))
   |(go_at_call 243;exact Xc.afterF nr (JD _ _ _ _))
   |(go_at_call 246;exact Xc.afterF nr (XdR.run (by assumption) _))
   |(go_at_call 188;exact Xc.afterF nr (Xjn.run (by assumption) _))
   |(go_at_call 247;exact Xc.afterF nr (Xlk.run (by assumption) _))))
  exact wpQuiet_nil rfl
 ·kernel_rfl
 ·rfl
 intro pI zI hp hN hC;have r1:=Xi hC;have r2:=Xe hC;simp only[List.drop_succ_cons,List.drop_zero,ZE];go_simp;go_upto_region 16 with fail;obtain⟨I,hI⟩:∃C,C=(zI.val.setCell ⟨pI,0,none⟩ (.int .i64 sp.1)).setCell ⟨pI,1,none⟩ (.int .i64 (sp.2:Int)):=⟨_,rfl⟩
 rw[<-hI];have rS:Blk I pI sp:=by rw[hI];exact XR hC
 have pB:Below H.heap.size H I:=by rw[hI];exact(zI.below.setCell hp _).setCell hp _
 have qU:=λy:Xb I.heap.size I=>And.intro (qS ⟨y.val,pB.trans (y.below.mono pB.size)⟩) (rS.below y.below).cells;simp only at qU;have qW:∀y:Xb I.heap.size I,XbT (bb+1) bb y.val:=λy=>qT ⟨y.val,pB.trans (y.below.mono pB.size)⟩;have rT:=Xa (rR.out.trans (pB.mono rR.out.size));clear hI rS pB r1 r2 hC hp hN qS qT;rw[show I=(Xb.refl I.heap.size I).val from rfl];refine Xcp (Xb.refl I.heap.size I) nr 11 18 (.cells #[.int .i64 0,.int .i64 0] 110) (by kernel_rfl) (by kernel_rfl) ⟨_,rfl,rfl,rfl,λa w=>by kernel_rfl⟩ ?_;apply Exists.intro;refine⟨λfl qL=> ?_,?_,?_,?_⟩
 ·simp only[List.take_succ_cons,List.take_zero]
  repeat (go_big_quiet_step (first
   |(go_at_call 245;exact Xp4 nr (by assumption) qW)
   |(go_at_call 244;exact Xc.afterF nr (JV _ _))
   |(go_at_call 243;exact Xc.afterF nr (JD _ _ _ _))
   |(go_at_call 246;exact Xc.afterF nr (XdR.run (by assumption) _))
   |(go_at_call 188;exact Xc.afterF nr (Xjn.run (by assumption) _))
   |(go_at_call 247;exact Xc.afterF nr (Xlk.run (by assumption) _))))
  exact wpQuiet_nil rfl
 ·kernel_rfl
 ·rfl
 intro pJ zJ hp hN hC;have r1:=Xi hC;have r2:=Xe hC;simp only[List.drop_succ_cons,List.drop_zero,ZE];go_simp;go_upto_region 17 with fail;obtain⟨J,hJ⟩:∃C,C=(zJ.val.setCell ⟨pJ,0,none⟩ (.int .i64 en.1)).setCell ⟨pJ,1,none⟩ (.int .i64 (en.2:Int)):=⟨_,rfl⟩
 rw[<-hJ];have rU:Blk J pJ en:=by rw[hJ];exact XR hC
 have pC:Below I.heap.size I J:=by rw[hJ];exact(zJ.below.setCell hp _).setCell hp _
 have qA:=λy:Xb J.heap.size J=>And.intro (qU ⟨y.val,pC.trans (y.below.mono pC.size)⟩) (rU.below y.below).cells;simp only at qA;have qX:∀y:Xb J.heap.size J,XbT (bb+1) bb y.val:=λy=>qW ⟨y.val,pC.trans (y.below.mono pC.size)⟩;have rV:=Xa (rT.out.trans (pC.mono rT.out.size));clear hJ rU pC r1 r2 hC hp hN qU qW;rw[show J=(Xb.refl J.heap.size J).val from rfl];refine QM (Xb.refl J.heap.size J) 8 (by kernel_rfl) (by kernel_rfl) ?_;simp only[List.take_succ_cons,List.take_zero,List.drop_succ_cons,List.drop_zero]
 repeat (go_big_quiet_step (first
  |(go_at_call 245;exact Xp5 nr (by assumption) qX)
  |(go_at_call 244;exact Xc.after nr (JV _ _))
  |(go_at_call 243;exact Xc.after nr (JD _ _ _ _))
  |(go_at_call 246;exact Xc.after nr (XdR.run (by assumption) _))))
 refine wpQuiet_nil ?_;intro z7;go_upto_region 18 with fail;obtain⟨p0,rW⟩:∃p:Yh,p=⟨0,1,0,1,0,1,c0.1,c0.2⟩:=⟨_,rfl⟩
 obtain⟨L,hL,sL,rX,rY⟩:=boxed z7.val (.cells #[.int .i64 0,.int .i64 1,.int .i64 0,.int .i64 1,.int .i64 0,.int .i64 1,.int .i64 c0.1,.int .i64 (c0.2:Int)] 312);rw[<-hL];have hP:Below J.heap.size J L:=z7.below.trans (rX.mono z7.size);have pL:X7 312 8 Yh.cells J (.slice (some ⟨z7.val.heap.size,0,none⟩) 1 1) [p0] L:=
  ⟨⟨rfl,.inr ⟨z7.val.heap.size,1,_,rfl,z7.size,rY,Nat.le_refl _,by unfold maxLen;omega,rfl,by rw[rW];rfl⟩⟩,hP⟩
 obtain⟨i0,hi,rZ,sA,sB⟩:=info_parts Xq5;have HI:=Xa (And.intro hi (And.intro rZ (And.intro sA sB)));have hQ:=Xa pL;have qY:=λy:Xb L.heap.size L=>qA ⟨y.val,hP.trans (y.below.mono hP.size)⟩;simp only at qY;have sC:∀y:Xb L.heap.size L,XbT (bb+1) bb y.val:=λy=>qX ⟨y.val,hP.trans (y.below.mono hP.size)⟩;have pM:=qY (Xb.refl _ _);simp only[Xb.refl] at pM;have sM:=Xa hP;clear hL sL rX rY hP pL hi rZ sA sB rW;go_upto_if 113 with fail;go_cut [19] (λa wx=>∃l:List Yh,Hid (X7 312 8 Yh.cells J a l wx)/\Hid (l.length<=2))
 case first=>
  by_cases h0:ru.1=0
  ·have h1:(ru.1==0)=true/\(ru.1 !=0)=false:=by simp[h0]
   have h0:=Xa h0;go_wp2_with fail;go_meet;exact⟨[p0],hQ,Xa (by simp)⟩
  ·have h1:(ru.1==0)=false/\(ru.1 !=0)=true:=by simp[h0]
   go_wp2_with fail;refine Xcn L.heap.size 8 (Operand.tmp 19) (by kernel_rfl) (by kernel_rfl) rfl rfl (λ_ _ _ _ h=>h) ?_;simp only[List.take_succ_cons,List.take_zero,List.drop_succ_cons,List.drop_zero];go_simp
   repeat (go_big_quiet_step (first
  |(go_at_call 245;exact Xp5 nr (by assumption) sC)
  |(go_at_call 244;exact Xc.after nr (JV _ _))
  |(go_at_call 243;exact Xc.after nr (JD _ _ _ _))
  |(go_at_call 246;exact Xc.after nr (XdR.run (by assumption) _))))
   refine wpQuiet_nil ?_;intro z8;have sN:J.heap.size<=z8.val.heap.size:=Nat.le_trans sM.out.size z8.size;go_wp2_with (at_builtin;refine wpList_append_own _ rfl _ _ 308 rfl J.heap.size 312 i0 _ 8 64 Tryz.underlying308 HI.out.1 HI.out.2.1 HI.out.2.2.1 HI.out.2.2.2 rfl (by decide) _ _ _ rfl ((hQ.out.more z8.below).own.alloc _) ⟨z8.val.heap.size,0,none⟩ 1 1 (Yh.cells ⟨st.1,st.2,ri.1,ri.2,t,1,0,1⟩) rfl rfl (World.news_of_block (heap_alloc_new z8.val _)) (λu hu=>by simp[Yh.cells] at hu;rcases hu with rfl|rfl|rfl|rfl|rfl|rfl|rfl|rfl<;>rfl) (by simp;unfold maxLen;omega) (by simp) (by simp;omega) ?_;intro v' w1 hD hE _)
   go_meet;exact⟨[p0]++[⟨st.1,st.2,ri.1,ri.2,t,1,0,1⟩],Xa ((hQ.out.more z8.below).append (ls:=[⟨st.1,st.2,ri.1,ri.2,t,1,0,1⟩]) (brf.alloc nr _) hD hE),Xa (by simp)⟩
 case rest=>
  obtain⟨l,hO,sO⟩:=hcut;have sP:=λy:Xb wc.heap.size wc=>qA ⟨y.val,hO.out.bel.trans (y.below.mono hO.out.bel.size)⟩;simp only at sP;have sQ:∀y:Xb wc.heap.size wc,XbT (bb+1) bb y.val:=λy=>qX ⟨y.val,hO.out.bel.trans (y.below.mono hO.out.bel.size)⟩;have tD:IntKind.i64.wrap (-(F:Int))= -(F:Int):=by rw[IntKind.wrap_i64];omega
  clear qY pM sC;go_wp2_with fail;refine Xcn wc.heap.size 27 (Operand.tmp 19) (by kernel_rfl) (by kernel_rfl) rfl rfl (λ_ _ _ _ h=>h) ?_;simp only[List.take_succ_cons,List.take_zero,List.drop_succ_cons,List.drop_zero];go_simp
  repeat (go_big_quiet_step (first
  |(go_at_call 245;exact Xp5 nr (by assumption) sQ)
  |(go_at_call 244;exact Xc.after nr (JV _ _))
  |(go_at_call 243;exact Xc.after nr (JD _ _ _ _))
  |(go_at_call 246;exact Xc.after nr (XdR.run (by assumption) _))))
  refine wpQuiet_nil ?_;intro z9;have sR:J.heap.size<=z9.val.heap.size:=Nat.le_trans hO.out.bel.size z9.size;have tG:=sO.out;go_upto_region 21 with (at_builtin;refine wpList_append_own _ rfl _ _ 308 rfl J.heap.size 312 i0 _ 8 64 Tryz.underlying308 HI.out.1 HI.out.2.1 HI.out.2.2.1 HI.out.2.2.2 rfl (by decide) _ _ _ rfl ((hO.out.more z9.below).own.alloc _) ⟨z9.val.heap.size,0,none⟩ 2 2 ([(⟨sp.1,sp.2,s3.1,s3.2,t,1,c2.1,c2.2⟩:Yh),⟨en.1,en.2,d,1,0,1,0,1⟩].flatMap Yh.cells) rfl rfl (World.news_of_block (heap_alloc_new z9.val _)) (λu hu=>by simp[Yh.cells] at hu;rcases hu with rfl|rfl|rfl|rfl|rfl|rfl|rfl|rfl|rfl|rfl|rfl|rfl|rfl|rfl|rfl|rfl<;>rfl) (by unfold maxLen;omega) (by omega) (by simp;omega) ?_;intro v' w1 hD hE _)
  have hK:X7 312 8 Yh.cells J v' (l++[(⟨sp.1,sp.2,s3.1,s3.2,t,1,c2.1,c2.2⟩:Yh),⟨en.1,en.2,d,1,0,1,0,1⟩]) w1:=(hO.out.more z9.below).append (ls:=[⟨sp.1,sp.2,s3.1,s3.2,t,1,c2.1,c2.2⟩,⟨en.1,en.2,d,1,0,1,0,1⟩]) (brf.alloc nr _) hD hE;obtain⟨S,cap,rfl,sD⟩:=hK.slAt Xdm;have sS:=qA ⟨w1,hK.bel⟩;simp only at sS;have sT:=Xa hK.bel;have sU:=Xa sD;clear hK sD hD hE;go_wp2_with fail;go_ret2;refine⟨rD.out ⟨w1,rV.out.trans (sT.out.mono rV.out.size)⟩,⟨S,cap,l++[⟨sp.1,sp.2,s3.1,s3.2,t,1,c2.1,c2.2⟩,⟨en.1,en.2,d,1,0,1,0,1⟩]⟩,rfl,sU.out,by simp;omega,⟨en.1,en.2,d,1,0,1,0,1⟩,by simp,by rw[rG.out],by rw[rG.out]⟩
end Go.Proofs.YtdcahhbipeaggaaGreatDoor
