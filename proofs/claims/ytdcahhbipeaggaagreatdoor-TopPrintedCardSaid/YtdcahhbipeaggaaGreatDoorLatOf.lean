/- Lemmas for TopPrinted: LatOf. -/
import Derived.Test.YtdcahhbipeaggaaGreatDoorLatSt
set_option maxRecDepth 100000
set_option maxHeartbeats 16000000
namespace Go.Proofs.YtdcahhbipeaggaaGreatDoor
open Go Go.RowKit Go.Maps Go.Deep
theorem Xtx:(Tryz.prog.info? 4).map (λi=>(i.zero,i.size,i.bytes))=some (some (.bool false),1,1):=by kernel_rfl
theorem XvF(s:Xd)(sok:s.ok)(A:Option Addr)(cap:Nat)(l:List Yu)(hG:∀x∈l,x.ok)(w:World)(B:Nat)(hB:B<=w.heap.size)(sat:Xd.at_ w B s)(hH:XA w B 3 Yu.cells ⟨A,cap,l⟩)(hC:(X0 s&&Y3 l)=false):
 Calls Tryz.prog 57 #[.agg #[.string s.name,.int .i64 s.depth,.int .i64 s.low,.int .i64 s.high,.int .i64 s.length,.slice s.aG.A s.aG.l.length s.aG.cap,.int .i64 s.aM,.int .i64 s.aN,.int .i64 s.aI,.int .i64 s.most,.int .i64 s.aJ,.slice s.aF.A s.aF.l.length s.aF.cap,.slice s.aE.A s.aE.l.length s.aE.cap],.slice A l.length cap] w (Xc w (.tuple #[.pointer none,.int .i64 1])):=by
 obtain⟨W,hW,hL,hE,hI⟩:=bxst w s;have hc:=λy:Xb W.heap.size W=>Xd.boxed hI (by omega) y;have hM:=hc (Xb.refl _ _);simp only[Xb.refl] at hM;have hJ:=bdo hE;have sat2:=sat.to (hE.mono hB) (show B<=W.heap.size by omega);have hD:=hH.to (hE.mono hB) (show B<=W.heap.size by omega)
 have KV:=Xa (Xc.first (ZR s sok W W.heap.size nr sat2));have KJ:=Xa (λy:Xb W.heap.size W=>Xc.after (x:=y) nr (Xbn A cap l hG y.val W.heap.size y.size (hD.to y.below nr)));have hK:=Xa hJ;have HW:=Xa hW;clear hW hI hE hJ sat sat2 hH hD hG sok hL;cases hv:X0 s
 ·rw[hv] at KV;clear hC hv;go_enter Tryz.func57,Tryz.ntmps57;go_upto_region 1 with fail;rw[<-HW.out];go_wp2_with (go_at_call 63;refine KV.out.mono ?_;rintro e w' ⟨rfl,y,rfl⟩)
  go_ret2;exact Xc.mk rfl (hK.out y)
 ·have hj:Y3 l=false:=by rw[hv] at hC;simpa using hC
  rw[hv] at KV;rw[hj] at KJ;clear hC hv hj;go_enter Tryz.func57,Tryz.ntmps57;go_upto_region 1 with fail;rw[<-HW.out]
  go_wp2_with (first
   |(go_at_call 63;refine KV.out.mono ?_;rintro e w' ⟨rfl,y,rfl⟩)
   |(go_at_call 103;refine(KJ.out y).mono ?_;rintro e w' ⟨rfl,y2,rfl⟩))
  go_ret2;exact Xc.mk rfl (hK.out y2)
def Xue(w:World)(s:Xd)(l:List Yu)(e:Ending)(w':World):Prop:=
 Below w.heap.size w w'/\∃lb hb rb gb,e=.returned (.tuple #[.pointer (some ⟨lb,0,none⟩),.int .i64 0])/\Lat w.heap.size lb hb rb gb l.length (2^l.length) (ZK s l) (XbK (ZK s l) l.length) (Xbb (ZK s l) l.length) w'
theorem XuI(s:Xd)(sok:s.ok)(A:Option Addr)(cap:Nat)(l:List Yu)(qV:∀x∈l,x.ok)(w:World)(B:Nat)(hB:B<=w.heap.size)(sat:Xd.at_ w B s)(qM:XA w B 3 Yu.cells ⟨A,cap,l⟩)(hv:X0 s=true)(hj:Y3 l=true)(hlen:l.length<=12):
 Calls Tryz.prog 57 #[.agg #[.string s.name,.int .i64 s.depth,.int .i64 s.low,.int .i64 s.high,.int .i64 s.length,.slice s.aG.A s.aG.l.length s.aG.cap,.int .i64 s.aM,.int .i64 s.aN,.int .i64 s.aI,.int .i64 s.most,.int .i64 s.aJ,.slice s.aF.A s.aF.l.length s.aF.cap,.slice s.aE.A s.aE.l.length s.aE.cap],.slice A l.length cap] w (Xue w s l):=by
 obtain⟨W,hW,sR,qN,rW⟩:=bxst w s;have hc:=λy:Xb W.heap.size W=>Xd.boxed rW (by omega) y;have rX:=hc (Xb.refl _ _);simp only[Xb.refl] at rX;have rY:=bdo qN;have rZ:w.heap.size<W.heap.size:=by omega
 have sat2:=sat.to (qN.mono hB) (show B<=W.heap.size by omega);have pJ:=qM.to (qN.mono hB) (show B<=W.heap.size by omega);have KV:=Xa (Xc.first (ZR s sok W W.heap.size nr sat2));have KJ:=Xa (λy:Xb W.heap.size W=>Xc.after (x:=y) nr (Xbn A cap l qV y.val W.heap.size y.size (pJ.to y.below nr)));have KS:=Xa (λy:Xb W.heap.size W=>Xc.after (x:=y) nr (XqL s sok y.val W.heap.size y.size (sat2.to y.below nr)));have qO:=(Xte hj).2;have KC:=Xa (λ(x:Yu) (hx:x∈l) (y:Xb W.heap.size W)=>(Xkb s x sok (qV x hx) hv (by unfold Xaf Xg;obtain⟨a,b,c⟩:=qO x hx;simp[a,b,c]) y.val W.heap.size y.size (sat2.to y.below nr)))
 rw[hv] at KV;rw[hj] at KJ;rw[YO hv] at KS;obtain⟨qW,qX,-⟩:=QE hv;have qY:∀x∈csE s l,-2097152<=x/\x<=2097152:=λx hx=>by
  obtain⟨j,sA,rfl⟩:=List.mem_map.1 hx;exact Xk8 hv (qO j sA).2.1 (qO j sA).2.2
 have qZ:(csE s l).length=l.length:=Xvd s l;have pS:∀st,-5000000000<=Xan (XaM s) (csE s l) st/\Xan (XaM s) (csE s l) st<=5000000000:=λst=>by
  have:=XrO (I:=XaM s) (K:=2097152) (by omega) qY st;rw[qZ] at this;omega
 have hP:=Xa pS;have rA:=Xa qY;have qP:=Xa qZ;obtain⟨sB,sC⟩:(0<=s.aJ/\s.aJ<=67108864):=by obtain⟨-,-,-,-,h5,-⟩:=ZN hv;exact h5
 have sD:=Xa pJ;have sE:=Xa rY;have HW:=Xa hW;have sF:l.length<=cap:=qM.1;have sS:cap<=9223372036854775807:=qM.2.1;clear hW rW qN rY sat sat2 qM pJ qV sok sR qO qY qZ pS hv hj;obtain⟨n,hn⟩:∃n,n=l.length:=⟨_,rfl⟩
 obtain⟨N,hN⟩:∃N,N=2^n:=⟨_,rfl⟩
 have tD:1<=N:=by rw[hN];exact Nat.two_pow_pos n
 have sG:N<=4096:=by rw[hN];exact Nat.pow_le_pow_right (show 0<2 by decide) (show n<=12 by omega)
 have pC:=Xcu (n:=n) (by omega);rw[<-hN] at pC;have pT:=Xa (λv:World=>run_make_row' (P:=Tryz.prog) 142 4 (.bool false) 1 Tryz.underlying142 Xtx rfl .i64 .i64 N (by omega) (by omega) v);have pU:=Xa (λv:World=>run_make_row' (P:=Tryz.prog) 30 3 (.int .i64 0) 8 Tryz.underlying30 Xvu rfl .i64 .i64 N (by omega) (by omega) v);have pK:=Xa pC;clear pC;have HN:=Xa hN;have pV:=Xa hn;obtain⟨I,hI⟩:∃I,I=XaM s:=⟨_,rfl⟩
 have HI:=Xa hI;rw[<-hI] at KS qW qX;rw[<-hn] at KJ hlen sF ⊢;have tG:(0:Int)<=(n:Int):=by omega
 have tH:(n:Int)<=12:=by omega
 clear hN hn hI;go_enter Tryz.func57,Tryz.ntmps57;go_upto_region 1 with fail;rw[<-HW.out]
 go_upto_region 9 with (first
  |(go_at_call 63;refine KV.out.mono ?_;rintro e w' ⟨rfl,y,rfl⟩;have sT:=hc y)
  |(go_at_call 103;refine(KJ.out y).mono ?_;rintro e w' ⟨rfl,y2,rfl⟩;have rB:=hc y2)
  |(go_at_call 104;refine(KS.out y2).mono ?_;rintro e w' ⟨rfl,y3,rfl⟩;have rC:=hc y3))
 clear sT rB rC rX;go_cut [9] (λa wx=>∃lb hb rb gb pv,a=.pointer (some ⟨pv,0,none⟩)/\Hid (Below W.heap.size W wx)/\Hid (Lat W.heap.size lb hb rb gb n N (λ_=>false) (λ_=>false) (λ_=>false) wx)/\Hid (W.heap.size<=pv/\pv<wx.heap.size/\pv≠lb/\pv≠hb/\pv≠rb/\pv≠gb/\wx.cell? ⟨pv,0,none⟩=some (.pointer (some ⟨lb,0,none⟩))))
 case first=>
  have hD:=Xa (And.intro y3.below y3.size);have tI:=Xa rZ;clear hP rA qP sD sE pV HI KV KJ KS KC hc qW qX sB sC sF sS rZ HN HW;have sU:=pT.out;have pC:=pK.out;obtain⟨X,hX⟩:∃X,X=y3.val:=⟨_,rfl⟩
  rw[<-hX] at hD ⊢;clear hX;go_region
  ·go_wp2_with fail;go_meet;exact⟨_,_,_,_,_,rfl,XQ 0 1 2 3 4 [_,_,_,_,_] hD.out.1 hD.out.2 rfl rfl rfl rfl rfl (by decide)⟩
  ·go_wp2_with fail;go_meet;exact⟨_,_,_,_,_,rfl,XQ 0 1 2 4 3 [_,_,_,_,_] hD.out.1 hD.out.2 rfl rfl rfl rfl rfl (by decide)⟩
  ·go_wp2_with fail;go_meet;exact⟨_,_,_,_,_,rfl,XQ 0 1 3 4 2 [_,_,_,_,_] hD.out.1 hD.out.2 rfl rfl rfl rfl rfl (by decide)⟩
  ·go_wp2_with fail;go_meet;exact⟨_,_,_,_,_,rfl,XQ 0 2 1 3 4 [_,_,_,_,_] hD.out.1 hD.out.2 rfl rfl rfl rfl rfl (by decide)⟩
  ·go_wp2_with fail;go_meet;exact⟨_,_,_,_,_,rfl,XQ 0 2 1 4 3 [_,_,_,_,_] hD.out.1 hD.out.2 rfl rfl rfl rfl rfl (by decide)⟩
  ·go_wp2_with fail;go_meet;exact⟨_,_,_,_,_,rfl,XQ 0 3 1 4 2 [_,_,_,_,_] hD.out.1 hD.out.2 rfl rfl rfl rfl rfl (by decide)⟩
  ·go_wp2_with fail;go_meet;exact⟨_,_,_,_,_,rfl,XQ 0 2 3 4 1 [_,_,_,_,_] hD.out.1 hD.out.2 rfl rfl rfl rfl rfl (by decide)⟩
  ·go_wp2_with fail;go_meet;exact⟨_,_,_,_,_,rfl,XQ 0 3 2 4 1 [_,_,_,_,_] hD.out.1 hD.out.2 rfl rfl rfl rfl rfl (by decide)⟩
  ·go_wp2_with fail;go_meet;exact⟨_,_,_,_,_,rfl,XQ 1 0 2 3 4 [_,_,_,_,_] hD.out.1 hD.out.2 rfl rfl rfl rfl rfl (by decide)⟩
  ·go_wp2_with fail;go_meet;exact⟨_,_,_,_,_,rfl,XQ 1 0 2 4 3 [_,_,_,_,_] hD.out.1 hD.out.2 rfl rfl rfl rfl rfl (by decide)⟩
  ·go_wp2_with fail;go_meet;exact⟨_,_,_,_,_,rfl,XQ 1 0 3 4 2 [_,_,_,_,_] hD.out.1 hD.out.2 rfl rfl rfl rfl rfl (by decide)⟩
  ·go_wp2_with fail;go_meet;exact⟨_,_,_,_,_,rfl,XQ 2 0 1 3 4 [_,_,_,_,_] hD.out.1 hD.out.2 rfl rfl rfl rfl rfl (by decide)⟩
  ·go_wp2_with fail;go_meet;exact⟨_,_,_,_,_,rfl,XQ 2 0 1 4 3 [_,_,_,_,_] hD.out.1 hD.out.2 rfl rfl rfl rfl rfl (by decide)⟩
  ·go_wp2_with fail;go_meet;exact⟨_,_,_,_,_,rfl,XQ 3 0 1 4 2 [_,_,_,_,_] hD.out.1 hD.out.2 rfl rfl rfl rfl rfl (by decide)⟩
  ·go_wp2_with fail;go_meet;exact⟨_,_,_,_,_,rfl,XQ 2 0 3 4 1 [_,_,_,_,_] hD.out.1 hD.out.2 rfl rfl rfl rfl rfl (by decide)⟩
  ·go_wp2_with fail;go_meet;exact⟨_,_,_,_,_,rfl,XQ 3 0 2 4 1 [_,_,_,_,_] hD.out.1 hD.out.2 rfl rfl rfl rfl rfl (by decide)⟩
  ·go_wp2_with fail;go_meet;exact⟨_,_,_,_,_,rfl,XQ 1 2 0 3 4 [_,_,_,_,_] hD.out.1 hD.out.2 rfl rfl rfl rfl rfl (by decide)⟩
  ·go_wp2_with fail;go_meet;exact⟨_,_,_,_,_,rfl,XQ 1 2 0 4 3 [_,_,_,_,_] hD.out.1 hD.out.2 rfl rfl rfl rfl rfl (by decide)⟩
  ·go_wp2_with fail;go_meet;exact⟨_,_,_,_,_,rfl,XQ 1 3 0 4 2 [_,_,_,_,_] hD.out.1 hD.out.2 rfl rfl rfl rfl rfl (by decide)⟩
  ·go_wp2_with fail;go_meet;exact⟨_,_,_,_,_,rfl,XQ 2 1 0 3 4 [_,_,_,_,_] hD.out.1 hD.out.2 rfl rfl rfl rfl rfl (by decide)⟩
  ·go_wp2_with fail;go_meet;exact⟨_,_,_,_,_,rfl,XQ 2 1 0 4 3 [_,_,_,_,_] hD.out.1 hD.out.2 rfl rfl rfl rfl rfl (by decide)⟩
  ·go_wp2_with fail;go_meet;exact⟨_,_,_,_,_,rfl,XQ 3 1 0 4 2 [_,_,_,_,_] hD.out.1 hD.out.2 rfl rfl rfl rfl rfl (by decide)⟩
  ·go_wp2_with fail;go_meet;exact⟨_,_,_,_,_,rfl,XQ 2 3 0 4 1 [_,_,_,_,_] hD.out.1 hD.out.2 rfl rfl rfl rfl rfl (by decide)⟩
  ·go_wp2_with fail;go_meet;exact⟨_,_,_,_,_,rfl,XQ 3 2 0 4 1 [_,_,_,_,_] hD.out.1 hD.out.2 rfl rfl rfl rfl rfl (by decide)⟩
  ·go_wp2_with fail;go_meet;exact⟨_,_,_,_,_,rfl,XQ 1 2 3 4 0 [_,_,_,_,_] hD.out.1 hD.out.2 rfl rfl rfl rfl rfl (by decide)⟩
  ·go_wp2_with fail;go_meet;exact⟨_,_,_,_,_,rfl,XQ 1 3 2 4 0 [_,_,_,_,_] hD.out.1 hD.out.2 rfl rfl rfl rfl rfl (by decide)⟩
  ·go_wp2_with fail;go_meet;exact⟨_,_,_,_,_,rfl,XQ 2 1 3 4 0 [_,_,_,_,_] hD.out.1 hD.out.2 rfl rfl rfl rfl rfl (by decide)⟩
  ·go_wp2_with fail;go_meet;exact⟨_,_,_,_,_,rfl,XQ 3 1 2 4 0 [_,_,_,_,_] hD.out.1 hD.out.2 rfl rfl rfl rfl rfl (by decide)⟩
  ·go_wp2_with fail;go_meet;exact⟨_,_,_,_,_,rfl,XQ 2 3 1 4 0 [_,_,_,_,_] hD.out.1 hD.out.2 rfl rfl rfl rfl rfl (by decide)⟩
  ·go_wp2_with fail;go_meet;exact⟨_,_,_,_,_,rfl,XQ 3 2 1 4 0 [_,_,_,_,_] hD.out.1 hD.out.2 rfl rfl rfl rfl rfl (by decide)⟩
 case rest=>
  obtain⟨lb,hb,rb,gb,pv,rfl,pL,pW,sH⟩:=hcut;obtain⟨p1,p2,p3,p4,p5,p6,p7⟩:=sH.out;have hC:Z0 W lb hb rb gb pv n N (λ_=>false) (λ_=>false) (λ_=>false) wc:=⟨pL.out,pW.out,p7,p1,p2,p3,p4,p5,p6⟩
  obtain⟨q1,q2,q3,q4,q5⟩:=hC.lts;have pD:Xbs W lb hb rb gb pv wc.heap.size n N (λ_=>false) (λ_=>false) (λ_=>false) (λ_=>0) (wc.alloc (.cells (madeCells #[.int .i64 0] N) 3)):=
   ⟨hC.to (brf.alloc nr _),World.rowIs_made _ _ _ _,pL.out.size,by omega,by omega,by omega,by omega,by omega⟩
  have pX:=pD.setI 0 I;have pY:=And.intro (pD.iFz 0) (pD.iAt (show 0<N by omega));have pM:=Xa pX;obtain⟨CS,rD⟩:∃CS,CS=csE s l:=⟨_,rfl⟩
  have pZ:=Xa rD;rw[<-rD] at qP hP;rw[<-HI.out] at hP;have rE:=pU.out;have qA:=pK.out;clear pL pW sH p1 p2 p3 p4 p5 p6 p7 hC pD pX q1 q2 q3 q4 q5 rD;obtain⟨ib,qQ⟩:∃ib,ib=wc.heap.size:=⟨_,rfl⟩
  have sV:=Xa qQ;rw[<-qQ] at pM pY;go_upto_region 11 with fail;rw[<-qQ];clear qQ rE qA;go_wp2_with fail;go_loopw [63] (λv wr=>∃k:Nat,v=.int .i64 k/\k<=n/\Hid (∃fi,Xbs W lb hb rb gb pv ib n N (λ_=>false) (λ_=>false) (λ_=>false) fi wr/\XpS I CS fi (2^k))) (λv _=>n-(intOf v).toNat)
  case atStart=>exact⟨0,rfl,Nat.zero_le _,Xa ⟨_,pM.out,λj hj=>by
   have:j=0:=by simpa using hj
   subst this
   simp[Xty]⟩⟩
  case round=>
   obtain⟨k,rfl,hk,hJ⟩:=hrel;by_cases hZ:k<n
   ·obtain⟨fi0,hC,qB⟩:=hJ.out;have sJ:k<l.length:=by have:=pV.out;omega
    obtain⟨b,off,hA,pN,pI⟩:=sD.out.2.2 (show 0<l.length by omega);simp only at hA;subst hA;obtain⟨x,hx⟩:∃x,l[k]? =some x:=⟨l[k],lgE sJ⟩
    have he:=Yu.elem hx pN pI ⟨wr,hC.st.bel⟩;simp only at he;have rF:CS.getD k 0=Xj8 s x:=by rw[pZ.out,csE,List.getD,List.getElem?_map,hx];rfl
    have sK:k<CS.length:=by rw[qP.out];exact sJ
    obtain⟨V,hV,rG,qC,qD⟩:=boxed wr (.cells #[.string x.name,.bool x.aM,.int .i64 x.weight] 60);have sL:=Yu.boxed qD (by omega) (Xb.refl V.heap.size V);simp only[Xb.refl] at sL;have pE:=hC.to qC;have qE:=hc ⟨V,pE.st.bel⟩;simp only at qE;have rH:=Xa (Xc.first (KC.out x (lmg hx) ⟨V,pE.st.bel⟩));simp only at rH;obtain⟨ch,pO⟩:∃ch,ch=Xj8 s x:=⟨_,rfl⟩
    have sW:=rA.out ch (by rw[pO];exact List.mem_map.2 ⟨x,lmg hx,rfl⟩);rw[<-pO] at rH rF;have HV:=Xa hV;have rI:=Xa (λy:Xb V.heap.size V=>pE.to y.below);have sX:=Xa qB;have sM:=Xa rF;have sN:=Xa sK;obtain⟨q,hq⟩:∃q,q=2^k:=⟨_,rfl⟩
    have tJ:q+q<=N:=by
     have h1:=Nat.pow_le_pow_right (show 0<2 by decide) (show k+1<=n by omega);rw[Nat.pow_succ] at h1;have:=HN.out;omega
    have tK:0<q:=by rw[hq];exact Nat.two_pow_pos k
    have rJ:=Xcu (n:=k) (by omega);have qF:=λst:Nat=>XsS (i:=k) (st:=st) (by omega);rw[<-hq] at rJ qF;have HQ:=Xa hq;have sY:=Xa qF;have rK:(0:Int)<=(k:Int):=by omega
    have rL:(k:Int)<=64:=by omega
    clear pI hx hV qC qD rG pE pO rF sK qB hJ hC hq qF;go_upto_region 15 with fail;rw[<-HV.out];go_wp2_with (go_at_call 105;refine rH.out.mono ?_;rintro e w' ⟨rfl,z,rfl⟩)
    clear sL qE he;go_loopw [79] (λv wr=>∃st:Nat,v=.int .i64 st/\st<=q/\Hid (∃fi,Xbs W lb hb rb gb pv ib n N (λ_=>false) (λ_=>false) (λ_=>false) fi wr/\XpS I CS fi (q+st))) (λv _=>q-(intOf v).toNat)
    case atStart=>exact⟨0,rfl,Nat.zero_le _,Xa ⟨_,rI.out z,by have:=sX.out;rw[<-HQ.out] at this;exact this⟩⟩
    case round=>
     obtain⟨st,rfl,tL,hJ⟩:=hrel;by_cases hQ:st<q
     ·obtain⟨fi,hC,qR⟩:=hJ.out;have sO:=λy:Xb wr.heap.size wr=>(hC.to y.below).iAt (show st<N by omega);have qS:=λy:Xb wr.heap.size wr=>And.intro ((hC.to y.below).iFz (st+q)) ((hC.to y.below).iAt (show st+q<N by omega));have pP:=qR;rw[HQ.out] at pP;have qG:=XpS.next sN.out (show st<2^k by rw[<-HQ.out];exact hQ) pP;rw[<-HQ.out,sM.out] at qG;have pF:=hP.out st;rw[<-qR st (by omega)] at pF;have qH:=hP.out (st+2^k);rw[Xqm sN.out (Xje (n:=k) (show st<2^k by rw[<-HQ.out];exact hQ) nr),sM.out,<-qR st (by omega)] at qH;obtain⟨a,ha⟩:∃a,a=fi st:=⟨_,rfl⟩
      rw[<-ha] at sO pF qH qG;obtain⟨j,hj⟩:∃j,j=st+q:=⟨_,rfl⟩
      have qF:=sY.out st (by have:=HQ.out;omega);have tM:(0:Int)<=(j:Int):=by omega
      have tN:(j:Int)<(N:Int):=by omega
      have tO:(0:Int)<=(st:Int):=by omega
      have tP:(st:Int)<(N:Int):=by omega
      rw[<-hj] at qS qG qF;have hY:=Xa hC;have sZ:=Xa qG;have rM:=sO (Xb.refl _ _);have qI:=qS (Xb.refl _ _);simp only[Xb.refl] at rM qI;clear hJ hC qR pP qG ha hj;go_upto_region 21 with fail;refine XH wr.heap.size 12 (by kernel_rfl) (by kernel_rfl) ?_;simp only[List.take_succ_cons,List.take_zero,List.drop_succ_cons,List.drop_zero]
      repeat (go_big_quiet_step (fail))
      refine wpQuiet_nil ?_;intro y;go_wp2_with fail;exact⟨⟨st+1,by go_num,by omega,Xa ⟨_,(hY.out.to y.below).setI j (a+ch),sZ.out⟩⟩,by simp[intOf];omega⟩
     ·have hG:∃fi,Xbs W lb hb rb gb pv ib n N (λ_=>false) (λ_=>false) (λ_=>false) fi wr/\XpS I CS fi (2^(k+1)):=by
       obtain⟨fi,h1,h2⟩:=hJ.out;have e:q+st=2^(k+1):=by rw[Nat.pow_succ,<-HQ.out];omega
       exact⟨fi,h1,e▸h2⟩
      have hY:=Xa hG;clear hJ hG;go_wp2_with fail;exact⟨⟨k+1,by go_num,by omega,hY⟩,by simp[intOf];omega⟩
   ·have hG:Xbs W lb hb rb gb pv ib n N (λ_=>false) (λ_=>false) (λ_=>false) (λj=>Xan I CS j) wr:=by
     obtain⟨fi,h1,h2⟩:=hJ.out;have e:2^k=N:=by rw[HN.out,show k=n by omega]
     exact h1.congr (λ_ _=>rfl) (λ_ _=>rfl) (λ_ _=>rfl) (λj hj=>h2 j (by omega))
    have hY:=Xa hG;clear hJ hG KC pU pT KV KJ KS;have rN:=Xa (λst=>(show ZK s l st=XnC s (Xan I CS st) by unfold ZK;rw[HI.out,pZ.out]));obtain⟨H,hH⟩:∃H,H=ZK s l:=⟨_,rfl⟩
    have rO:=Xa hH;rw[<-hH] at rN;clear hH;go_wp2_with fail;go_loopw [98] (λv wr=>∃k:Nat,v=.int .i64 k/\k<=N/\Hid (Xbs W lb hb rb gb pv ib n N (λj=>decide (j<k)&&H j) (λ_=>false) (λ_=>false) (λj=>Xan I CS j) wr)) (λv _=>N-(intOf v).toNat)
    case atStart=>exact⟨0,rfl,Nat.zero_le _,Xa (hY.out.congr (λj _=>by simp) (λ_ _=>rfl) (λ_ _=>rfl) (λ_ _=>rfl))⟩
    case round=>
     clear hk hZ;obtain⟨k,rfl,hk,hJ⟩:=hrel;by_cases hZ:k<N
     ·have hC:=hJ.out;have pB:=λy:Xb wr.heap.size wr=>(hC.to y.below).iAt hZ;have tA:=λy:Xb wr.heap.size wr=>And.intro (And.intro (hC.to y.below).st.pc (hC.to y.below).st.lat.hs) (And.intro ((hC.to y.below).st.lat.h.frozen k) ((hC.to y.below).st.hAt hZ));have sP:=λy:Xb wr.heap.size wr=>hc ⟨y.val,(hC.to y.below).st.bel⟩;simp only at sP;have pF:=hP.out k;have pQ:=rN.out k;obtain⟨a,ha⟩:∃a,a=Xan I CS k:=⟨_,rfl⟩
      rw[<-ha] at pB pF pQ;have hM:=pB (Xb.refl _ _);have rP:=tA (Xb.refl _ _);have rQ:=sP (Xb.refl _ _);simp only[Xb.refl] at hM rP rQ;have hY:=Xa hC;have rK:(0:Int)<=(k:Int):=by omega
      have rL:(k:Int)<(N:Int):=by omega
      clear hJ hC ha;have hK:∀(b:Bool),b=H k->∀y:Xb wr.heap.size wr,Hid (Xbs W lb hb rb gb pv ib n N (λj=>decide (j<k+1)&&H j) (λ_=>false) (λ_=>false) (λj=>Xan I CS j) (y.val.setCell ⟨hb,k,none⟩ (.bool b))):=λb pN y=>
       Xa (((hY.out.to y.below).setH k b).congr (λj _=>by
        by_cases e:j=k
        ·subst e;simp[pN]
        ·simp only[if_neg e];congr 1;simp;omega) (λ_ _=>rfl) (λ_ _=>rfl) (λ_ _=>rfl))
      have hE:=Xa hK;clear hK;by_cases h1: -s.aJ<=a
      ·by_cases h2:a<=s.aJ
       ·have HB:=Xa (show true=H k by rw[pQ];simp[XnC,h1,h2]);clear pQ;go_upto_region 27 with fail;refine XH wr.heap.size 17 (by kernel_rfl) (by kernel_rfl) ?_;simp only[List.take_succ_cons,List.take_zero,List.drop_succ_cons,List.drop_zero]
        repeat (go_big_quiet_step (fail))
        refine wpQuiet_nil ?_;intro y;go_wp2_with fail;exact⟨⟨k+1,by go_num,by omega,hE.out _ HB.out y⟩,by simp[intOf];omega⟩
       ·have HB:=Xa (show false=H k by rw[pQ];simp[XnC,h1,h2]);clear pQ;go_upto_region 27 with fail;refine XH wr.heap.size 17 (by kernel_rfl) (by kernel_rfl) ?_;simp only[List.take_succ_cons,List.take_zero,List.drop_succ_cons,List.drop_zero]
        repeat (go_big_quiet_step (fail))
        refine wpQuiet_nil ?_;intro y;go_wp2_with fail;exact⟨⟨k+1,by go_num,by omega,hE.out _ HB.out y⟩,by simp[intOf];omega⟩
      ·have HB:=Xa (show false=H k by rw[pQ];simp[XnC,h1]);clear pQ;go_upto_region 27 with fail;refine XH wr.heap.size 17 (by kernel_rfl) (by kernel_rfl) ?_;simp only[List.take_succ_cons,List.take_zero,List.drop_succ_cons,List.drop_zero]
       repeat (go_big_quiet_step (fail))
       refine wpQuiet_nil ?_;intro y;go_wp2_with fail;exact⟨⟨k+1,by go_num,by omega,hE.out _ HB.out y⟩,by simp[intOf];omega⟩
     ·have hG:Z0 W lb hb rb gb pv n N H (λ_=>false) (λ_=>false) wr:=
       hJ.out.st.congr (λj hj=>by have:j<k:=(by omega);simp[this]) (λ_ _=>rfl) (λ_ _=>rfl)
      have hT:=Xa hG;clear hJ hG hP rA qP hc rN pM pY qW qX sB sC pK hY;have rR:=hT.out.pc;have tB:=hT.out.lat.hs;go_wp2_with fail;clear rR tB;go_loopw [126] (λv wr=>∃k:Nat,v=.int .i64 k/\k<=N/\Hid (Z0 W lb hb rb gb pv n N H (λj=>decide (j<k)&&XbK H n j) (λ_=>false) wr)) (λv _=>N-(intOf v).toNat)
      case atStart=>exact⟨0,rfl,Nat.zero_le _,Xa (hT.out.congr (λ_ _=>rfl) (λj _=>by simp) (λ_ _=>rfl))⟩
      case round=>
       clear hk hZ hT;obtain⟨k,rfl,hk,hJ⟩:=hrel;by_cases hZ:k<N
       ·obtain⟨V,hV,rG,qC,qD⟩:=boxed wr (.cells #[.int .i64 (k:Int)] 3);have hC:=hJ.out.to qC;obtain⟨l1,l2,l3,l4,l5⟩:=hJ.out.lts;have qJ:∀y:Xb V.heap.size V,y.val.cell? ⟨wr.heap.size,0,none⟩=some (.int .i64 (k:Int)):=λy=>y.cell (Joins.cell_of_block qD 0) (show wr.heap.size<V.heap.size by omega);have pB:=λy:Xb V.heap.size V=>And.intro (And.intro (hC.to y.below).pc (hC.to y.below).lat.hs) (And.intro (hC.to y.below).lat.rs ((hC.to y.below).hAt hZ));have qS:=λy:Xb V.heap.size V=>And.intro ((hC.to y.below).lat.r.frozen k) ((hC.to y.below).rAt hZ);have hM:=pB (Xb.refl _ _)
        have rS:=qJ (Xb.refl _ _);simp only[Xb.refl] at hM rS;have tC:∀(fn:Fn) (first cap:Array Value) (w:World),(Instr.makeFunc fn first cap).run Tryz.prog w=.ok (.func fn first cap) w:=λ_ _ _ _=>rfl;have hY:=Xa hC;have rK:(0:Int)<=(k:Int):=by omega
        have rL:(k:Int)<(N:Int):=by omega
        have HV:=Xa hV
        have KA:=Xa (λy:Xb V.heap.size V=>Xc.after (x:=y) nr (Xqt n lb hlen (k:Int) 106 #[.pointer (some ⟨wr.heap.size,0,none⟩),.pointer (some ⟨pv,0,none⟩)] (λi=>k.testBit i&&(decide (k-2^i<k)&&XbK H n (k-2^i))) XpA y.val (hC.to y.below).lat.n
         (λx i hi=>by
           have hx:=(hC.to y.below).to x.below;exact XuK lb rb wr.heap.size pv N k i (λj=>decide (j<k)&&XbK H n j) hZ sG (by omega) x.val ((x.below.cell (show wr.heap.size<y.val.heap.size by have:=y.size;omega)).trans (qJ y)) hx.pc hx.lat.rs (λj hj=>hx.rAt hj)
            ⟨by have:=y.size;have:=x.size;omega,by have:=hx.lt;omega,hx.lat.lt,hx.lat.r.lt⟩)))
        have hO:=XsL (held:=H) (n:=n) k;have pA:((List.range n).any λi=>k.testBit i&&(decide (k-2^i<k)&&XbK H n (k-2^i)))=((List.range n).any λi=>k.testBit i&&XbK H n (k-2^i)):=Xld λi _=>by
         cases hb:k.testBit i with
         |false=>rfl
         |true=>
          have h1:=Nat.ge_two_pow_of_testBit hb;have h2:=Nat.two_pow_pos i;have h3:k-2^i<k:=by omega
          simp[h3]
        rw[pA] at KA;obtain⟨an,qK⟩:∃b,b=(List.range n).any λi=>k.testBit i&&XbK H n (k-2^i):=⟨_,rfl⟩
        rw[<-qK] at KA hO;have hK:∀(b:Bool),b=XbK H n k->∀y:Xb V.heap.size V,Hid (Z0 W lb hb rb gb pv n N H (λj=>decide (j<k+1)&&XbK H n j) (λ_=>false) (y.val.setCell ⟨rb,k,none⟩ (.bool b))):=λb pN y=>
         Xa (((hY.out.to y.below).setR k b).congr (λ_ _=>rfl) (λj _=>by
          by_cases e:j=k
          ·subst e;simp[pN]
          ·simp only[if_neg e];congr 1;simp;omega) (λ_ _=>rfl))
        have hE:=Xa hK;have hR:=Xa hO;clear hK hO pA qK hJ hC hV rG qC qD l1 l2 l3 l4 l5;cases hh:H k
        ·have HB:=Xa (show false=XbK H n k by rw[hR.out,hh];rfl);rw[hh] at pB hM;clear hh;go_upto_region 32 with fail;rw[<-HV.out];refine XH V.heap.size 23 (by kernel_rfl) (by kernel_rfl) ?_;simp only[List.take_succ_cons,List.take_zero,List.drop_succ_cons,List.drop_zero]
         repeat (go_big_quiet_step (fail))
         refine wpQuiet_nil ?_;intro y;go_wp2_with fail;exact⟨⟨k+1,by go_num,by omega,hE.out _ HB.out y⟩,by simp[intOf];omega⟩
        ·rw[hh] at pB hM;by_cases pG:k=0
         ·have rT:((k:Int)==0)=true:=by rw[beq_iff_eq];omega
          have HB:=Xa (show true=XbK H n k by rw[hR.out,hh,decide_eq_true pG];rfl);clear hh pG;go_upto_region 32 with fail;rw[<-HV.out];refine XH V.heap.size 23 (by kernel_rfl) (by kernel_rfl) ?_;simp only[List.take_succ_cons,List.take_zero,List.drop_succ_cons,List.drop_zero]
          repeat (go_big_quiet_step (fail))
          refine wpQuiet_nil ?_;intro y;go_wp2_with fail;exact⟨⟨k+1,by go_num,by omega,hE.out _ HB.out y⟩,by simp[intOf];omega⟩
         ·have rT:((k:Int)==0)=false:=by rw[beq_eq_false_iff_ne];omega
          have HB:=Xa (show an=XbK H n k by rw[hR.out,hh,decide_eq_false pG];rfl);clear hh pG;go_upto_region 32 with fail;rw[<-HV.out];refine XH V.heap.size 23 (by kernel_rfl) (by kernel_rfl) ?_;simp only[List.take_succ_cons,List.take_zero,List.drop_succ_cons,List.drop_zero]
          repeat (go_big_quiet_step ((go_at_call 59;exact KA.out _)))
          refine wpQuiet_nil ?_;intro y;go_wp2_with fail;exact⟨⟨k+1,by go_num,by omega,hE.out _ HB.out y⟩,by simp[intOf];omega⟩
       ·have hG:Z0 W lb hb rb gb pv n N H (XbK H n) (λ_=>false) wr:=
         hJ.out.congr (λ_ _=>rfl) (λj hj=>by have:j<k:=(by omega);simp[this]) (λ_ _=>rfl)
        have hT:=Xa hG;have KW:=Xa (Xc.first (XeN n lb hlen wr hG.lat.n));rw[<-HN.out] at KW;have rR:=hG.pc;clear hJ hG;go_upto_region 34 with fail;go_wp2_with (go_at_call 58;refine KW.out.mono ?_;rintro e w' ⟨rfl,z,rfl⟩)
        clear rR;go_loopw [19] (λv wr=>∃sv k:Nat,v=.pointer (some ⟨sv,0,none⟩)/\k<=N/\wr.cell? ⟨sv,0,none⟩=some (.int .i64 ((k:Int)-1))/\Hid (wr.frozen? ⟨sv,0,none⟩=false/\sv<wr.heap.size/\W.heap.size<=sv/\sv≠lb/\sv≠hb/\sv≠rb/\sv≠gb/\sv≠pv)/\Hid (Z0 W lb hb rb gb pv n N H (XbK H n) (λj=>decide (k<=j)&&Xbb H n j) wr)) (λv wr=>Xqq v wr)
        case atStart=>
         have hz:=(hT.out.to z.below).count ((N-1:Nat):Int)
         refine⟨_,N,rfl,Nat.le_refl _,hz.1.trans (by congr 2;omega),hz.2.1,Xa (hz.2.2.out.congr (λ_ _=>rfl) (λ_ _=>rfl) (λj hj=>by
          have:¬N<=j:=by omega
          simp[this]))⟩
        case round=>
         clear hk hZ;obtain⟨sv,k,rfl,hk,qJ,qT,hJ⟩:=hrel;by_cases hZ:0<k
         ·obtain⟨st,rfl⟩:∃st,k=st+1:=⟨k-1,by omega⟩
          have pH:wr.cell? ⟨sv,0,none⟩=some (.int .i64 (st:Int)):=by rw[qJ];congr 2;omega
          obtain⟨f1,f2,f3,f4,f5,f6,f7,f8⟩:=qT.out;have hC:=hJ.out;have hQ:st<N:=by omega
          have rU:=λy:Xb wr.heap.size wr=>y.cell pH f2;have pB:=λy:Xb wr.heap.size wr=>And.intro (And.intro (hC.to y.below).pc (hC.to y.below).lat.hs) (And.intro (hC.to y.below).lat.gs ((hC.to y.below).hAt hQ));have qS:=λy:Xb wr.heap.size wr=>And.intro ((hC.to y.below).lat.g.frozen st) ((hC.to y.below).gAt hQ);have hM:=pB (Xb.refl _ _);have rV:=rU (Xb.refl _ _);simp only[Xb.refl] at hM rV;have tC:∀(fn:Fn) (first cap:Array Value) (w:World),(Instr.makeFunc fn first cap).run Tryz.prog w=.ok (.func fn first cap) w:=λ_ _ _ _=>rfl;have hY:=Xa hC
          have rK:(0:Int)<=(st:Int):=by omega
          have rL:(st:Int)<(N:Int):=by omega
          have qU:=Xa (λy:Xb wr.heap.size wr=>Xc.after (x:=y) nr (XeN n lb hlen y.val (hC.to y.below).lat.n))
          have KA:=Xa (λy:Xb wr.heap.size wr=>Xc.after (x:=y) nr (Xqt n lb hlen (st:Int) 107 #[.pointer (some ⟨sv,0,none⟩),.pointer (some ⟨pv,0,none⟩)] (λi=> !st.testBit i&&(decide (st+1<=st+2^i)&&Xbb H n (st+2^i))) Xpz y.val (hC.to y.below).lat.n
           (λx i hi=>by
             have hx:=(hC.to y.below).to x.below;exact XuJ lb gb sv pv N st i (λj=>decide (st+1<=j)&&Xbb H n j) hQ sG (by omega) (λhb=>HN.out▸Xjk (n:=n) (by rw[<-HN.out];exact hQ) hi hb) x.val ((x.below.cell (show sv<y.val.heap.size by have:=y.size;omega)).trans (rU y)) hx.pc hx.lat.gs (λj hj=>hx.gAt hj)
              ⟨by have:=y.size;have:=x.size;omega,by have:=hx.lt;omega,hx.lat.lt,hx.lat.g.lt⟩)))
          have hO:=Xta (held:=H) (n:=n) (st:=st);have pA:((List.range n).any λi=> !st.testBit i&&(decide (st+1<=st+2^i)&&Xbb H n (st+2^i)))=((List.range n).any λi=> !st.testBit i&&Xbb H n (st+2^i)):=Xld λi _=>by
           have h2:=Nat.two_pow_pos i;have h3:st+1<=st+2^i:=by omega
           simp[h3]
          rw[pA] at KA;obtain⟨an,qK⟩:∃b,b=(List.range n).any λi=> !st.testBit i&&Xbb H n (st+2^i):=⟨_,rfl⟩
          rw[<-qK] at KA hO;rw[<-HN.out] at qU hO;obtain⟨m,hm⟩:∃m,m=N-1:=⟨_,rfl⟩
          rw[<-hm] at qU hO;have hK:∀(b:Bool),b=Xbb H n st->∀y:Xb wr.heap.size wr,∃U,U=y.val.setCell ⟨gb,st,none⟩ (.bool b)/\U.cell? ⟨sv,0,none⟩=some (.int .i64 (st:Int))/\Hid (Z0 W lb hb rb gb pv n N H (XbK H n) (λj=>decide (st<=j)&&Xbb H n j) U):=λb pN y=>
           ⟨_,rfl,(cell_of_block (blk_setCell_other _ ⟨gb,st,none⟩ _ _ f7) 0).trans (rU y),Xa (((hY.out.to y.below).setG st b).congr (λ_ _=>rfl) (λ_ _=>rfl) (λj _=>by
            by_cases e:j=st
            ·subst e;simp[pN]
            ·simp only[if_neg e];congr 1;simp;omega))⟩
          have hE:=Xa hK;have hR:=Xa hO;have tQ:=qT;clear hm hK hO pA qK hJ hC qJ f1 f2 f3 f4 f5 f6 f7 f8 qT;cases hh:H st
          ·have HB:=Xa (show false=Xbb H n st by rw[hR.out,hh];rfl);rw[hh] at pB hM;clear hh;go_upto_region 37 with fail;refine XH wr.heap.size 25 (by kernel_rfl) (by kernel_rfl) ?_;simp only[List.take_succ_cons,List.take_zero,List.drop_succ_cons,List.drop_zero]
           repeat (go_big_quiet_step (fail))
           refine wpQuiet_nil ?_;intro y;go_upto_region 38 with fail;obtain⟨U,hU,sQ,HU⟩:=hE.out _ HB.out y;rw[<-hU];clear hU;go_wp2_with fail;exact⟨⟨U.heap.size,st,rfl,by omega,(HU.out.count ((st:Int)-1)).1,(HU.out.count ((st:Int)-1)).2.1,(HU.out.count ((st:Int)-1)).2.2⟩,by rw[Xap (HU.out.count ((st:Int)-1)).1,Xap pH];omega⟩
          ·rw[hh] at pB hM;by_cases pG:st=m
           ·have rT:((st:Int)==(m:Int))=true:=by rw[beq_iff_eq];omega
            have HB:=Xa (show true=Xbb H n st by rw[hR.out,hh,decide_eq_true pG];rfl);clear hh pG;go_upto_region 37 with fail;refine XH wr.heap.size 25 (by kernel_rfl) (by kernel_rfl) ?_;simp only[List.take_succ_cons,List.take_zero,List.drop_succ_cons,List.drop_zero]
            repeat (go_big_quiet_step ((go_at_call 58;exact qU.out _)))
            refine wpQuiet_nil ?_;intro y;go_upto_region 38 with fail;obtain⟨U,hU,sQ,HU⟩:=hE.out _ HB.out y;rw[<-hU];clear hU;go_wp2_with fail;exact⟨⟨U.heap.size,st,rfl,by omega,(HU.out.count ((st:Int)-1)).1,(HU.out.count ((st:Int)-1)).2.1,(HU.out.count ((st:Int)-1)).2.2⟩,by rw[Xap (HU.out.count ((st:Int)-1)).1,Xap pH];omega⟩
           ·have rT:((st:Int)==(m:Int))=false:=by rw[beq_eq_false_iff_ne];omega
            have HB:=Xa (show an=Xbb H n st by rw[hR.out,hh,decide_eq_false pG];rfl);clear hh pG;go_upto_region 37 with fail;refine XH wr.heap.size 25 (by kernel_rfl) (by kernel_rfl) ?_;simp only[List.take_succ_cons,List.take_zero,List.drop_succ_cons,List.drop_zero]
            repeat (go_big_quiet_step (first|(go_at_call 58;exact qU.out _)|(go_at_call 59;exact KA.out _)))
            refine wpQuiet_nil ?_;intro y;go_upto_region 38 with fail;obtain⟨U,hU,sQ,HU⟩:=hE.out _ HB.out y;rw[<-hU];clear hU;go_wp2_with fail;exact⟨⟨U.heap.size,st,rfl,by omega,(HU.out.count ((st:Int)-1)).1,(HU.out.count ((st:Int)-1)).2.1,(HU.out.count ((st:Int)-1)).2.2⟩,by rw[Xap (HU.out.count ((st:Int)-1)).1,Xap pH];omega⟩
         ·obtain rfl:k=0:=by omega
          have qL:=hJ.out.congr (fh':=ZK s l) (fr':=XbK (ZK s l) l.length) (fg':=Xbb (ZK s l) l.length) (λj _=>by rw[rO.out]) (λj _=>by rw[rO.out,pV.out]) (λj _=>by rw[rO.out,pV.out];simp);have hp:=hJ.out.pc;have pR:=Xa qL;clear qL hJ qT;go_wp2_with fail;go_ret2;obtain⟨e1,e2,e3,e4⟩:=pR.out.lat.base;have hL:=pR.out.lat;rw[HN.out,pV.out] at hL;exact⟨sE.out ⟨_,pR.out.bel⟩,lb,hb,rb,gb,rfl,⟨hL.n,hL.hs,hL.rs,hL.gs,hL.h,hL.r,hL.g,by omega,hL.apart,hL.lt⟩⟩
end Go.Proofs.YtdcahhbipeaggaaGreatDoor
