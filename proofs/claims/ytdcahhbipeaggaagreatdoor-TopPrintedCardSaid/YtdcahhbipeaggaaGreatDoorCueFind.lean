/- Lemmas for TopPrinted: FracMul, FracCmp, GridGiven, GridBorne, GridLoads, OrdLaw, InsLaw, CueFind. -/
import Derived.Test.YtdcahhbipeaggaaGreatDoorFracAdd
import Derived.Deep.Cut
import Derived.Test.YtdcahhbipeaggaaGreatDoorOver
import Derived.Sort.WalkA
set_option maxRecDepth 100000
set_option maxHeartbeats 16000000
namespace Go.Proofs.YtdcahhbipeaggaaGreatDoor
open Go.RowKit
theorem Xqb(N1 N2:Int)(D1 D2:Nat)(hI:0<D1)(hJ:0<D2)(hD:D1*D2<=1152921504606846976)(pL:N1.natAbs<=1152921504606846976)(pM:N2.natAbs<=1152921504606846976)(hN:(N1*N2).natAbs<=1152921504606846976)(w:World):
 Calls Tryz.prog 147 #[frV (fmk N1 D1),frV (fmk N2 D2)] w (Xc w (.tuple #[frV (fmk (N1*N2) (D1*D2)),.int .i64 0])):=by
 have pN:D1<=1152921504606846976:=Nat.le_trans (Nat.le_mul_of_pos_right _ hJ) hD;have pO:D2<=1152921504606846976:=Nat.le_trans (Nat.le_mul_of_pos_left _ hI) hD;obtain⟨⟨an,ad⟩,ha⟩:∃f,f=fmk N1 D1:=⟨_,rfl⟩
 obtain⟨⟨bn,bd⟩,hb⟩:∃f,f=fmk N2 D2:=⟨_,rfl⟩
 obtain⟨sa1,sa2,-,sa4,sa5⟩:=ZC N1 D1 hI;obtain⟨sb1,sb2,-,sb4,sb5⟩:=ZC N2 D2 hJ;rw[<-ha] at sa1 sa2 sa4 sa5;rw[<-hb] at sb1 sb2 sb4 sb5;simp only at sa1 sa2 sa4 sa5 sb1 sb2 sb4 sb5;obtain⟨na,hY⟩:∃na,na=an.natAbs:=⟨_,rfl⟩
 obtain⟨nb,hZ⟩:∃nb,nb=bn.natAbs:=⟨_,rfl⟩
 obtain⟨g,hg⟩:∃g,g=Nat.gcd an.natAbs bd:=⟨_,rfl⟩
 obtain⟨h,hh⟩:∃h,h=Nat.gcd bn.natAbs ad:=⟨_,rfl⟩
 obtain⟨g1,h1,hC⟩:=XuM hI hJ ha hb hg hh;rw[<-ha,<-hb];rw[<-hY] at hg hC sa4;rw[<-hZ] at hh hC sb4;obtain⟨p1,hK⟩:∃q,q=na/g:=⟨_,rfl⟩
 obtain⟨p2,hL⟩:∃q,q=nb/h:=⟨_,rfl⟩
 obtain⟨q1,hM⟩:∃q,q=ad/h:=⟨_,rfl⟩
 obtain⟨q2,hO⟩:∃q,q=bd/g:=⟨_,rfl⟩
 rw[<-hK,<-hL,<-hM,<-hO] at hC;obtain⟨x,hx⟩:∃x,x=p1*p2:=⟨_,rfl⟩
 obtain⟨y,hy⟩:∃y,y=q1*q2:=⟨_,rfl⟩
 rw[<-hx,<-hy] at hC;have pP:x<=(N1*N2).natAbs/\y<=D1*D2:=by
  have:=hC (decide (0<x/\((an<0/\¬bn<0)\/(¬an<0/\bn<0)))) (by rw[decide_eq_true_eq]);exact this.2
 have ep1:(na:Int)/(g:Int)=(p1:Int):=by rw[hK,Int.natCast_ediv]
 have ep2:(nb:Int)/(h:Int)=(p2:Int):=by rw[hL,Int.natCast_ediv]
 have eq1:(ad:Int)/(h:Int)=(q1:Int):=by rw[hM,Int.natCast_ediv]
 have eq2:(bd:Int)/(g:Int)=(q2:Int):=by rw[hO,Int.natCast_ediv]
 have lp1:p1<=na:=by rw[hK];exact Nat.div_le_self _ _
 have lp2:p2<=nb:=by rw[hL];exact Nat.div_le_self _ _
 have lq1:q1<=ad:=by rw[hM];exact Nat.div_le_self _ _
 have lq2:q2<=bd:=by rw[hO];exact Nat.div_le_self _ _
 have qH:¬(g:Int)=0:=by omega
 have qI:¬(h:Int)=0:=by omega
 have wp1:IntKind.u64.wrap (p1:Int)=(p1:Int):=by rw[IntKind.wrap_u64];omega
 have wp2:IntKind.u64.wrap (p2:Int)=(p2:Int):=by rw[IntKind.wrap_u64];omega
 have wq1:IntKind.u64.wrap (q1:Int)=(q1:Int):=by rw[IntKind.wrap_u64];omega
 have wq2:IntKind.u64.wrap (q2:Int)=(q2:Int):=by rw[IntKind.wrap_u64];omega
 have wad:IntKind.u64.wrap (ad:Int)=(ad:Int):=by rw[IntKind.wrap_u64];omega
 have wbd:IntKind.u64.wrap (bd:Int)=(bd:Int):=by rw[IntKind.wrap_u64];omega
 have K1:Xgn an ad:=⟨by omega,by omega,by omega,by omega,sa2⟩
 have K2:Xgn bn bd:=⟨by omega,by omega,by omega,by omega,sb2⟩
 have K3:Xob na bd g:=⟨by omega,by omega,hg⟩
 have K4:Xob nb ad h:=⟨by omega,by omega,hh⟩
 have K5:Xff an na:=⟨⟨by omega,by omega⟩,hY⟩
 have K6:Xff bn nb:=⟨⟨by omega,by omega⟩,hZ⟩
 have K7:XgV p1 p2 x:=⟨by omega,by omega,by omega,hx⟩
 have K8:XgV q1 q2 y:=⟨by omega,by omega,by omega,hy⟩
 obtain⟨⟨f1,f2⟩,hf⟩:∃f,f=fmk (N1*N2) (D1*D2):=⟨_,rfl⟩
 have KS:=Xa (λ(neg:Bool) (pA:neg=true↔0<x/\((an<0/\¬bn<0)\/(¬an<0/\bn<0))) (v:World)=>(show Calls Tryz.prog 193 #[.bool neg,.int .u64 (x:Int),.int .u64 (y:Int)] v (Xc v (.tuple #[.agg #[.int .i64 f1,.int .i64 (f2:Int)],.int .i64 0])) from by
  have:=XeR neg x y (by omega) (by omega) v;rw[(hC neg pA).1,<-hf] at this
  exact this))
 simp only[frV] at*;obtain⟨W,hW,pQ,pD,pE,pF,pG⟩:=XaC w (.cells #[.int .i64 an,.int .i64 (ad:Int)] 110 (0,0)) (.cells #[.int .i64 bn,.int .i64 (bd:Int)] 110 (0,0)) (.cells #[.int .i64 0,.int .i64 0] 110 (0,0));have hP:=λy:Xb W.heap.size W=>And.intro (Xi ((y.below.block w.heap.size (by omega)).trans pE)) (Xi ((y.below.block (w.heap.size+1) (by omega)).trans pF));have hQ:=λy:Xb W.heap.size W=>(y.below.block (w.heap.size+1+1) (by omega)).trans pG;have pR:=λy:Xb W.heap.size W=>Xi (hQ y);have pS:=λ(y:Xb W.heap.size W) (i:Nat)=>Xe (hQ y) i
 have pH:=bdo pD;have pT:=Xa hQ;have pU:=Xa pH;have HW:=Xa hW;have HF:=Xa hf;have hsz:w.heap.size+1+1<W.heap.size:=by omega
 have pB:=hP (Xb.refl _ _);simp only[Xb.refl] at pB;clear hW pQ pD pE pF pG hQ pH hC hx hy hY hZ hK hL hM hO hg hh sa1 sa2 sa4 sa5 sb1 sb2 sb4 sb5 g1 h1 ha hb lp1 lp2 lq1 lq2 hf pP hI hJ hD pL pM hN pN pO;go_enter Tryz.func147,Tryz.ntmps147;go_upto_region 1 with fail;rw[HW.out,show W=(Xb.refl W.heap.size W).val from rfl];go_wp2_with (go_at_call 140;refine(Xc.after nr (Xha (by assumption) _)).mono ?_;rintro e w' ⟨rfl,y1,rfl⟩;have pV:=hP y1)
 refine Xk y1 (by kernel_rfl) (by kernel_rfl) ?_
 repeat (go_big_quiet_step (first
  |(go_at_call 178;exact Xc.after nr (XhT (by assumption) _))
  |(go_at_call 177;exact Xc.after nr (Xpt (by assumption) _))))
 refine wpQuiet_nil ?_;intro y3;have pW:=hP y3;go_wp2_with fail;refine Xco y3 nr 22 8 9 (.cells #[.int .u64 0,.int .u64 0] 272) (by decide) (by kernel_rfl) (by kernel_rfl) ⟨_,rfl,rfl,rfl,λa w=>by kernel_rfl⟩ ⟨_,rfl,rfl,rfl,λa w=>by kernel_rfl⟩ ?_;apply Exists.intro;refine⟨λfl qJ=> ?_,?_,?_,?_⟩
 ·simp only[List.take_succ_cons,List.take_zero]
  repeat (go_big_quiet_step (first
   |(go_at_call 178;exact Xc.afterF nr (XhT (by assumption) _))
   |(go_at_call 192;exact Xc.afterF nr (XlC (by assumption) _))))
  exact wpQuiet_nil rfl
 ·kernel_rfl
 ·rfl
 intro p q z0 hp hq hR pX pY hT hU;have r1:=Xi hT;have r2:=Xe hT;have r3:=Xi hU;have r4:=Xe hU;have pC:¬q=p:=λe=>hR e.symm;simp only[List.drop_succ_cons,List.drop_zero,ZE];go_simp;go_upto_region 5 with fail;obtain⟨V,hV⟩:∃V,V=(((z0.val.setCell ⟨p,0,none⟩ (.int .u64 0)).setCell ⟨p,1,none⟩ (.int .u64 (x:Int))).setCell ⟨q,0,none⟩ (.int .u64 0)).setCell ⟨q,1,none⟩ (.int .u64 (y:Int)):=⟨_,rfl⟩
 have pI:V.heap[p]? =some (.cells #[.int .u64 0,.int .u64 (x:Int)] 272 (0,0)):=by
  rw[hV];exact XU (XU (XR hT) _ _ hR) _ _ hR
 have pJ:V.heap[q]? =some (.cells #[.int .u64 0,.int .u64 (y:Int)] 272 (0,0)):=by
  rw[hV];exact XR (XU (XU hU _ _ pC) _ _ pC)
 have hE:Below W.heap.size W V:=by
  rw[hV];exact(((z0.below.setCell hp _).setCell hp _).setCell hq _).setCell hq _
 rw[<-hV];have pZ:=hP ⟨V,hE⟩;have qA:=And.intro (Xi pI) (Xi pJ);have qB:=λv:Xb V.heap.size V=>(⟨v.val,hE.trans (v.below.mono hE.size)⟩:Xb W.heap.size W)
 have hG:=λv:Xb V.heap.size V=>pR ⟨v.val,hE.trans (v.below.mono hE.size)⟩;have hH:=λv:Xb V.heap.size V=>pS ⟨v.val,hE.trans (v.below.mono hE.size)⟩;simp only at pZ hG hH;have hX:=Xa hE;clear hV hE qB pI pJ r1 r2 r3 r4 hT hU pX pY hp hq hR pC;by_cases pK:0<x
 all_goals
  cases s1:decide (an<0)
  all_goals cases s2:decide (bn<0)
 all_goals
  have qC:=Xa s1;have qD:=Xa s2;have qE:=Xa pK;have hx1:decide ((x:Int)>0)=decide (0<x):=by simp
  simp only[pK,decide_true,decide_false,gt_iff_lt] at hx1;go_wp2_with (go_at_call 193;refine(Xc.first (KS.out _ (by have h1:=qC.out;have h2:=qD.out;have h3:=qE.out;simp only[decide_eq_true_eq,decide_eq_false_iff_not] at h1 h2;first|(simp[h1,h2,h3];done)|(simp[h1,h2,h3];omega)) _)).mono ?_;rintro e w' ⟨rfl,y9,rfl⟩;have qF:=hG y9;have qG:=hH y9)
  have c:=Xi (XR (c:=.int .i64 f1) (d:=.int .i64 (f2:Int)) (pT.out ⟨y9.val,hX.out.trans (y9.below.mono hX.out.size)⟩));refine bodyPost_ret (v:=.tuple #[.agg #[.int .i64 f1,.int .i64 (f2:Int)],.int .i64 0]) (by simp[results,Tryz.results147,go_sem,c.1,c.2]) rfl ⟨by rw[<-HF.out],?_⟩;exact((pU.out ⟨y9.val,hX.out.trans (y9.below.mono hX.out.size)⟩).setCell (by simp;omega) _).setCell (by simp;omega) _
end Go.Proofs.YtdcahhbipeaggaaGreatDoor
namespace Go.Proofs.YtdcahhbipeaggaaGreatDoor
open Go.RowKit
theorem Xu0(n:Int)(d:Nat):fmk (-n) d=(-(fmk n d).1,(fmk n d).2):=by
 simp only[fmk,Int.natAbs_neg];congr 1;exact Int.neg_ediv_of_dvd (Int.ofNat_dvd_left.2 (Nat.gcd_dvd_left _ _))
theorem XuZ(n:Int):fmk n 1=(n,1):=by simp[fmk]
theorem Xu1(n:Nat):fmk 1 n=(1,n):=by simp[fmk]
theorem XiB{N:Int}{D:Nat}(hD:0<D)(hC:D<=1152921504606846976)(hN:N.natAbs<=1152921504606846976):Xgn (fmk N D).1 (fmk N D).2:=by
 obtain⟨h1,h2,-,h4,h5⟩:=ZC N D hD;exact⟨h1,by omega,by omega,by omega,h2⟩
theorem Xuw(N1 N2:Int)(D:Nat)(hD:0<D)(hC:D<=1152921504606846976)(hN:N1.natAbs+N2.natAbs<=1152921504606846976)(w:World):
 Calls Tryz.prog 246 #[frV (fmk N1 D),frV (fmk N2 D)] w (Xc w (.tuple #[frV (fmk (N1-N2) D),.int .i64 0])):=by
 have KA:=Xa (λv:World=>Xmw N1 (-N2) D hD hC (by rw[Int.natAbs_neg];exact hN) v);rw[Xu0,<-Int.sub_eq_add_neg] at KA;have k1:=XiB (N:=N1) hD hC (by omega);have k2:=XiB (N:=N2) hD hC (by omega);obtain⟨⟨an,ad⟩,ha⟩:∃f,f=fmk N1 D:=⟨_,rfl⟩
 obtain⟨⟨bn,bd⟩,hb⟩:∃f,f=fmk N2 D:=⟨_,rfl⟩
 obtain⟨⟨f1,f2⟩,hf⟩:∃f,f=fmk (N1-N2) D:=⟨_,rfl⟩
 rw[<-ha,<-hb,<-hf] at KA;rw[<-ha] at k1;rw[<-hb] at k2;rw[<-ha,<-hb,<-hf];simp only[frV] at*;have hY:IntKind.i64.wrap (-bn)= -bn:=by have:=k2.num1;have:=k2.num2;rw[IntKind.wrap_i64];omega
 obtain⟨W,hW,hO,hH,hI,hJ,hK⟩:=XaC w (.cells #[.int .i64 an,.int .i64 (ad:Int)] 110 (0,0)) (.cells #[.int .i64 bn,.int .i64 (bd:Int)] 110 (0,0)) (.cells #[.int .i64 0,.int .i64 0] 110 (0,0));have hL:=λy:Xb W.heap.size W=>And.intro (Xi ((y.below.block w.heap.size (by omega)).trans hI)) (Xi ((y.below.block (w.heap.size+1) (by omega)).trans hJ));have hE:=λy:Xb W.heap.size W=>(y.below.block (w.heap.size+1+1) (by omega)).trans hK;have hP:=λy:Xb W.heap.size W=>Xi (hE y);have hQ:=λ(y:Xb W.heap.size W) (i:Nat)=>Xe (hE y) i;have hM:=bdo hH
 have hR:=Xa hE;have hT:=Xa hM;have HW:=Xa hW;have hG:=hL (Xb.refl _ _);simp only[Xb.refl] at hG;clear hW hO hH hI hJ hK hE hM ha hb hf hN hD hC;go_enter Tryz.func246,Tryz.ntmps246;go_upto_region 1 with fail;rw[HW.out,show W=(Xb.refl W.heap.size W).val from rfl]
 go_wp2_with (first
  |(go_at_call 140;refine(Xc.after nr (Xha (by assumption) _)).mono ?_;rintro e w' ⟨rfl,y1,rfl⟩;have hU:=hL y1)
  |(go_at_call 188;refine(Xc.after nr (KA.out _)).mono ?_;rintro e w' ⟨rfl,y2,rfl⟩;have hV:=hP y2;have hX:=hQ y2))
 have c:=Xi (XR (c:=.int .i64 f1) (d:=.int .i64 (f2:Int)) (hR.out y2));refine bodyPost_ret (v:=.tuple #[.agg #[.int .i64 f1,.int .i64 (f2:Int)],.int .i64 0]) (by simp[results,Tryz.results246,go_sem,c.1,c.2]) rfl ⟨rfl,?_⟩;exact((hT.out y2).setCell (by simp;omega) _).setCell (by simp;omega) _
theorem Xu7(N1:Int)(D n:Nat)(hD:0<D)(hn:0<n)(hC:D*n<=1152921504606846976)(hN:N1.natAbs<=1152921504606846976)(w:World):
 Calls Tryz.prog 247 #[frV (fmk N1 D),.agg #[.int .i64 (n:Int),.int .i64 1]] w (Xc w (.tuple #[frV (fmk N1 (D*n)),.int .i64 0])):=by
 have hJ:D<=1152921504606846976:=Nat.le_trans (Nat.le_mul_of_pos_right _ hn) hC;have hQ:n<=1152921504606846976:=Nat.le_trans (Nat.le_mul_of_pos_left _ hD) hC;have KA:=Xa (λv:World=>Xqb N1 1 D n hD hn hC hN (by decide) (by rw[Int.mul_one];exact hN) v);rw[Xu1 n,Int.mul_one] at KA;have k1:=XiB (N:=N1) hD hJ hN;have k2:Xgn (n:Int) 1:=⟨by omega,by omega,by omega,by omega,by simp⟩
 obtain⟨⟨an,ad⟩,ha⟩:∃f,f=fmk N1 D:=⟨_,rfl⟩
 obtain⟨⟨f1,f2⟩,hf⟩:∃f,f=fmk N1 (D*n):=⟨_,rfl⟩
 rw[<-ha,<-hf] at KA;rw[<-ha] at k1;rw[<-ha,<-hf];simp only[frV] at*;have pA:((n:Int)==0)=false:=by simp;omega
 have pB:¬(n:Int)<0:=by omega
 have pC:¬(n:Int)=0:=by omega
 obtain⟨W,hW,hR,hK,hL,hM,hO⟩:=XaC w (.cells #[.int .i64 an,.int .i64 (ad:Int)] 110 (0,0)) (.cells #[.int .i64 (n:Int),.int .i64 1] 110 (0,0)) (.cells #[.int .i64 0,.int .i64 0] 110 (0,0));have hG:=λy:Xb W.heap.size W=>And.intro (Xi ((y.below.block w.heap.size (by omega)).trans hL)) (Xi ((y.below.block (w.heap.size+1) (by omega)).trans hM));have hE:=λy:Xb W.heap.size W=>(y.below.block (w.heap.size+1+1) (by omega)).trans hO;have hT:=λy:Xb W.heap.size W=>Xi (hE y);have hU:=λ(y:Xb W.heap.size W) (i:Nat)=>Xe (hE y) i;have hP:=bdo hK
 have hV:=Xa hE;have hX:=Xa hP;have HW:=Xa hW;have hH:=hG (Xb.refl _ _);simp only[Xb.refl] at hH;have k2':Xgn (n:Int) (1:Nat):=k2;clear hW hR hK hL hM hO hE hP ha hf hN hD hC hn hJ hQ;go_enter Tryz.func247,Tryz.ntmps247;go_upto_region 1 with fail;rw[HW.out,show W=(Xb.refl W.heap.size W).val from rfl]
 go_wp2_with (first
  |(go_at_call 140;refine(Xc.after nr (Xha k1 _)).mono ?_;rintro e w' ⟨rfl,y1,rfl⟩;have hI:=hG y1;clear k1)
  |(go_at_call 140;refine(Xc.after nr (Xha k2 _)).mono ?_;rintro e w' ⟨rfl,y1,rfl⟩;have hI:=hG y1)
  |(go_at_call 147;refine(Xc.after nr (KA.out _)).mono ?_;rintro e w' ⟨rfl,y2,rfl⟩;have hY:=hT y2;have hZ:=hU y2))
 have c:=Xi (XR (c:=.int .i64 f1) (d:=.int .i64 (f2:Int)) (hV.out y2));refine bodyPost_ret (v:=.tuple #[.agg #[.int .i64 f1,.int .i64 (f2:Int)],.int .i64 0]) (by simp[results,Tryz.results247,go_sem,c.1,c.2]) rfl ⟨rfl,?_⟩;exact((hX.out y2).setCell (by simp;omega) _).setCell (by simp;omega) _
theorem XtZ(N:Int)(D:Nat)(hD:0<D)(hE:D<=1152921504606846976)(hN:N.natAbs<=1152921504606846976)(w:World):
 Calls Tryz.prog 149 #[frV (fmk N D)] w (Xc w (.tuple #[.int .i64 (-(-(fmk N D).1/((fmk N D).2:Int))),.int .i64 0])):=by
 have k1:=XiB (N:=N) hD hE hN;obtain⟨⟨an,ad⟩,ha⟩:∃f,f=fmk N D:=⟨_,rfl⟩
 rw[<-ha] at k1 ⊢;simp only[frV] at*;have b1:=k1.num1;have b2:=k1.num2;have b3:=k1.den1;have b4:=k1.den2;have hP:IntKind.i64.wrap (-an)= -an:=by rw[IntKind.wrap_i64];omega
 have kf:=λv:World=>XrS (-an) ad (by omega) b4 (by omega) v;obtain⟨q,hq⟩:∃q,q= -an/(ad:Int):=⟨_,rfl⟩
 rw[<-hq] at kf ⊢;have hK:q.natAbs<=an.natAbs:=by
  rw[hq];have:=Int.natAbs_ediv_le_natAbs (-an) (ad:Int)
  rwa [Int.natAbs_neg] at this
 have hQ:IntKind.i64.wrap (-q)= -q:=by rw[IntKind.wrap_i64];omega
 obtain⟨W,hW,hL,hG,hH⟩:=boxed w (.cells #[.int .i64 an,.int .i64 (ad:Int)] 110);have hI:=λy:Xb W.heap.size W=>Xi ((y.below.block w.heap.size (by omega)).trans hH);have hJ:=bdo hG;have hC:=hI (Xb.refl _ _);simp only[Xb.refl] at hC;have hM:=Xa hJ;have HW:=Xa hW;clear hW hL hG hH hJ ha hq hK b1 b2 b3 b4 hN hD hE;go_enter Tryz.func149,Tryz.ntmps149;go_upto_region 1 with fail;rw[<-HW.out,show W=(Xb.refl W.heap.size W).val from rfl]
 go_wp2_with (first
  |(go_at_call 140;refine(Xc.after nr (Xha k1 _)).mono ?_;rintro e w' ⟨rfl,y1,rfl⟩;have hO:=hI y1)
  |(go_at_call 194;refine(Xc.after nr (kf _)).mono ?_;rintro e w' ⟨rfl,y2,rfl⟩))
 go_ret2;exact Xc.mk rfl (hM.out y2)
theorem Xm4(a b:Nat)(ha:a<18446744073709551616)(hb:b<18446744073709551616)(w:World):
 Calls Tryz.prog 192 #[.int .u64 (a:Int),.int .u64 (b:Int)] w (Xc w (Xh7 (a*b/18446744073709551616) (a*b % 18446744073709551616))):=by
 have key:∀v:World,Calls Tryz.prog 157 #[.int .u64 (a:Int),.int .u64 (b:Int)] v (Xc v (.tuple #[.int .u64 ((a*b/18446744073709551616:Nat):Int),.int .u64 ((a*b % 18446744073709551616:Nat):Int)])):=λv=>by
  refine Calls.mono (Tryz.bits_Mul64 a b ha hb v) ?_;rintro e w' ⟨rfl,rfl⟩;exact⟨rfl,Below.refl _ _⟩
 obtain⟨h,hh⟩:∃m,m=a*b/18446744073709551616:=⟨_,rfl⟩
 obtain⟨m,hm⟩:∃m,m=a*b % 18446744073709551616:=⟨_,rfl⟩
 rw[<-hm,<-hh] at key ⊢;obtain⟨W,hW,hH,hD,hE⟩:=boxed w (.cells #[.int .u64 0,.int .u64 0] 272 (0,0));have hC:=λy:Xb W.heap.size W=>(y.below.block _ (by omega:w.heap.size<W.heap.size)).trans hE;have hc:=λy:Xb W.heap.size W=>Xi (hC y);have hK:=λ(y:Xb W.heap.size W) (i:Nat)=>Xe (hC y) i;have hG:=bdo hD;have HW:=Xa hW;have hI:=Xa hG;have hJ:=Xa hC;clear hC hm hh hW hG hD hE hH;go_enter Tryz.func192,Tryz.ntmps192;go_wp2_with fail;rw[<-HW.out];refine(Xc.first (key _)).mono ?_;rintro e w' ⟨rfl,y,rfl⟩;go_wp2_with fail;have c:=Xi (XR (c:=.int .u64 (h:Int)) (d:=.int .u64 (m:Int)) (hJ.out y))
 refine bodyPost_ret (v:=Xh7 h m) (by simp[results,Tryz.results192,go_sem,c.1,c.2,Xh7]) rfl ⟨rfl,?_⟩;exact((hI.out y).setCell nr _).setCell nr _
structure XpR(a b h l:Nat):Prop where
 left:a<18446744073709551616
 right:b<18446744073709551616
 hi:h=a*b/18446744073709551616
 lo:l=a*b % 18446744073709551616
theorem Xun{a b h l:Nat}(k:XpR a b h l)(v:World):Calls Tryz.prog 192 #[.int .u64 (a:Int),.int .u64 (b:Int)] v (Xc v (.agg #[.int .u64 (h:Int),.int .u64 (l:Int)])):=by
 have:=Xm4 a b k.left k.right v;rw[<-k.hi,<-k.lo] at this;exact this
def XhN(m n:Nat):Int:=if decide (m<n) then-1 else if decide (n<m) then 1 else 0
theorem Xve(N1 N2:Nat)(D1 D2:Nat)(hK:0<D1)(hL:0<D2)(pB:D1<=1152921504606846976)(pC:D2<=1152921504606846976)(pO:N1<=1152921504606846976)(pP:N2<=1152921504606846976)(w:World):
 Calls Tryz.prog 191 #[frV (fmk N1 D1),frV (fmk N2 D2)] w (Xc w (.tuple #[.int .i64 (XhN (N1*D2) (N2*D1)),.int .i64 0])):=by
 have k1:=XiB (N:=(N1:Int)) hK pB (by omega);have k2:=XiB (N:=(N2:Int)) hL pC (by omega);obtain⟨sa1,-,sa3,-,-⟩:=ZC (N1:Int) D1 hK;obtain⟨sb1,-,sb3,-,-⟩:=ZC (N2:Int) D2 hL;obtain⟨⟨an,ad⟩,ha⟩:∃f,f=fmk (N1:Int) D1:=⟨_,rfl⟩
 obtain⟨⟨bn,bd⟩,hb⟩:∃f,f=fmk (N2:Int) D2:=⟨_,rfl⟩
 have pQ:0<=an:=by
  have:=congrArg Prod.fst ha;simp only[fmk] at this;rw[this];exact Int.ediv_nonneg (by omega) (by omega)
 have pR:0<=bn:=by
  have:=congrArg Prod.fst hb;simp only[fmk] at this;rw[this];exact Int.ediv_nonneg (by omega) (by omega)
 rw[<-ha] at k1 sa1 sa3 ⊢;rw[<-hb] at k2 sb1 sb3 ⊢;simp only[frV] at*;obtain⟨na,rfl⟩:∃na:Nat,an=(na:Int):=⟨an.toNat,by omega⟩
 obtain⟨nb,rfl⟩:∃nb:Nat,bn=(nb:Int):=⟨bn.toNat,by omega⟩
 have ea:na*D1=N1*ad:=by exact_mod_cast sa3
 have eb:nb*D2=N2*bd:=by exact_mod_cast sb3
 have hH:0<D1*D2:=Nat.mul_pos hK hL;have hC:0<ad*bd:=Nat.mul_pos sa1 sb1;have hG:∀(p1 p2 q1 q2:Nat),p1*(D1*D2)=q1*(ad*bd)->p2*(D1*D2)=q2*(ad*bd)->(decide (p1<p2)=decide (q1<q2)):=λp1 p2 q1 q2 h1 h2=>by
  rw[Bool.eq_iff_iff,decide_eq_true_eq,decide_eq_true_eq,<-Nat.mul_lt_mul_right hH,h1,h2,Nat.mul_lt_mul_right hC]
 have hx:na*bd*(D1*D2)=N1*D2*(ad*bd):=by
  calc na*bd*(D1*D2)=(na*D1)*(bd*D2):=by ac_rfl
   _=(N1*ad)*(bd*D2):=by rw[ea]
   _=_:=by ac_rfl
 have hy:nb*ad*(D1*D2)=N2*D1*(ad*bd):=by
  calc nb*ad*(D1*D2)=(nb*D2)*(ad*D1):=by ac_rfl
   _=(N2*bd)*(ad*D1):=by rw[eb]
   _=_:=by ac_rfl
 have hD:XhN (N1*D2) (N2*D1)=XhN (na*bd) (nb*ad):=by
  unfold XhN;rw[hG _ _ _ _ hx hy,hG _ _ _ _ hy hx]
 rw[hD];have b1:=k1.num2;have b2:=k2.num2;have b3:=k1.den2;have b4:=k2.den2;obtain⟨h1,e1⟩:∃h,h=na*bd/18446744073709551616:=⟨_,rfl⟩
 obtain⟨l1,e2⟩:∃h,h=na*bd % 18446744073709551616:=⟨_,rfl⟩
 obtain⟨h2,e3⟩:∃h,h=nb*ad/18446744073709551616:=⟨_,rfl⟩
 obtain⟨l2,e4⟩:∃h,h=nb*ad % 18446744073709551616:=⟨_,rfl⟩
 have K3:XpR na bd h1 l1:=⟨by omega,by omega,e1,e2⟩
 have K4:XpR nb ad h2 l2:=⟨by omega,by omega,e3,e4⟩
 have K5:Xff (na:Int) na:=⟨⟨by omega,by omega⟩,by simp⟩
 have K6:Xff (nb:Int) nb:=⟨⟨by omega,by omega⟩,by simp⟩
 have kl1:=λv:World=>XiO h1 l1 h2 l2 v;have kl2:=λv:World=>XiO h2 l2 h1 l1 v;rw[e1,e2,e3,e4,XkQ,<-e1,<-e2,<-e3,<-e4] at kl1;rw[e1,e2,e3,e4,XkQ,<-e1,<-e2,<-e3,<-e4] at kl2;have wad:IntKind.u64.wrap (ad:Int)=(ad:Int):=by rw[IntKind.wrap_u64];omega
 have wbd:IntKind.u64.wrap (bd:Int)=(bd:Int):=by rw[IntKind.wrap_u64];omega
 have n1:decide ((na:Int)<0)=false:=by simp
 have n2:decide ((nb:Int)<0)=false:=by simp
 have n3:¬(na:Int)<0:=by omega
 have n4:¬(nb:Int)<0:=by omega
 obtain⟨x,pD⟩:∃x,x=na*bd:=⟨_,rfl⟩
 obtain⟨y,pE⟩:∃y,y=nb*ad:=⟨_,rfl⟩
 rw[<-pD,<-pE] at kl1 kl2 ⊢;obtain⟨W1,pF,pG,pH,pI⟩:=boxed w (.cells #[.int .i64 (na:Int),.int .i64 (ad:Int)] 110);obtain⟨W,pJ,pS,hP,hQ⟩:=boxed W1 (.cells #[.int .i64 (nb:Int),.int .i64 (bd:Int)] 110);have hb:Below w.heap.size w W:=pH.trans (hP.mono (by omega));have hI:=(hP.block _ (by omega)).trans pI;rw[pG] at hQ;have hR:=λy:Xb W.heap.size W=>And.intro (Xi ((y.below.block w.heap.size (by omega)).trans hI)) (Xi ((y.below.block (w.heap.size+1) (by omega)).trans hQ));have pK:=bdo hb;have pT:=Xa pK;have HW:=Xa (show(w.alloc (.cells #[.int .i64 (na:Int),.int .i64 (ad:Int)] 110)).alloc (.cells #[.int .i64 (nb:Int),.int .i64 (bd:Int)] 110)=W by rw[<-pF,<-pJ])
 have hT:=hR (Xb.refl _ _);simp only[Xb.refl] at hT;clear pF pJ pG pS pH hP pI hQ hI hb pK hD hx hy hG hH hC ea eb pD pE e1 e2 e3 e4 b1 b2 b3 b4 sa1 sa3 sb1 sb3 pQ pR hK hL pB pC pO pP ha;go_enter Tryz.func191,Tryz.ntmps191;go_upto_region 1 with fail;rw[HW.out,show W=(Xb.refl W.heap.size W).val from rfl];go_wp2_with (go_at_call 140;refine(Xc.after nr (Xha (by assumption) _)).mono ?_;rintro e w' ⟨rfl,y1,rfl⟩;have pU:=hR y1)
 refine Xco y1 nr 14 6 7 (.cells #[.int .u64 0,.int .u64 0] 272) (by decide) (by kernel_rfl) (by kernel_rfl) ⟨_,rfl,rfl,rfl,λa w=>by kernel_rfl⟩ ⟨_,rfl,rfl,rfl,λa w=>by kernel_rfl⟩ ?_;apply Exists.intro;refine⟨λfl pX=> ?_,?_,?_,?_⟩
 ·simp only[List.take_succ_cons,List.take_zero]
  repeat (go_big_quiet_step (first
   |(go_at_call 178;exact Xc.afterF nr (XhT (by assumption) _))
   |(go_at_call 192;exact Xc.afterF nr (Xun (by assumption) _))))
  exact wpQuiet_nil rfl
 ·kernel_rfl
 ·rfl
 intro p q z0 hp hq hU pV pW hM hN;have r1:=Xi hM;have r2:=Xe hM;have r3:=Xi hN;have r4:=Xe hN;have pL:¬q=p:=λe=>hU e.symm;simp only[List.drop_succ_cons,List.drop_zero,ZE];go_simp;go_upto_block 0 with fail;obtain⟨V,hV⟩:∃V,V=(((z0.val.setCell ⟨p,0,none⟩ (.int .u64 (h1:Int))).setCell ⟨p,1,none⟩ (.int .u64 (l1:Int))).setCell ⟨q,0,none⟩ (.int .u64 (h2:Int))).setCell ⟨q,1,none⟩ (.int .u64 (l2:Int)):=⟨_,rfl⟩
 have hW:V.heap[p]? =some (.cells #[.int .u64 (h1:Int),.int .u64 (l1:Int)] 272 (0,0)):=by
  rw[hV];exact XU (XU (XR hM) _ _ hU) _ _ hU
 have hX:V.heap[q]? =some (.cells #[.int .u64 (h2:Int),.int .u64 (l2:Int)] 272 (0,0)):=by
  rw[hV];exact XR (XU (XU hN _ _ pL) _ _ pL)
 have hJ:Below W.heap.size W V:=by
  rw[hV];exact(((z0.below.setCell hp _).setCell hp _).setCell hq _).setCell hq _
 rw[<-hV];have pM:=(agS hW).1;have pN:=(agS hX).1;have hO:=λv:Xb V.heap.size V=>And.intro (hR ⟨v.val,hJ.trans (v.below.mono hJ.size)⟩) (And.intro (Xi ((v.below.block p pM).trans hW)) (Xi ((v.below.block q pN).trans hX)));simp only at hO;have hY:=hO (Xb.refl _ _);simp only[Xb.refl] at hY;have hZ:=Xa (show ∀v:Xb V.heap.size V,Below w.heap.size w v.val from λv=>pT.out ⟨v.val,hJ.trans (v.below.mono hJ.size)⟩);clear hV hJ hW hX r1 r2 r3 r4 hM hN pV pW hp hq pM pN;by_cases c1:x<y
 ·rw[decide_eq_true c1] at kl1;have hE:=Xa (show XhN x y= -1 by simp[XhN,c1]);go_wp2_with (go_at_call 216;refine(Xc.first (kl1 _)).mono ?_;rintro e w' ⟨rfl,v1,rfl⟩)
  go_ret2;exact Xc.mk (by rw[hE.out];rfl) (hZ.out v1)
 rw[decide_eq_false c1] at kl1;by_cases c2:y<x
 ·rw[decide_eq_true c2] at kl2;have hE:=Xa (show XhN x y=1 by simp[XhN,c1,c2])
  go_wp2_with (first
   |(go_at_call 216;refine(Xc.first (kl1 _)).mono ?_;rintro e w' ⟨rfl,v1,rfl⟩;have pA:=hO v1;clear kl1)
   |(go_at_call 216;refine(Xc.after nr (kl2 _)).mono ?_;rintro e w' ⟨rfl,v2,rfl⟩))
  go_ret2;exact Xc.mk (by rw[hE.out];rfl) (hZ.out v2)
 ·rw[decide_eq_false c2] at kl2;have hE:=Xa (show XhN x y=0 by simp[XhN,c1,c2])
  go_wp2_with (first
   |(go_at_call 216;refine(Xc.first (kl1 _)).mono ?_;rintro e w' ⟨rfl,v1,rfl⟩;have pA:=hO v1;clear kl1)
   |(go_at_call 216;refine(Xc.after nr (kl2 _)).mono ?_;rintro e w' ⟨rfl,v2,rfl⟩))
  go_ret2;exact Xc.mk (by rw[hE.out];rfl) (hZ.out v2)
end Go.Proofs.YtdcahhbipeaggaaGreatDoor
namespace Go.Proofs.YtdcahhbipeaggaaGreatDoor
open Go.RowKit
def ZA(x:Int×Int):List Value:=[.int .i64 x.1,.int .i64 x.2]
def XhR(x:Int×Int):Value:=.agg #[.int .i64 x.1,.int .i64 x.2]
def YS(x:Int×Int):Bool:=Xg x.1 0 1048576&&Xg x.2 0 67108864
theorem XiM{W:World}{B b off:Nat}{l:List (Int×Int)}{k:Nat}{s:Int×Int}(hs:l[k]? =some s)(hb:b<B)(hc:∀i x,l[i]? =some x->∀j u,(ZA x)[j]? =some u->W.cell? ⟨b,off+(i*2+j),none⟩=some u)(x:Xb B W):
 x.val.cell? ⟨b,off+k*2,none⟩=some (.int .i64 s.1)/\x.val.cell? ⟨b,off+k*2+1,none⟩=some (.int .i64 s.2):=by
 have h:∀j u,(ZA s)[j]? =some u->x.val.cell? ⟨b,off+k*2+j,none⟩=some u:=λj u hu=>by rw[Nat.add_assoc];exact x.cell (hc k s hs j u hu) hb
 exact⟨h 0 _ rfl,h 1 _ rfl⟩
theorem XjQ(A:Option Addr)(cap:Nat)(l:List (Int×Int))(p:(Int×Int)->Bool)(g:Nat)(lb:Array Value)(eg:∀args w,(callFunc g args).run Tryz.prog w=.ok (.enter g args) w)(W:World)(B:Nat)(hB:B<=W.heap.size)(hs:XA W B 2 ZA ⟨A,cap,l⟩)
 (hp:Zn Tryz.prog g lb XhR p W.heap.size W l):
 Calls Tryz.prog 213 #[.slice A l.length cap,.func (.func g) #[] lb] W (Xc W (.int .i64 (idx p l))):=by
 have HS:=Xa hs;have HP:=Xa hp;have hm:cap<=9223372036854775807:=hs.2.1;have hH:l.length<=cap:=hs.1;clear hs hp;go_enter Tryz.func213,Tryz.ntmps213;go_wp2;go_loopw [8] (λv wr=>∃k:Nat,v=.int .i64 k/\k<=l.length/\Hid (∀j y,j<k->l[j]? =some y->p y=false)/\∃x:Xb W.heap.size W,wr=x.val) (λv _=>l.length-(intOf v).toNat)
 case atStart=>exact⟨0,rfl,Nat.zero_le _,λj y hj=>absurd hj (by omega),Xb.refl _ _,rfl⟩
 case round=>
  obtain⟨k,rfl,hk,hD,x,rfl⟩:=hrel;by_cases hE:k<l.length
  ·obtain⟨b,off,hA,hb,hC⟩:=HS.out.2.2 (show 0<l.length by omega);simp only at hA;subst hA;have hx:l[k]? =some l[k]:=lgE hE;have he:=λx:Xb W.heap.size W=>XiM hx (show b<W.heap.size by omega) hC x;have HC:=Xa hC;have HX:=Xa hx;clear hC hx;cases hG:p l[k]
   ·go_wp2_with fail;refine(Xc.after nr (HP.out x l[k] (List.getElem_mem hE))).mono ?_;rintro e w' ⟨rfl,x,rfl⟩;go_wp2;exact⟨⟨k+1,by go_num,by omega,Qw hD.out HX.out hG,_,rfl⟩,by simp[intOf];omega⟩
   ·go_wp2_with fail;refine(Xc.after nr (HP.out x l[k] (List.getElem_mem hE))).mono ?_;rintro e w' ⟨rfl,x,rfl⟩;go_wp2;go_ret;exact Xc.mk (congrArg (Value.int IntKind.i64) (QU HX.out hG hD.out).symm) x.below
  ·go_wp2;go_ret;exact Xc.mk (congrArg (Value.int IntKind.i64) (JF λj y hj hy=>hD.out j y (by omega) hy).symm) x.below
theorem XgP(A:Option Addr)(cap:Nat)(l:List (Int×Int))(p:(Int×Int)->Bool)(g:Nat)(lb:Array Value)(eg:∀args w,(callFunc g args).run Tryz.prog w=.ok (.enter g args) w)(W:World)(B:Nat)(hB:B<=W.heap.size)(hs:XA W B 2 ZA ⟨A,cap,l⟩)
 (hp:Zn Tryz.prog g lb XhR p W.heap.size W l):
 Calls Tryz.prog 181 #[.slice A l.length cap,.func (.func g) #[] lb] W (Xc W (.bool (l.any p))):=by
 have HS:=Xa hs;have HP:=Xa hp;clear hs hp;go_enter Tryz.func181,Tryz.ntmps181;go_wp2_with fail;refine(Xc.first (XjQ _ _ l p g lb eg W B hB HS.out HP.out)).mono ?_;rintro e w' ⟨rfl,x,rfl⟩;go_wp2;go_ret;exact Xc.mk (congrArg Value.bool (Zh p l)) x.below
theorem Xj5:∀args w,(callFunc 182 args).run Tryz.prog w=.ok (.enter 182 args) w:=XZ Tryz.func182 (by kernel_rfl) rfl
theorem XnE(x:Int×Int)(h:YS x=true)(w:World):Calls Tryz.prog 182 #[XhR x] w (Xc w (.bool false)):=by
 obtain⟨a,b⟩:=x;simp only[YS,bae] at h;obtain⟨h1,h2⟩:=h;have KW:=Xa (show ∀v,Calls Tryz.prog 111 #[.int .i64 a] v (Xc v (.bool true)) from λv=>h1▸XeM a v);simp only[Xg,bae,decide_eq_true_eq] at h2;have h3:decide (b<0)=false:=by simp;omega
 have h4:decide (67108864<b)=false:=by simp;omega
 unfold XhR;obtain⟨W,hW,hG,hD,hC⟩:=boxed w (.cells #[.int .i64 a,.int .i64 b] 185);have hc:∀y:Xb W.heap.size W,y.val.cell? ⟨w.heap.size,0,none⟩=some (.int .i64 a)/\y.val.cell? ⟨w.heap.size,1,none⟩=some (.int .i64 b):=λy=>⟨y.cells hC (by omega) 0 _ rfl,y.cells hC (by omega) 1 _ rfl⟩
 have hE:=hc (Xb.refl _ _);simp only[Xb.refl] at hE;go_enter Tryz.func182,Tryz.ntmps182;subst hW;go_wp2_with (go_at_call 111;refine(Xc.first (KW.out _)).mono ?_;rintro e w' ⟨rfl,y,rfl⟩;have hH:=hc y)
 go_ret;exact Xc.mk rfl (hD.trans (y.below.mono (by omega)))
theorem Xps(A AL:Option Addr)(cap capL:Nat)(rl:List Xt)(L:List (Int×Int))(hD:∀r∈rl,r.ok)(hv:Y6 rl=true)(hL:L.length<=1000)(hf:∀x∈L,YS x=true)(w:World)(hs:XA w w.heap.size 4 Xt.cells ⟨A,cap,rl⟩)(hC:XA w w.heap.size 2 ZA ⟨AL,capL,L⟩):
 Calls Tryz.prog 144 #[.slice A rl.length cap,.slice AL L.length capL] w (Xc w (.int .i64 0)):=by
 have K1:=Xa (hv▸Xc.first (Xez A cap rl hD w _ nr hs));have K2:=Xa (λx:Xb w.heap.size w=>Xc.after (x:=x) nr (XgP AL capL L (λ_=>false) 182 #[] Xj5 x.val w.heap.size x.size (hC.below x.below) (λz e he=>by simpa using XnE e (hf e he) z.val)));simp only[show(L.any λ_=>false)=false by simp] at K2;have h1:decide ((1000:Int)<(L.length:Int))=false:=by simp;omega
 clear hs hC hf;go_enter Tryz.func144,Tryz.ntmps144
 go_wp2_with (first
  |(go_at_call 62;refine K1.out.mono ?_;rintro e w' ⟨rfl,x,rfl⟩)
  |(go_at_call 181;refine(K2.out _).mono ?_;rintro e w' ⟨rfl,y,rfl⟩))
 go_ret;exact Xc.mk rfl y.below
end Go.Proofs.YtdcahhbipeaggaaGreatDoor
namespace Go.Proofs.YtdcahhbipeaggaaGreatDoor
open Go.RowKit Go.Shelf
attribute [local go_sem] Oper.semAt_some
def D0:Nat:=232792560
def Xc7(rl:List Xt)(d:Int):Nat:=(Y1 rl d rl.length).length
def Xdg(rl:List Xt)(x:Int×Int):Int:=x.2*((D0/Xc7 rl x.1:Nat):Int)
def Z7(rl:List Xt)(L:List (Int×Int))(k:Nat):Int:=(L.map λx=>((Y1 rl x.1 rl.length).count k:Int)*Xdg rl x).sum
theorem Xg9(l:List Xt)(d:Int)(j:Nat):∀k,(Y1 l d k).count j<=1/\(k<=j->(Y1 l d k).count j=0)
 |0=>⟨by simp[Y1],λ_=>by simp[Y1]⟩
 |k+1=>by
  obtain⟨h1,h2⟩:=Xg9 l d j k;have e:(Y1 l d (k+1)).count j=(Y1 l d k).count j+(match l[k]? with|some r=>if Xen r d=true then [k] else []|none=>[]:List Nat).count j:=List.count_append;have e2:(match l[k]? with|some r=>if Xen r d=true then [k] else []|none=>[]:List Nat).count j<=if k=j then 1 else 0:=by
   split
   ·split
    ·rw[List.count_singleton];simp
    ·simp
   ·simp
  rw[e];by_cases hC:k=j
  ·rw[if_pos hC] at e2;have:=h2 (by omega);exact⟨by omega,λ_=>by omega⟩
  ·rw[if_neg hC] at e2;exact⟨by omega,λ_=>by have:=h2 (by omega);omega⟩
theorem Xkp(rl:List Xt)(x:Int×Int)(h:YS x=true):(Xdg rl x).natAbs<=67108864*232792560:=by
 simp only[YS,Xg,bae,decide_eq_true_eq] at h;unfold Xdg;rw[Int.natAbs_mul];refine Nat.mul_le_mul (by omega) ?_;rw[Int.natAbs_natCast];exact Nat.div_le_self _ _
theorem XgS(rl:List Xt)(k:Nat):∀L:List (Int×Int),(∀x∈L,YS x=true)->(Z7 rl L k).natAbs<=L.length*(67108864*232792560)
 |[],_=>by simp[Z7]
 |x::L,h=>by
  have ih:=XgS rl k L λy hy=>h y (List.mem_cons_of_mem _ hy);have h1:=Xkp rl x (h x List.mem_cons_self);have h2:=(Xg9 rl x.1 k rl.length).1;have e:Z7 rl (x::L) k=((Y1 rl x.1 rl.length).count k:Int)*Xdg rl x+Z7 rl L k:=by simp[Z7]
  rw[e,List.length_cons,Nat.succ_mul];have h3:(((Y1 rl x.1 rl.length).count k:Int)*Xdg rl x).natAbs<=67108864*232792560:=by
   rw[Int.natAbs_mul,Int.natAbs_natCast];exact Nat.le_trans (Nat.mul_le_mul h2 nr) (by omega)
  omega
theorem XpK(rl:List Xt)(L:List (Int×Int))(x:Int×Int)(k:Nat):Z7 rl (L++[x]) k=Z7 rl L k+((Y1 rl x.1 rl.length).count k:Int)*Xdg rl x:=by simp[Z7]
theorem XqO(rl:List Xt)(x:Int×Int)(h0:0<Xc7 rl x.1)(h1:rl.length<=20):fmk x.2 (Xc7 rl x.1)=fmk (Xdg rl x) D0:=by
 have h2:Xc7 rl x.1<=20:=Nat.le_trans (Xd4 rl x.1 rl.length) h1;have key:∀c,c<=20->0<c->c*(D0/c)=D0/\0<D0/c:=by decide
 obtain⟨k1,k2⟩:=key _ h2 h0;have:=XaR x.2 (Xc7 rl x.1) (D0/Xc7 rl x.1) h0 k2;rw[k1] at this;exact this.symm
def Jm(W:World)(g n:Nat)(f:Nat->Int):Prop:=∃cur:Array Value,W.heap[g]? =some (.cells cur 110 (0,0))/\cur.size=n*2/\∀k,k<n->cur[k*2]? =some (.int .i64 (fmk (f k) D0).1)/\cur[k*2+1]? =some (.int .i64 ((fmk (f k) D0).2:Int))
theorem Xc8.nought{W:World}{g n:Nat}(h:Xc8 W g n n):Jm W g n (λ_=>0):=by
 obtain⟨cur,h1,h2,h3⟩:=h;refine⟨cur,h1,h2,λk hk=>⟨?_,?_⟩⟩
 ·rw[h3 (k*2) (by omega)];unfold fz;rw[if_pos (by omega)];exact congrArg (λv=>some (Value.int .i64 v)) (show(0:Int)=(fmk 0 D0).1 by decide)
 ·rw[h3 (k*2+1) (by omega)];unfold fz;rw[if_neg (by omega)];exact congrArg (λv=>some (Value.int .i64 v)) (show(1:Int)=((fmk 0 D0).2:Int) by decide)
theorem Jm.cells{W:World}{g n:Nat}{f:Nat->Int}(h:Jm W g n f){k:Nat}(hk:k<n):W.cell? ⟨g,k*2,none⟩=some (.int .i64 (fmk (f k) D0).1)/\W.cell? ⟨g,k*2+1,none⟩=some (.int .i64 ((fmk (f k) D0).2:Int)):=by
 obtain⟨cur,h1,h2,h3⟩:=h;rw[Lib.cell_of_heap h1,Lib.cell_of_heap h1];exact h3 k hk
theorem Jm.unfrozen{W:World}{g n:Nat}{f:Nat->Int}(h:Jm W g n f)(j:Nat):W.frozen? ⟨g,j,none⟩=false:=by
 obtain⟨cur,h1,-⟩:=h;exact Xe h1 j
theorem Jm.keep{W W':World}{g n:Nat}{f:Nat->Int}(h:Jm W g n f)(hk:W'.heap[g]? =W.heap[g]?):Jm W' g n f:=by
 obtain⟨cur,h1,h2⟩:=h;exact⟨cur,hk.trans h1,h2⟩
theorem Jm.congr{W:World}{g n:Nat}{f f':Nat->Int}(h:Jm W g n f)(hf:∀k,k<n->f' k=f k):Jm W g n f':=by
 obtain⟨cur,h1,h2,h3⟩:=h;exact⟨cur,h1,h2,λk hk=>by rw[hf k hk];exact h3 k hk⟩
theorem Jm.set{W:World}{g n:Nat}{f:Nat->Int}(h:Jm W g n f){k:Nat}(hk:k<n)(v:Int):Jm ((W.setCell ⟨g,k*2,none⟩ (.int .i64 (fmk v D0).1)).setCell ⟨g,k*2+1,none⟩ (.int .i64 ((fmk v D0).2:Int))) g n (λj=>if j=k then v else f j):=by
 obtain⟨cur,h1,h2,h3⟩:=h;refine⟨_,Xx (Xx h1 _) _,by simpa using h2,λj hj=> ?_⟩;obtain⟨a,b⟩:=h3 j hj;by_cases hC:j=k
 ·subst hC;simp[Array.getElem?_setIfInBounds,h2];omega
 ·simp only[if_neg hC];rw[Array.getElem?_setIfInBounds,Array.getElem?_setIfInBounds,Array.getElem?_setIfInBounds,Array.getElem?_setIfInBounds,if_neg (by omega),if_neg (by omega),if_neg (by omega),if_neg (by omega)];exact⟨a,b⟩
def Xs2(D:Nat):Deferred:={target:=.collected D,args:=#[]}
theorem XfM{F:Fence}{n:Nat}{fn:Func}{tmps:Array Value}{R:Ending->World->Prop}{B:Nat}:∀(Ds:List Nat) (w:World),Ds.Nodup->(∀D∈Ds,B<=D/\w.heap[D]? =some (.deferred (some [])))->
 (∀w',Below B w w'->(∀k,k∉Ds->w'.heap[k]? =w.heap[k]?)->LeavesIn F n Tryz.prog fn tmps R [] .returning w')->LeavesInM F n Tryz.prog fn tmps R (Ds.map Xs2) .returning w
 |[],w,_,_,h=>h w brf λ_ _=>rfl
 |D::Ds,w,hn,hd,h=>by
  obtain⟨h1,h2⟩:=hd D List.mem_cons_self;refine⟨by simp,.inl ⟨D,_,rfl,run_takeDeferred h2,?_⟩⟩;have hC:=List.nodup_cons.1 hn;have hb:Below B w (w.putObj D (.deferred none)):=belowK_b (n₀:=B) (w:={w with heap:=(List.replicate B default).toArray}) (by simp) w D _ _ (by simpa using h1) h2 rfl rfl;refine XfM Ds _ hC.2 (λE hE=>⟨(hd E (List.mem_cons_of_mem _ hE)).1,(World.putObj_heap_other (λe=>hC.1 (by rw[<-e];exact hE))).trans (hd E (List.mem_cons_of_mem _ hE)).2⟩) λw' hG hk=>h w' (hb.trans hG) λk hD=>(hk k λe=>hD (List.mem_cons_of_mem _ e)).trans (World.putObj_heap_other (λe=>hD (by rw[e];exact List.mem_cons_self)))
theorem Xrd(n:Int)(w:World):Calls Tryz.prog 184 #[.int .i64 n] w (Xc w (.agg #[.int .i64 n,.int .i64 1])):=by
 go_enter Tryz.func184,Tryz.ntmps184;go_wp2;refine bodyPost_ret (v:=.agg #[.int .i64 n,.int .i64 1]) (by simp[results,Tryz.results184,go_sem]) rfl (Xc.mk rfl ?_);exact brf.alloc nr _
theorem YH{W:World}{g:Nat}{v:Value}{t:TypeId}{fr:Nat×Nat}(h:W.heap[g]? =some (.cells #[v] t fr)):W.cell? ⟨g,0,none⟩=some v:=by
 rw[Lib.cell_of_heap h];rfl
def XsI(n:Nat)(fn:Func)(R:Ending->World->Prop):Exit->Act->World->Prop
 |.normal,a,w|.ret,a,w=>LeavesInM Fence.wide n Tryz.prog fn a.tmps R a.defers .returning w
 |_,_,_=>False
theorem XmZ{n:Nat}{fn:Func}{R:Ending->World->Prop}:∀e a w,XsI n fn R e a w->bodyPostM Fence.wide n Tryz.prog fn R e a w
 |.normal,_,_,h|.ret,_,_,h=>h
 |.panic _,_,_,h|.outgrown,_,_,h|.exit _,_,_,h|.goto _,_,_,h=>h.elim
structure Xuh(w:World)(g b6 n:Nat)(f:Nat->Int)(V:World):Prop where
 bel:Below w.heap.size w V
 h4:V.heap[w.heap.size]? =some (.cells #[.slice none 0 0] 106 (0,0))
 h5:V.heap[w.heap.size+1]? =some (.cells #[.int .i64 0] 35 (0,0))
 h6:V.heap[b6]? =some (.cells #[.slice (some ⟨g,0,none⟩) n n] 106 (0,0))
 row:Jm V g n f
 gw:w.heap.size+1<g
 gb:g<b6
 bV:b6<V.heap.size
theorem Xuh.more{w V V':World}{g b6 n:Nat}{f:Nat->Int}(h:Xuh w g b6 n f V)(hb:Below V.heap.size V V'):Xuh w g b6 n f V':=by
 have h1:=h.gw;have h2:=h.gb;have h3:=h.bV;exact⟨h.bel.trans (hb.mono h.bel.size),(hb.block _ (by omega)).trans h.h4,(hb.block _ (by omega)).trans h.h5,(hb.block _ (by omega)).trans h.h6,h.row.keep (hb.block _ (by omega)),h1,h2,Nat.lt_of_lt_of_le h3 hb.size⟩
structure Xui(w:World)(g b6:Nat)(rl:List Xt)(L:List (Int×Int))(k:Nat)(Ds:List Nat)(V:World):Prop where
 kl:k<=L.length
 nd:Ds.Nodup
 ms:∀D∈Ds,w.heap.size<=D/\V.heap[D]? =some (.deferred (some []))
 st:Xuh w g b6 rl.length (Z7 rl (L.take k)) V
structure Xuj(w O:World)(g q m:Nat)(f:Nat->Int)(S:Int)(pre:List (Fin m))(W:World):Prop where
 keep:Yt O.heap.size (λb=>b==g||b==q) O W
 bel:Below w.heap.size w W
 row:Jm W g m (λj=>f j+(((pre.map Fin.val).count j:Nat):Int)*S)
 err:W.heap[q]? =some (.cells #[.int .i64 0] 35 (0,0))
theorem Xuj.own{w O:World}{g q m:Nat}{f:Nat->Int}{S:Int}(hO:w.heap.size<=O.heap.size):OwnFrom O.heap.size (Xuj w O g q m f S):=λs W W' row h hg hr=>by
 have hC:∀(k:Nat) (cur:Array Value) (t:TypeId) (fr:Nat×Nat),W.heap[k]? =some (.cells cur t fr)->W'.heap[k]? =some (.cells cur t fr):=λk cur t fr hk=>by
  refine(hg.block k (agS hk).1 λe=> ?_).trans hk;obtain⟨-,o,ho,hc⟩:=hr k e.symm;rw[hk] at ho;cases ho
  cases hc
 refine⟨⟨Nat.le_trans h.keep.1 hg.size,λk hk hD=>(hg.block k (Nat.lt_of_lt_of_le hk h.keep.1) λe=> ?_).trans (h.keep.2 k hk hD)⟩,ownFrom_below (β:=Unit) nr hO () W W' row h.bel hg hr,?_,hC _ _ _ _ h.err⟩
 ·have:=(hr k e.symm).1;omega
 ·obtain⟨cur,h1,h2⟩:=h.row;exact⟨cur,hC _ _ _ _ h1,h2⟩
def Jn(rl:List Xt)(L:List (Int×Int))(w:World)(e:Ending)(w':World):Prop:=
 Below w.heap.size w w'/\if (∀x∈L,0<Xc7 rl x.1) then ∃g,w.heap.size<=g/\e=.returned (.tuple #[.slice (some ⟨g,0,none⟩) rl.length rl.length,.int .i64 0])/\Jm w' g rl.length (Z7 rl L)
  else e=.returned (.tuple #[.slice none 0 0,.int .i64 12])
theorem Xsg(A AL:Option Addr)(cap capL:Nat)(rl:List Xt)(L:List (Int×Int))(pJ:rl.length<=20)(hL:L.length<=40)(hf:∀x∈L,YS x=true)(w:World)(hs:XA w w.heap.size 4 Xt.cells ⟨A,cap,rl⟩)(pP:XA w w.heap.size 2 ZA ⟨AL,capL,L⟩):
 Calls Tryz.prog 145 #[.slice A rl.length cap,.slice AL L.length capL] w (Jn rl L w):=by
 have hm:cap<=9223372036854775807:=hs.2.1;have tA:rl.length<=cap:=hs.1;have tB:capL<=9223372036854775807:=pP.2.1;have tC:L.length<=capL:=pP.1;have HS:=Xa hs;have qU:=Xa pP;have HF:=Xa hf;clear hs pP hf;refine(callsIn_wide (n:=4)).1 ?_;refine callsIn_of_wp_marks Tryz.func145 rfl trivial (wpIn_wide.2 (Code.wp_mono XmZ ?_)) rfl;simp only[Tryz.ntmps145,List.size_toArray,List.length_cons,List.length_nil,Nat.reduceAdd,Nat.reduceSub,Array.replicate_succ,Array.replicate_zero,List.push_toArray,List.append_toArray,List.nil_append,List.cons_append];obtain⟨W,hW,rN,qV,qW,qX⟩:∃V:World,(w.alloc (.cells #[.slice none 0 0] 106)).alloc (.cells #[.int .i64 0] 35)=V/\V.heap.size=w.heap.size+2/\Below w.heap.size w V/\V.heap[w.heap.size]? =some (.cells #[.slice none 0 0] 106 (0,0))/\V.heap[w.heap.size+1]? =some (.cells #[.int .i64 0] 35 (0,0)):=by
  obtain⟨A,hA,hP,hQ,hT⟩:=boxed w (.cells #[.slice none 0 0] 106);obtain⟨B,hB,qB,pK,qC⟩:=boxed A (.cells #[.int .i64 0] 35);exact⟨B,by rw[hB,hA],by omega,hQ.trans (pK.mono (by omega)),(pK.block _ (by omega)).trans hT,by rw[<-hP];exact qC⟩
 have hR:=Xa pJ;clear pJ;go_upto_region 1 with fail
 go_upto_region 2 with (first
  |(go_at_call 184;refine(Xc.first (Xrd 0 _)).mono ?_;rintro e w' ⟨rfl,y,rfl⟩)
  |(go_at_call 183;refine(Xm1 _ _ rl.length hR.out _ (Xi (heap_alloc_new y.val _)).1 (Xi (heap_alloc_new y.val _)).2 (by simp)).mono ?_;rintro e w' ⟨rfl,pQ,qD⟩))
 obtain⟨X,hX,rO,qE,qY⟩:∃V:World,w'.alloc (.cells #[.slice (some ⟨y.val.heap.size+1,0,none⟩) rl.length rl.length] 106)=V/\V.heap.size=w'.heap.size+1/\Below w'.heap.size w' V/\V.heap[w'.heap.size]? =some (.cells #[.slice (some ⟨y.val.heap.size+1,0,none⟩) rl.length rl.length] 106 (0,0)):=by
  obtain⟨A,hA,hP,hQ,hT⟩:=boxed w' (.cells #[.slice (some ⟨y.val.heap.size+1,0,none⟩) rl.length rl.length] 106);exact⟨A,hA.symm,hP,hQ,hT⟩
 have hH:Xuh w (y.val.heap.size+1) w'.heap.size rl.length (λ_=>0) X:=by
  have pR:=y.size;simp only[World.size_alloc] at pQ qD;have hA:Below y.val.heap.size y.val w':=(brf.alloc nr _).trans (qD.mono (by omega));have h1:Below W.heap.size W w':=y.below.trans (hA.mono pR);have h2:Below W.heap.size W X:=h1.trans (qE.mono h1.size);have h3:y.val.heap.size+1<w'.heap.size:=by
   obtain⟨cur,hc,-⟩:=pQ;exact(agS hc).1
  exact⟨qV.trans (h2.mono (by omega)),(h2.block _ (by omega)).trans qW,(h2.block _ (by omega)).trans qX,qY,pQ.nought.keep (qE.block _ h3),by omega,h3,by omega⟩
 have HX:=Xa hX;clear pQ qD hW rN qV qW qX rO qE qY;generalize w'.heap.size=b6 at*;generalize y.val.heap.size+1=g at*;have pS:=Xa hH;have qF:=Xa hH.bel;clear hH;go_upto_region 3 with fail;have hX:=HX.out;go_loopw [21] (λv wr=>∃k:Nat,v=.int .i64 k/\k<=L.length/\Hid (∀j x,j<k->L[j]? =some x->0<Xc7 rl x.1)/\∃x:Xb X.heap.size X,wr=x.val) (λv _=>L.length-(intOf v).toNat)
 case atStart=>exact⟨0,rfl,Nat.zero_le _,λj y hj=>absurd hj (by omega),Xb.refl _ _,rfl⟩
 case round=>
  obtain⟨k,rfl,hk,pC,x,rfl⟩:=hrel;by_cases qZ:k<L.length
  ·obtain⟨b,off,hA,hb,hG⟩:=qU.out.2.2 (show 0<L.length by omega);simp only at hA;subst hA;obtain⟨⟨at0,wt⟩,hx⟩:∃s,L[k]? =some s:=⟨_,lgE qZ⟩
   have pT:Below w.heap.size w x.val:=qF.out.trans (x.below.mono qF.out.size);have he:=XiM hx (show b<w.heap.size by omega) hG ⟨x.val,pT⟩;simp only at he;obtain⟨Y,hY,pU,pD,pF⟩:∃V:World,x.val.alloc (.cells #[.int .i64 at0,.int .i64 wt] 185)=V/\V.heap.size=x.val.heap.size+1/\Below x.val.heap.size x.val V/\V.heap[x.val.heap.size]? =some (.cells #[.int .i64 at0,.int .i64 wt] 185 (0,0)):=by
    obtain⟨A,hA,hP,hQ,hT⟩:=boxed x.val (.cells #[.int .i64 at0,.int .i64 wt] 185);exact⟨A,hA.symm,hP,hQ,hT⟩
   have hM:Below w.heap.size w Y:=pT.trans (pD.mono pT.size);have qG:=Xi pF;have KC:=Xa (λy:Xb Y.heap.size Y=>Xc.after (x:=y) nr (Xk6 A cap rl at0 y.val ((HS.out.to (hM.trans (y.below.mono hM.size)) (Nat.le_trans hM.size y.size)))));rw[show(Y1 rl at0 rl.length).length=Xc7 rl at0 from rfl] at KC;have rP:(0:Int)<=(k:Int)/\(k:Int)<(L.length:Int):=by omega
   have pV:=Xa hx;have pG:=Xa (show Below X.heap.size X Y from x.below.trans (pD.mono x.size));clear hG hx pD pF hM pT;by_cases rA:Xc7 rl at0=0
   ·rw[rA] at KC;go_wp2_with (go_at_call 185;refine(KC.out (Xb.refl _ _)).mono ?_;rintro e w' ⟨rfl,y,rfl⟩;have hS:=pS.out.more (pG.out.trans (y.below.mono pG.out.size));have c4:y.val.cell? ⟨w.heap.size,0,none⟩=some (.slice none 0 0):=YH hS.h4;have c5:y.val.cell? ⟨w.heap.size+1,0,none⟩=some (.int .i64 0):=YH hS.h5;have f4:=Xe hS.h4 0;have f5:=Xe hS.h5 0)
    have hS:=pS.out.more (pG.out.trans (y.below.mono pG.out.size));have z4:=YH (XU (Xx (i:=0) hS.h4 (.slice none 0 0)) ⟨w.heap.size+1,0,none⟩ (.int .i64 12) (show w.heap.size≠w.heap.size+1 by omega));have z5:=YH (Xx (i:=0) (XU hS.h5 ⟨w.heap.size,0,none⟩ (.slice none 0 0) (show w.heap.size+1≠w.heap.size by omega)) (.int .i64 12));have hZ:Below w.heap.size w ((y.val.setCell ⟨w.heap.size,0,none⟩ (.slice none 0 0)).setCell ⟨w.heap.size+1,0,none⟩ (.int .i64 12)):=(hS.bel.setCell (p:=⟨w.heap.size,0,none⟩) nr _).setCell (p:=⟨w.heap.size+1,0,none⟩) (Nat.le_succ _) _
    generalize (y.val.setCell ⟨w.heap.size,0,none⟩ (.slice none 0 0)).setCell ⟨w.heap.size+1,0,none⟩ (.int .i64 12)=Z at*;refine⟨.tuple #[.slice none 0 0,.int .i64 12],by simp[results,Tryz.results145,go_sem,z4,z5],hZ,?_⟩;rw[if_neg λh=>absurd (h _ (lmg pV.out)) (by simp only;omega)]
   ·have tD:(((Xc7 rl at0:Nat):Int)==0)=false:=by simp;omega
    go_wp2_with (go_at_call 185;refine(KC.out (Xb.refl _ _)).mono ?_;rintro e w' ⟨rfl,y,rfl⟩)
    refine⟨⟨k+1,by go_num,by omega,λj x hj qH=> ?_,⟨_,pG.out.trans (y.below.mono pG.out.size)⟩,rfl⟩,by simp[intOf];omega⟩;by_cases rQ:j=k
    ·subst rQ;rw[pV.out] at qH;cases qH
     exact Nat.pos_of_ne_zero rA
    ·exact pC.out j x (by omega) qH
  ·have qI:k=L.length:=by omega
   subst qI;have HC:=Xa (λ(x0:Int×Int) (h:x0∈L)=>let ⟨j,hj⟩:=List.getElem?_of_mem h;pC.out j x0 (lgS hj).1 hj);have hV:=Xa (pS.out.more x.below);clear pC;go_upto_region 9 with fail;generalize (Value.slice (some ⟨y.val.heap.size,0,none⟩) 1 1)=Y0;refine wp_loop (λa V=>∃(k:Nat) (Ds:List Nat) (v10 v11 v12 v34 v35 v36 v37 v38 v39 v40 v41 v42 v43 v44 v45 v46 v47 v48 v49 v50 v51 v52 v53 v70:Value),Xui w g b6 rl L k Ds V/\a={tmps:=#[.slice A rl.length cap,.slice AL L.length capL,undef,undef,.pointer (some ⟨w.heap.size,0,none⟩),.pointer (some ⟨w.heap.size+1,0,none⟩),.pointer (some ⟨b6,0,none⟩),undef,u8,undef,v10,v11,v12,undef,.agg #[.int .i64 0,.int .i64 1],Y0,.slice A rl.length cap,.int .i64 (rl.length:Int),.slice (some ⟨g,0,none⟩) rl.length rl.length,.slice AL L.length capL,.int .i64 (L.length:Int),.int .i64 (L.length:Int),.bool false,u23,u24,u25,u26,u27,u28,u29,u30,.slice AL L.length capL,.int .i64 (L.length:Int),.int .i64 (k:Int),v34,v35,v36,v37,v38,v39,v40,v41,v42,v43,v44,v45,v46,v47,v48,v49,v50,v51,v52,v53,undef,undef,undef,undef,undef,undef,undef,undef,undef,undef,undef,undef,undef,undef,undef,undef,v70,undef],defers:=Ds.map Xs2})
    (λa _=>L.length-(intOf (a.tmps.getD 33 undef)).toNat) ⟨0,[],undef,undef,undef,undef,undef,undef,undef,undef,undef,undef,undef,undef,undef,undef,undef,undef,undef,undef,undef,undef,undef,undef,undef,undef,⟨Nat.zero_le _,List.nodup_nil,λD h=>absurd h (by simp),⟨hV.out.bel,hV.out.h4,hV.out.h5,hV.out.h6,hV.out.row.congr (λk _=>by simp[Z7]),hV.out.gw,hV.out.gb,hV.out.bV⟩⟩,rfl⟩ ?_
   rintro a V ⟨k,Ds,v10,v11,v12,v34,v35,v36,v37,v38,v39,v40,v41,v42,v43,v44,v45,v46,v47,v48,v49,v50,v51,v52,v53,v70,pE,rfl⟩;have hC:=Xa pE;have qJ:=Xa pE.st.bel;clear pE pS hV qF HX hX
   dsimp only
   by_cases qK:k<L.length
   ·obtain⟨b,off,hA,hb,hG⟩:=qU.out.2.2 (show 0<L.length by omega);simp only at hA;subst hA;obtain⟨⟨at0,wt⟩,hx⟩:∃s,L[k]? =some s:=⟨_,lgE qK⟩
    have he:=XiM hx (show b<w.heap.size by omega) hG ⟨V,qJ.out⟩;simp only at he;obtain⟨Y,hY,pU,pD,pF⟩:∃U:World,V.alloc (.cells #[.int .i64 at0,.int .i64 wt] 185)=U/\U.heap.size=V.heap.size+1/\Below V.heap.size V U/\U.heap[V.heap.size]? =some (.cells #[.int .i64 at0,.int .i64 wt] 185 (0,0)):=by
     obtain⟨A,hA,hP,hQ,hT⟩:=boxed V (.cells #[.int .i64 at0,.int .i64 wt] 185);exact⟨A,hA.symm,hP,hQ,hT⟩
    have hM:Below w.heap.size w Y:=qJ.out.trans (pD.mono qJ.out.size);have qG:=λy:Xb Y.heap.size Y=>Xi ((y.below.block V.heap.size (by omega)).trans pF);have qL:=Xi pF;have KC:=Xa (λy:Xb Y.heap.size Y=>Xk6 A cap rl at0 y.val ((HS.out.to (hM.trans (y.below.mono hM.size)) (Nat.le_trans hM.size y.size))));rw[show(Y1 rl at0 rl.length).length=Xc7 rl at0 from rfl] at KC;have hJ:=HF.out _ (lmg hx);have pL:=HC.out _ (lmg hx);simp only at pL;obtain⟨S,hS⟩:∃S,S=Xdg rl (at0,wt):=⟨_,rfl⟩
    obtain⟨f,hf⟩:∃f,f=fmk S D0:=⟨_,rfl⟩
    have rR:wt.natAbs<=67108864:=by
     simp only[YS,Xg,bae,decide_eq_true_eq] at hJ;omega
    have KM:=Xa (λv:World=>Xnk wt (Xc7 rl at0) (by omega) pL (Nat.le_trans (Xd4 rl at0 rl.length) (by have:=hR.out;omega)) v);rw[show fmk wt (Xc7 rl at0)=f by rw[hf,hS];exact XqO rl (at0,wt) pL hR.out] at KM;simp only[frV] at KM;have rP:(0:Int)<=(k:Int)/\(k:Int)<(L.length:Int):=by omega
    have pV:=Xa hx;have rS:=Xa hJ;have rB:=Xa hS;have rT:=Xa hf;have rU:=Xa pD;have rV:=Xa pU;have tG:=Xa hM;have HY:=Xa hY;clear hG hx pD pF hM hJ hS hf pL rR pU;go_upto_region 11 with fail;rw[show Y=(Xb.refl Y.heap.size Y).val from rfl];refine Xmy (Xb.refl Y.heap.size Y) nr 12 9 10 11 12 (.cells #[.int .i64 0,.int .i64 0] 110) (.cells #[.int .i64 0] 35) (by decide) (by kernel_rfl) (by kernel_rfl) ⟨_,_,_,rfl,rfl,rfl,λ_ _ _ _ h=>h⟩ (by kernel_rfl) ⟨_,rfl,rfl,rfl,λa w=>by kernel_rfl⟩ ⟨_,rfl,rfl,rfl,λa w=>by kernel_rfl⟩ ?_;apply Exists.intro
    refine⟨λfl pH=> ?_,?_,?_,?_⟩
    ·simp only[Xy,List.push_toArray,List.cons_append,List.nil_append,List.take_succ_cons,List.take_zero]
     repeat (go_big_quiet_step (first
      |(go_at_call 185;exact Xc.afterF nr (KC.out _))
      |(go_at_call 186;exact Xc.afterF nr (KM.out _))))
     exact wpQuiet_nil rfl
    ·kernel_rfl
    ·rfl
    intro p q z hp hq pW rW rX pX pY;have r1:=Xi pX;have r2:=Xe pX;have q1:=YH pY;have q2:=Xe pY;simp only[Xy,List.push_toArray,List.cons_append,List.nil_append,List.drop_succ_cons,List.drop_zero,ZE];go_simp;go_upto_region 12 with fail;obtain⟨Z,hZ⟩:∃Z,Z=((z.val.setCell ⟨p,0,none⟩ (.int .i64 f.1)).setCell ⟨p,1,none⟩ (.int .i64 (f.2:Int))).setCell ⟨q,0,none⟩ (.int .i64 0):=⟨_,rfl⟩
    rw[<-hZ];have qM:Z.heap[p]? =some (.cells #[.int .i64 f.1,.int .i64 (f.2:Int)] 110 (0,0)):=by rw[hZ];exact XU (XR pX) ⟨q,0,none⟩ _ pW
    have pZ:Z.heap[q]? =some (.cells #[.int .i64 0] 35 (0,0)):=by rw[hZ];exact Xx (i:=0) (XU (XU pY ⟨p,0,none⟩ _ (Ne.symm pW)) ⟨p,1,none⟩ _ (Ne.symm pW)) (.int .i64 0)
    have pB:Below Y.heap.size Y Z:=by rw[hZ];exact((z.below.setCell (p:=⟨p,0,none⟩) hp _).setCell (p:=⟨p,1,none⟩) hp _).setCell (p:=⟨q,0,none⟩) hq _
    have tH:Z.cell? ⟨V.heap.size,0,none⟩=some (.int .i64 at0)/\Z.cell? ⟨V.heap.size,1,none⟩=some (.int .i64 wt):=qG ⟨Z,pB⟩;have tI:=YH pZ;have rY:p<Z.heap.size:=(agS qM).1;have qN:q<Z.heap.size:=(agS pZ).1;have rZ:=Xa qM;have sA:=Xa pZ;have sB:=Xa pB;have KO:=Xa (λv:World=>XkD A rl.length cap at0 v);clear hZ qM pZ pB r1 r2 q1 q2 pX pY rW rX qG qL;go_wp2_with (go_at_call 187;refine(KO.out _).mono ?_;rintro e w' ⟨rfl,rfl⟩)
    obtain⟨O,hO,tJ,pM,qB,sC⟩:∃O:World,(Z.alloc (.cells #[.slice A rl.length cap] 263)).alloc (.cells #[.int .i64 at0] 3)=O/\O.heap.size=Z.heap.size+2/\Below Z.heap.size Z O/\O.cell? ⟨Z.heap.size,0,none⟩=some (.slice A rl.length cap)/\O.cell? ⟨Z.heap.size+1,0,none⟩=some (.int .i64 at0):=by
     obtain⟨A1,hA,hP,hQ,hT⟩:=boxed Z (.cells #[.slice A rl.length cap] 263);obtain⟨B1,hB,qB,pK,qC⟩:=boxed A1 (.cells #[.int .i64 at0] 3);exact⟨B1,by rw[hB,hA],by omega,hQ.trans (pK.mono (by omega)),YH ((pK.block _ (by omega)).trans hT),by rw[<-hP];exact YH qC⟩
    rw[hO];have qA:=rU.out;have pU:=rV.out;have pB:=sB.out;have hH:=hC.out.st;have sD:=hH.gw;have sE:=hH.gb;have tK:=hH.bV;have sF:=qA.size;have tL:=pB.size;have pN:Below V.heap.size V O:=qA.trans ((pB.mono sF).trans (pM.mono (by omega)));have pO:Below w.heap.size w O:=hH.bel.trans (pN.mono hH.bel.size);have pI:=hH.more pN;have rC:=pO.size;have sG:O.heap[q]? =some (.cells #[.int .i64 0] 35 (0,0)):=(pM.block q qN).trans sA.out;have sH:O.heap[p]? =some (.cells #[.int .i64 f.1,.int .i64 (f.2:Int)] 110 (0,0)):=(pM.block p rY).trans rZ.out;have h0:Xuj w O g q rl.length (Z7 rl (L.take k)) S [] O:=⟨Yt.refl _ _ _,pO,pI.row.congr λj _=>by simp,sG⟩
    have qO:XA O O.heap.size 4 Xt.cells ⟨A,cap,rl⟩:=HS.out.to pO rC;have qP:0<rl.length->∀p,A=some p->(λb:Nat=>b==g||b==q) p.block=false:=λhn p hp=>by
     obtain⟨b,off,hA,hb,-⟩:=HS.out.2.2 hn;simp only at hA;rw[hA] at hp;injection hp with hp;subst hp;simp;omega
    refine(wpIn_wide (n:=4)).1 ?_;refine wpIn_rangeFunc_ownF rfl (by decide) (gf:=214) (lb:=#[.pointer (some ⟨Z.heap.size,0,none⟩),.pointer (some ⟨Z.heap.size+1,0,none⟩)]) (by simp[go_sem]) trivial Xga
     (XiA (4-1) (by decide) Z.heap.size (Z.heap.size+1) O.heap.size (λb=>b==g||b==q) A cap rl at0 O nr (by omega) qB sC (by omega) (by simp;omega) qO qP)
     (λh k=>h.trans k) (Xqj nr) brf (λ_=>rfl)
     (Xuj w O g q rl.length (Z7 rl (L.take k)) S) (λ_ _ _=>False) (Xuj.own rC) (λ_ _ _ _ _ hs _ _=>hs) h0
     (λx=>{tmps:=#[.slice A rl.length cap,.slice (some ⟨b,off,none⟩) L.length capL,undef,undef,.pointer (some ⟨w.heap.size,0,none⟩),.pointer (some ⟨w.heap.size+1,0,none⟩),.pointer (some ⟨b6,0,none⟩),undef,u8,undef,.pointer (some ⟨V.heap.size,0,none⟩),.pointer (some ⟨p,0,none⟩),.pointer (some ⟨q,0,none⟩),.int .i64 ((x.val:Nat):Int),.agg #[.int .i64 0,.int .i64 1],Y0,.slice A rl.length cap,.int .i64 (rl.length:Int),.slice (some ⟨g,0,none⟩) rl.length rl.length,.slice (some ⟨b,off,none⟩) L.length capL,.int .i64 (L.length:Int),.int .i64 (L.length:Int),.bool false,u23,u24,u25,u26,u27,u28,u29,u30,.slice (some ⟨b,off,none⟩) L.length capL,.int .i64 (L.length:Int),.int .i64 (k:Int),.bool true,.pointer (some ⟨b,off+k*2,none⟩),.agg #[.int .i64 at0,.int .i64 wt],.tuple #[.agg #[.int .i64 f.1,.int .i64 (f.2:Int)],.int .i64 0],.pointer (some ⟨V.heap.size,1,none⟩),.int .i64 wt,.slice A rl.length cap,.pointer (some ⟨V.heap.size,0,none⟩),.int .i64 at0,.int .i64 (Xc7 rl at0:Int),.tuple #[.agg #[.int .i64 f.1,.int .i64 (f.2:Int)],.int .i64 0],.agg #[.int .i64 f.1,.int .i64 (f.2:Int)],.int .i64 0,.int .i64 0,.bool false,v49,.slice A rl.length cap,.pointer (some ⟨V.heap.size,0,none⟩),.int .i64 at0,.func (.func 214) #[] #[.pointer (some ⟨Z.heap.size,0,none⟩),.pointer (some ⟨Z.heap.size+1,0,none⟩)],.int .i64 ((x.val:Nat):Int),undef,undef,undef,undef,undef,undef,undef,undef,undef,undef,undef,undef,undef,undef,undef,v70,undef],defers:=[]}) ?assign ?body ?done ?stop
    case assign=>
     intro l x W K hK
     gi_wp2
     simpa using hK
    case body=>
     rintro l pre x W hI qZ;have rD:=hI.keep.1;have hN:∀j,j<O.heap.size->j≠g->j≠q->W.heap[j]? =O.heap[j]? :=λj hj h1 h2=>hI.keep.2 j hj (by simp[h1,h2]);have qQ:g<W.heap.size:=by omega
     have sJ:q<W.heap.size:=by omega
     have rE:=(hN b6 (by omega) (by omega) (by omega)).trans pI.h6;have rF:=(hN p (by omega) (by omega) pW).trans sH;have tM:=λy:Xb W.heap.size W=>YH ((y.below.block b6 (by omega)).trans rE);have pL:=λy:Xb W.heap.size W=>Xi ((y.below.block p (by omega)).trans rF);have sK:=λy:Xb W.heap.size W=>YH ((y.below.block q (by omega)).trans hI.err);obtain⟨F0,qR⟩:∃F0,F0=Z7 rl (L.take k) x.val+(((pre.map Fin.val).count x.val:Nat):Int)*S:=⟨_,rfl⟩
     obtain⟨u,hu⟩:∃u,u=fmk F0 D0:=⟨_,rfl⟩
     obtain⟨r,hr⟩:∃r,r=fmk (F0+S) D0:=⟨_,rfl⟩
     have rG:=λy:Xb W.heap.size W=>(hI.row.keep (y.below.block g (by omega))).cells x.isLt;simp only[<-qR,<-hu] at rG;have sL:=λy:Xb W.heap.size W=>(hI.row.keep (y.below.block g (by omega))).unfrozen;have sM:=λ(y:Xb W.heap.size W) (i:Nat)=>Xe ((y.below.block q (by omega)).trans hI.err) i;have rH:S.natAbs<=67108864*232792560:=by rw[rB.out];exact Xkp rl _ rS.out
     have sN:F0.natAbs<=60*(67108864*232792560):=by
      have b1:=XgS rl x.val (L.take k) λy hy=>HF.out y (List.mem_of_mem_take hy);have b2:(L.take k).length*(67108864*232792560)<=40*(67108864*232792560):=Nat.mul_le_mul (by simp;omega) nr;have b3:((((pre.map Fin.val).count x.val:Nat):Int)*S).natAbs<=20*(67108864*232792560):=by
       rw[Int.natAbs_mul,Int.natAbs_natCast];refine Nat.mul_le_mul ?_ rH;have:=List.count_le_length (a:=x.val) (l:=pre.map Fin.val);rw[List.length_map] at this;have:=hR.out;omega
      omega
     have KA:=Xa (λv:World=>Xmw F0 S D0 (by decide) (by decide) (by omega) v);rw[<-hu,<-rT.out,<-hr] at KA;simp only[frV] at KA;have tN:(0:Int)<=((x.val:Nat):Int)/\((x.val:Nat):Int)<(rl.length:Int):=by have:=x.isLt;omega
     have HI:=Xa hI;have sO:=Xa qR;have HU:=Xa hu;have sP:=Xa hr;have tO:=Xa hN;have sQ:=Xa rD;clear hI qR hu hr hN rH sN rE rF qO qP h0 hH pO pN qA pB pM
     gi_wp2
     refine Xfh (by kernel_rfl) (by kernel_rfl) (by rintro⟨_,_,h⟩;exact h) ?_;refine Xlb (Xb.refl W.heap.size W) 12 10 12 (by kernel_rfl) ⟨_,_,_,rfl,rfl,rfl,λ_ _ _ _ h=>h⟩ (by kernel_rfl) ?_;simp only[Xy,List.push_toArray,List.cons_append,List.nil_append,List.take_succ_cons,List.take_zero,List.drop_succ_cons,List.drop_zero]
     repeat (go_big_quiet_step ((go_at_call 188;exact Xc.after nr (KA.out _))))
     refine wpQuiet_nil ?_;intro y;have g1:=rG y;have g2:=sL y;have g3:=sK y;have g4:=sM y;go_wp2_with fail;have hI:=HI.out;have qQ:g<W.heap.size:=qQ;have pA:=hI.row.keep (y.below.block g qQ);have qS:y.val.heap[q]? =some (.cells #[.int .i64 0] 35 (0,0)):=(y.below.block q sJ).trans hI.err;have qT:q≠g:=by omega
     obtain⟨U,hU⟩:∃U,U=((y.val.setCell ⟨g,x.val*2,none⟩ (.int .i64 r.1)).setCell ⟨g,x.val*2+1,none⟩ (.int .i64 (r.2:Int))).setCell ⟨q,0,none⟩ (.int .i64 0):=⟨_,rfl⟩
     rw[<-hU];have rI:U.heap[q]? =some (.cells #[.int .i64 0] 35 (0,0)):=by rw[hU];exact Xx (i:=0) (XU (XU qS ⟨g,x.val*2,none⟩ _ qT) ⟨g,x.val*2+1,none⟩ _ qT) (.int .i64 0)
     have sR:Jm U g rl.length (λj=>if j=x.val then F0+S else Z7 rl (L.take k) j+(((pre.map Fin.val).count j:Nat):Int)*S):=by
      rw[hU,sP.out];exact(pA.set x.isLt (F0+S)).keep (RowKit.Below.heap_setCell _ _ _ _ (Ne.symm qT))
     have sS:KeepsOthers W U:=by
      rw[hU];exact(((KeepsOthers.of_grownBy (row:=none) ⟨y.below.os,y.below.tape,y.below.output,y.below.size,λk hk _=>y.below.block k hk⟩ (λ_ _ e=>by cases e)).trans (KeepsOthers.setCell _ _ _)).trans (KeepsOthers.setCell _ _ _)).trans (KeepsOthers.setCell _ _ _)
     have rJ:Yt O.heap.size (λb=>b==g||b==q) W U:=by
      rw[hU];exact(((Yt.below (y.below.mono sQ.out)).set (by simp) _ _).set (by simp) _ _).set (by simp) _ _
     have sT:Below w.heap.size w U:=by
      rw[hU];exact(((hI.bel.trans (y.below.mono hI.bel.size)).setCell (p:=⟨g,_,none⟩) (show w.heap.size<=g by omega) _).setCell (p:=⟨g,_,none⟩) (show w.heap.size<=g by omega) _).setCell (p:=⟨q,_,none⟩) (show w.heap.size<=q by omega) _
     have tP:=YH rI;clear g1 g2 g3 g4 hU
     gi_wp2
     refine⟨sS,rJ,hI.keep.trans rJ,sT,sR.congr λj _=> ?_,rI⟩;rw[List.map_append,List.count_append];show _+(((List.count j (pre.map Fin.val)+List.count j [x.val]:Nat):Nat):Int)*S=_;rw[List.count_singleton];by_cases hj:j=x.val
     ·rw[if_pos hj,sO.out,hj];simp[Int.add_mul,Int.add_assoc]
     ·rw[if_neg hj,if_neg (by simpa using Ne.symm hj)];simp
    case done=>
     rintro D ys W hD pR hI rK;have rD:=hI.keep.1;have hN:∀j,j<O.heap.size->j≠g->j≠q->W.heap[j]? =O.heap[j]? :=λj hj h1 h2=>hI.keep.2 j hj (by simp[h1,h2]);have sU:L.take (k+1)=L.take k++[(at0,wt)]:=by rw[List.take_add_one,pV.out];rfl
     have sV:Xui w g b6 rl L (k+1) (D::Ds) W:=by
      have rL:∀E,E∈Ds->E<V.heap.size:=λE hE=>(agS (hC.out.ms E hE).2).1;refine⟨by omega,List.nodup_cons.2 ⟨λh=> ?_,hC.out.nd⟩,λE hE=> ?_,hI.bel,(hN _ (by omega) (by omega) (by omega)).trans pI.h4,(hN _ (by omega) (by omega) (by omega)).trans pI.h5,(hN _ (by omega) (by omega) (by omega)).trans pI.h6,hI.row.congr λj _=> ?_,sD,sE,by omega⟩
      ·have:=rL D h;omega
      ·rcases List.mem_cons.1 hE with rfl|hE
       ·exact⟨by omega,rK⟩
       ·obtain⟨m1,m2⟩:=hC.out.ms E hE;have h1:=rL E hE;have sW:E≠g:=λe=>by
         obtain⟨cur,hc,-⟩:=hH.row;rw[<-e,m2] at hc;cases hc
        exact⟨m1,(hN E (by omega) sW (by omega)).trans ((pN.block E h1).trans m2)⟩
      ·rw[sU,XpK,rB.out,pR]
     clear hI hN h0 qO qP hH pI pO pN qA pB pM pR rK;go_wp2;refine⟨⟨k+1,D::Ds,_,_,_,_,_,_,_,_,_,_,_,_,_,_,_,_,_,_,_,_,_,_,_,_,sV,rfl⟩,?_⟩;simp[intOf];omega
    case stop=>
     rintro D c pre W _ _ h _;exact h.elim
   ·have qI:k=L.length:=by have:=hC.out.kl;omega
    subst qI;have hS:=hC.out.st;have c4:V.cell? ⟨w.heap.size,0,none⟩=some (.slice none 0 0):=YH hS.h4;have c5:V.cell? ⟨w.heap.size+1,0,none⟩=some (.int .i64 0):=YH hS.h5;have c6:V.cell? ⟨b6,0,none⟩=some (.slice (some ⟨g,0,none⟩) rl.length rl.length):=YH hS.h6;have f4:=Xe hS.h4 0;have f5:=Xe hS.h5 0;have sX:=Xa hS;clear hS;go_wp2;have hS:=sX.out;have tQ:=hS.gw;have z4:=XU (Xx (i:=0) hS.h4 (.slice (some ⟨g,0,none⟩) rl.length rl.length)) ⟨w.heap.size+1,0,none⟩ (.int .i64 0) (show w.heap.size≠w.heap.size+1 by omega);have z5:=Xx (i:=0) (XU hS.h5 ⟨w.heap.size,0,none⟩ (.slice (some ⟨g,0,none⟩) rl.length rl.length) (show w.heap.size+1≠w.heap.size by omega)) (.int .i64 0)
    have rM:∀j,j≠w.heap.size->j≠w.heap.size+1->((V.setCell ⟨w.heap.size,0,none⟩ (.slice (some ⟨g,0,none⟩) rl.length rl.length)).setCell ⟨w.heap.size+1,0,none⟩ (.int .i64 0)).heap[j]? =V.heap[j]? :=λj h1 h2=>(RowKit.Below.heap_setCell _ _ _ _ h2).trans (RowKit.Below.heap_setCell _ _ _ _ h1);have hZ:Below w.heap.size w ((V.setCell ⟨w.heap.size,0,none⟩ (.slice (some ⟨g,0,none⟩) rl.length rl.length)).setCell ⟨w.heap.size+1,0,none⟩ (.int .i64 0)):=(hS.bel.setCell (p:=⟨w.heap.size,0,none⟩) nr _).setCell (p:=⟨w.heap.size+1,0,none⟩) (Nat.le_succ _) _;generalize (V.setCell ⟨w.heap.size,0,none⟩ (.slice (some ⟨g,0,none⟩) rl.length rl.length)).setCell ⟨w.heap.size+1,0,none⟩ (.int .i64 0)=Z at*
    have pH:∀{E:Nat} {cur:Array Value} {t:TypeId},E∈Ds->V.heap[E]? =some (.cells cur t (0,0))->False:=λhE h=>by
     rw[(hC.out.ms _ hE).2] at h;cases h
    refine XfM (B:=w.heap.size) Ds _ hC.out.nd (λD hD=>⟨(hC.out.ms D hD).1,(rM D (λe=>pH hD (e▸hS.h4)) (λe=>pH hD (e▸hS.h5))).trans (hC.out.ms D hD).2⟩) λw' sY hk=> ?_;have y4:=YH ((hk _ λh=>pH h hS.h4).trans z4);have y5:=YH ((hk _ λh=>pH h hS.h5).trans z5);have sZ:g∉Ds:=λh=>by
     obtain⟨cur,hc,-⟩:=hS.row;exact pH h hc
    have pA:=hS.row.keep ((hk g sZ).trans (rM g (by omega) (by omega)));rw[List.take_length] at pA;refine⟨.tuple #[.slice (some ⟨g,0,none⟩) rl.length rl.length,.int .i64 0],by simp[results,Tryz.results145,go_sem,y4,y5],hZ.trans sY,?_⟩;rw[if_pos HC.out];exact⟨g,by omega,rfl,pA⟩
end Go.Proofs.YtdcahhbipeaggaaGreatDoor
namespace Go.Proofs.YtdcahhbipeaggaaGreatDoor
open Go.RowKit
theorem Jn.mono{rl:List Xt}{L:List (Int×Int)}{w w1 w':World}{e:Ending}(h:Jn rl L w1 e w')(hb:Below w.heap.size w w1):Jn rl L w e w':=by
 obtain⟨h1,h2⟩:=h;refine⟨hb.trans (h1.mono hb.size),?_⟩;by_cases hc:∀x∈L,0<Xc7 rl x.1
 ·rw[if_pos hc] at h2 ⊢;obtain⟨g,k1,k2⟩:=h2;exact⟨g,Nat.le_trans hb.size k1,k2⟩
 ·rw[if_neg hc] at h2 ⊢;exact h2
theorem Jn.tuple{rl:List Xt}{L:List (Int×Int)}{w w':World}{e:Ending}(h:Jn rl L w e w'):∃a b,e=.returned (.tuple #[a,b]):=by
 obtain⟨-,h2⟩:=h;by_cases hc:∀x∈L,0<Xc7 rl x.1
 ·rw[if_pos hc] at h2;obtain⟨g,-,k2,-⟩:=h2;exact⟨_,_,k2⟩
 ·rw[if_neg hc] at h2;exact⟨_,_,h2⟩
theorem XjT(A AL:Option Addr)(cap capL:Nat)(rl:List Xt)(L:List (Int×Int))(hE:∀r∈rl,r.ok)(hv:Y6 rl=true)(hL:L.length<=40)(hf:∀x∈L,YS x=true)(w:World)(hs:XA w w.heap.size 4 Xt.cells ⟨A,cap,rl⟩)(hC:XA w w.heap.size 2 ZA ⟨AL,capL,L⟩):
 Calls Tryz.prog 92 #[.slice A rl.length cap,.slice AL L.length capL] w (Jn rl L w):=by
 have hD:rl.length<=20:=by
  simp only[Y6,bae,decide_eq_true_eq] at hv;exact hv.1
 have K1:=Xa (Xc.first (Xps A AL cap capL rl L hE hv (by omega) hf w hs hC));have K2:=Xa (λx:Xb w.heap.size w=>Xsg A AL cap capL rl L hD hL hf x.val (hs.to x.below x.size) (hC.to x.below x.size));clear hs hC hf hv hE;go_enter Tryz.func92,Tryz.ntmps92
 go_wp2_with (first
  |(go_at_call 144;refine K1.out.mono ?_;rintro e w' ⟨rfl,x,rfl⟩)
  |(go_at_call 145;refine(K2.out _).mono ?_;rintro e w' hp;obtain⟨a,b,he⟩:=hp.tuple;subst he))
 refine bodyPost_ret (results_tmp2 (t:=4) (u:=5) rfl _ _ _) rfl ?_;exact hp.mono x.below
end Go.Proofs.YtdcahhbipeaggaaGreatDoor
namespace Go.Proofs.YtdcahhbipeaggaaGreatDoor
open Go
def XhG(f:Nat->Int)(i:Nat)(out:List Nat):List Nat:=(out.reverse.dropWhile λj=>decide (f i<f j)).reverse++i::(out.reverse.takeWhile λj=>decide (f i<f j)).reverse
def Xto(f:Nat->Int)(i:Nat)(out:List Nat):Nat:=(out.reverse.dropWhile λj=>decide (f i<f j)).length
theorem XuU(f:Nat->Int)(i:Nat)(out:List Nat):XhG f i out=out.take (Xto f i out)++i::out.drop (Xto f i out):=by
 have h:out=(out.reverse.dropWhile λj=>decide (f i<f j)).reverse++(out.reverse.takeWhile λj=>decide (f i<f j)).reverse:=by
  rw[<-List.reverse_append,List.takeWhile_append_dropWhile,List.reverse_reverse]
 have hl:((out.reverse.dropWhile λj=>decide (f i<f j)).reverse).length=Xto f i out:=by rw[List.length_reverse];rfl
 have key:∀(A B l:List Nat) (k:Nat),l=A++B->A.length=k->l.take k=A/\l.drop k=B:=λA B l k h1 h2=>by
  subst h1;exact⟨List.take_left' h2,List.drop_left' h2⟩
 obtain⟨h1,h2⟩:=key _ _ _ _ h hl;rw[XhG,h1,h2]
theorem XkW(f:Nat->Int)(i:Nat)(out:List Nat):(XhG f i out).Perm (i::out):=by
 rw[XuU];refine List.perm_middle.trans ?_;rw[List.take_append_drop]
def ZJ(f:Nat->Int)(n:Nat):List Nat:=(List.range n).foldl (λout i=>XhG f i out) []
theorem Xm8(f:Nat->Int)(n:Nat):ZJ f (n+1)=XhG f n (ZJ f n):=by rw[ZJ,List.range_succ,List.foldl_append];rfl
theorem Xdq(f:Nat->Int):∀n,(ZJ f n).Perm (List.range n)
 |0=>List.Perm.refl _
 |n+1=>by
  rw[Xm8,List.range_succ];exact(XkW f n _).trans (((Xdq f n).cons n).trans (List.perm_append_singleton n _).symm)
theorem Xad(f:Nat->Int)(n:Nat):(ZJ f n).length=n:=by rw[(Xdq f n).length_eq,List.length_range]
theorem XkE(f:Nat->Int){n i:Nat}(h:i∈ZJ f n):i<n:=List.mem_range.1 ((Xdq f n).mem_iff.1 h)
end Go.Proofs.YtdcahhbipeaggaaGreatDoor
namespace Go.Proofs.YtdcahhbipeaggaaGreatDoor
open Go Go.Sort
theorem XrG(f:Nat->Int)(i y:Nat)(A:List Nat):XhG f i (A++[y])=if f i<f y then XhG f i A++[y] else A++[y,i]:=by
 unfold XhG;rw[List.reverse_append,List.reverse_singleton,List.singleton_append,List.dropWhile_cons,List.takeWhile_cons];by_cases h:f i<f y
 ·simp[h]
 ·simp[h]
theorem Xdy(f:Nat->Int)(i:Nat)(A:List Nat):(XhG f i A).length=A.length+1:=by rw[(XkW f i A).length_eq];rfl
section
variable {α:Type} [Inhabited α]
theorem Xh0{l:List α}{k:Nat}{x:α}(h:l[k]? =some x):l.toArray[k]! =x:=by
 obtain⟨hk,e⟩:=lgS h;rw[getElem!_pos _ k (by simpa using hk)];simpa using e
theorem Xut(A B:List α)(y x:α):swp (A++y::x::B).toArray (A.length+1) A.length=(A++x::y::B).toArray:=by
 have h1:(A++y::x::B).toArray[A.length]! =y:=Xh0 (by simp);have h2:(A++y::x::B).toArray[A.length+1]! =x:=Xh0 (by simp);rw[swp,h1,h2];apply Array.toList_inj.1;rw[Array.toList_setIfInBounds,Array.toList_setIfInBounds];simp
variable (f:α->Int) (hn:α->Nat) (f0:Nat->Int) (hf:∀x,f x=f0 (hn x))
 include hf in
theorem Xev:∀(n:Nat) (A:List α) (x:α) (B:List α),A.length=n->(insInner (λa b=>decide (f a<f b)) 0 n (A++x::B).toArray).toList.map hn=XhG f0 (hn x) (A.map hn)++B.map hn
 |0,A,x,B,h=>by
  have:A=[]:=List.eq_nil_of_length_eq_zero h;subst this;rw[insInner_stop _ _ _ _ (Or.inl nr)];rfl
 |n+1,A,x,B,h=>by
  obtain⟨A',y,rfl⟩:∃A' y,A=A'++[y]:=⟨A.dropLast,A.getLast (λe=>by rw[e] at h;simp at h),(List.dropLast_concat_getLast _).symm⟩
  have hA:A'.length=n:=by simpa using h
  have e:A'++[y]++x::B=A'++y::x::B:=by simp
  rw[e];have h1:(A'++y::x::B).toArray[n]! =y:=Xh0 (by subst hA;simp);have h2:(A'++y::x::B).toArray[n+1]! =x:=Xh0 (by subst hA;simp);rw[List.map_append,List.map_singleton,XrG,<-hf,<-hf];by_cases hl:f x<f y
  ·rw[insInner_go _ _ _ _ (by omega) (by rw[Nat.add_sub_cancel,h1,h2];exact decide_eq_true hl),Nat.add_sub_cancel,if_pos hl];have h3:=Xut A' B y x;rw[hA] at h3;rw[h3,Xev n A' x (y::B) hA];simp
  ·rw[insInner_stop _ _ _ _ (Or.inr (by rw[Nat.add_sub_cancel,h1,h2];exact decide_eq_false hl)),if_neg hl];simp
 include hf in
theorem Xeu:∀(k i:Nat) (L:List α),L.length=i+k->(insOuter (λa b=>decide (f a<f b)) 0 (i+k) i L.toArray).toList.map hn=((L.drop i).map hn).foldl (λout x=>XhG f0 x out) ((L.take i).map hn)
 |0,i,L,h=>by
  rw[insOuter_stop _ _ _ _ _ (by omega),List.drop_of_length_le (by omega),List.take_of_length_le (by omega)];rfl
 |k+1,i,L,h=>by
  rw[insOuter_go _ _ _ _ _ (by omega)];obtain⟨x,hx⟩:∃x,L[i]? =some x:=⟨_,lgE (show i<L.length by omega)⟩
  have hd:L.drop i=x::L.drop (i+1):=by
   obtain⟨hj,e⟩:=lgS hx;rw[List.drop_eq_getElem_cons hj,e]
  have hL:L=L.take i++x::L.drop (i+1):=by rw[<-hd,List.take_append_drop]
  have hA:(L.take i).length=i:=by rw[List.length_take];omega
  have h1:=Xev f hn f0 hf i (L.take i) x (L.drop (i+1)) hA;rw[<-hL] at h1;obtain⟨L',hC⟩:∃L':List α,insInner (λa b=>decide (f a<f b)) 0 i L.toArray=L'.toArray:=⟨_,(Array.toArray_toList (xs:=insInner (λa b=>decide (f a<f b)) 0 i L.toArray)).symm⟩
  rw[hC] at h1 ⊢;simp only at h1;have hl:L'.length=(i+1)+k:=by
   have:=congrArg List.length h1;rw[List.length_map,List.length_append,Xdy,List.length_map,List.length_map,hA,List.length_drop] at this;omega
  have h2:=Xeu k (i+1) L' hl;rw[show i+(k+1)=i+1+k by omega,h2,hd,List.map_cons,List.foldl_cons];have h3:(L'.drop (i+1)).map hn=(L.drop (i+1)).map hn:=by
   rw[List.map_drop,h1,List.drop_left' (by rw[Xdy,List.length_map,hA])]
  have h4:(L'.take (i+1)).map hn=XhG f0 (hn x) ((L.take i).map hn):=by
   rw[List.map_take,h1,List.take_left' (by rw[Xdy,List.length_map,hA])]
  rw[h3,h4]
end
def Ze(n:Nat):List (Fin n):=List.ofFn λi=>i
theorem XbM(n:Nat):(Ze n).length=n:=by simp[Ze]
theorem XeY(n:Nat):(Ze n).map (λi=>i.val)=List.range n:=by
 apply List.ext_getElem
 ·simp[Ze]
 ·intro i h1 h2;simp[Ze]
theorem Xfq(m:Nat)(f:Fin (m+1)->Int)(f0:Nat->Int)(hf:∀x,f x=f0 x.val):
 (insertionSort (λa b=>decide (f a<f b)) (Ze (m+1)).toArray 0 (m+1)).toList.map (λi=>i.val)=ZJ f0 (m+1):=by
 have h:=Xeu f (λi=>i.val) f0 hf m 1 (Ze (m+1)) (by rw[XbM];omega);rw[insertionSort];rw[show 1+m=m+1 by omega] at h;rw[show(0+1)=1 by rfl,h,List.map_drop,List.map_take,XeY,ZJ,List.range_succ_eq_map];rfl
end Go.Proofs.YtdcahhbipeaggaaGreatDoor
namespace Go.Proofs.YtdcahhbipeaggaaGreatDoor
open Go.RowKit
def XpW(m:Xw):Value:=.agg #[.string m.set,.int .i64 m.to,.int .i64 m.aK,.int .i64 m.rise,.int .i64 m.fall]
def XvC(q:Xn):Value:=.agg #[.string q.name,.string q.after,.int .i64 q.link,.int .i64 q.aL,.slice q.aD.A q.aD.l.length q.aD.cap,.int .i64 q.crew,.int .i64 q.power]
theorem XjP(A:Option Addr)(cap:Nat)(l:List Xw)(p:Xw->Bool)(g:Nat)(lb:Array Value)(eg:∀args w,(callFunc g args).run Tryz.prog w=.ok (.enter g args) w)(W:World)(B:Nat)(hB:B<=W.heap.size)(hs:XA W B 5 Xw.cells ⟨A,cap,l⟩)
 (hp:Zn Tryz.prog g lb XpW p W.heap.size W l):
 Calls Tryz.prog 122 #[.slice A l.length cap,.func (.func g) #[] lb] W (Xc W (.int .i64 (idx p l))):=by
 have HS:=Xa hs;have HP:=Xa hp;have hm:cap<=9223372036854775807:=hs.2.1;have hH:l.length<=cap:=hs.1;clear hs hp;go_enter Tryz.func122,Tryz.ntmps122;go_wp2;go_loopw [8] (λv wr=>∃k:Nat,v=.int .i64 k/\k<=l.length/\Hid (∀j y,j<k->l[j]? =some y->p y=false)/\∃x:Xb W.heap.size W,wr=x.val) (λv _=>l.length-(intOf v).toNat)
 case atStart=>exact⟨0,rfl,Nat.zero_le _,λj y hj=>absurd hj (by omega),Xb.refl _ _,rfl⟩
 case round=>
  obtain⟨k,rfl,hk,hD,x,rfl⟩:=hrel;by_cases hE:k<l.length
  ·obtain⟨b,off,hA,hb,hC⟩:=HS.out.2.2 (show 0<l.length by omega);simp only at hA;subst hA;have hx:l[k]? =some l[k]:=lgE hE;have he:=λx:Xb W.heap.size W=>Xw.elem hx (show b<W.heap.size by omega) hC x;have HC:=Xa hC;have HX:=Xa hx;clear hC hx;cases hG:p l[k]
   ·go_wp2_with fail;refine(Xc.after nr (HP.out x l[k] (List.getElem_mem hE))).mono ?_;rintro e w' ⟨rfl,x,rfl⟩;go_wp2;exact⟨⟨k+1,by go_num,by omega,Qw hD.out HX.out hG,_,rfl⟩,by simp[intOf];omega⟩
   ·go_wp2_with fail;refine(Xc.after nr (HP.out x l[k] (List.getElem_mem hE))).mono ?_;rintro e w' ⟨rfl,x,rfl⟩;go_wp2;go_ret;exact Xc.mk (congrArg (Value.int IntKind.i64) (QU HX.out hG hD.out).symm) x.below
  ·go_wp2;go_ret;exact Xc.mk (congrArg (Value.int IntKind.i64) (JF λj y hj hy=>hD.out j y (by omega) hy).symm) x.below
theorem XgO(A:Option Addr)(cap:Nat)(l:List Xw)(p:Xw->Bool)(g:Nat)(lb:Array Value)(eg:∀args w,(callFunc g args).run Tryz.prog w=.ok (.enter g args) w)(W:World)(B:Nat)(hB:B<=W.heap.size)(hs:XA W B 5 Xw.cells ⟨A,cap,l⟩)
 (hp:Zn Tryz.prog g lb XpW p W.heap.size W l):
 Calls Tryz.prog 68 #[.slice A l.length cap,.func (.func g) #[] lb] W (Xc W (.bool (l.any p))):=by
 have HS:=Xa hs;have HP:=Xa hp;clear hs hp;go_enter Tryz.func68,Tryz.ntmps68;go_wp2_with fail;refine(Xc.first (XjP _ _ l p g lb eg W B hB HS.out HP.out)).mono ?_;rintro e w' ⟨rfl,x,rfl⟩;go_wp2;go_ret;exact Xc.mk (congrArg Value.bool (Zh p l)) x.below
theorem XfT(A:Option Addr)(cap:Nat)(l:List Xn)(p:Xn->Bool)(g:Nat)(lb:Array Value)(eg:∀args w,(callFunc g args).run Tryz.prog w=.ok (.enter g args) w)(W:World)(B:Nat)(hB:B<=W.heap.size)(hs:XA W B 7 Xn.cells ⟨A,cap,l⟩)
 (hp:Zn Tryz.prog g lb XvC p W.heap.size W l):
 Calls Tryz.prog 70 #[.slice A l.length cap,.func (.func g) #[] lb] W (Xc W (.int .i64 (idx p l))):=by
 have HS:=Xa hs;have HP:=Xa hp;have hm:cap<=9223372036854775807:=hs.2.1;have hH:l.length<=cap:=hs.1;clear hs hp;go_enter Tryz.func70,Tryz.ntmps70;go_wp2;go_loopw [8] (λv wr=>∃k:Nat,v=.int .i64 k/\k<=l.length/\Hid (∀j y,j<k->l[j]? =some y->p y=false)/\∃x:Xb W.heap.size W,wr=x.val) (λv _=>l.length-(intOf v).toNat)
 case atStart=>exact⟨0,rfl,Nat.zero_le _,λj y hj=>absurd hj (by omega),Xb.refl _ _,rfl⟩
 case round=>
  obtain⟨k,rfl,hk,hD,x,rfl⟩:=hrel;by_cases hE:k<l.length
  ·obtain⟨b,off,hA,hb,hC⟩:=HS.out.2.2 (show 0<l.length by omega);simp only at hA;subst hA;have hx:l[k]? =some l[k]:=lgE hE;have he:=λx:Xb W.heap.size W=>Xn.elem hx (show b<W.heap.size by omega) hC x;have HC:=Xa hC;have HX:=Xa hx;clear hC hx;cases hG:p l[k]
   ·go_wp2_with fail;refine(Xc.after nr (HP.out x l[k] (List.getElem_mem hE))).mono ?_;rintro e w' ⟨rfl,x,rfl⟩;go_wp2;exact⟨⟨k+1,by go_num,by omega,Qw hD.out HX.out hG,_,rfl⟩,by simp[intOf];omega⟩
   ·go_wp2_with fail;refine(Xc.after nr (HP.out x l[k] (List.getElem_mem hE))).mono ?_;rintro e w' ⟨rfl,x,rfl⟩;go_wp2;go_ret;exact Xc.mk (congrArg (Value.int IntKind.i64) (QU HX.out hG hD.out).symm) x.below
  ·go_wp2;go_ret;exact Xc.mk (congrArg (Value.int IntKind.i64) (JF λj y hj hy=>hD.out j y (by omega) hy).symm) x.below
def XcM(l:List Xn)(nm:ByteArray):Int:=idx (λq=>Xm q.name nm) l
theorem XnL:∀args w,(callFunc 120 args).run Tryz.prog w=.ok (.enter 120 args) w:=XZ Tryz.func120 (by kernel_rfl) rfl
theorem XsE(s:Xd)(nm:ByteArray)(nb:Nat)(w:World)(hn:nb<w.heap.size)(hc:w.cell? ⟨nb,0,none⟩=some (.string nm)):
 Calls Tryz.prog 120 #[.agg #[.string s.name,.int .i64 s.depth,.int .i64 s.low,.int .i64 s.high,.int .i64 s.length,.slice s.aG.A s.aG.l.length s.aG.cap,.int .i64 s.aM,.int .i64 s.aN,.int .i64 s.aI,.int .i64 s.most,.int .i64 s.aJ,.slice s.aF.A s.aF.l.length s.aF.cap,.slice s.aE.A s.aE.l.length s.aE.cap],.pointer (some ⟨nb,0,none⟩)] w (Xc w (.bool (Xm s.name nm))):=by
 have hC:∀o:Obj,(w.alloc o).cell? ⟨nb,0,none⟩=some (.string nm):=λo=>by rw[World.cell?_alloc_lt w o ⟨nb,0,none⟩ hn];exact hc
 go_enter Tryz.func120,Tryz.ntmps120;go_wp2;go_ret;exact Xc.mk rfl (brf.alloc nr _)
theorem Xfb(h:Xf)(nm:ByteArray)(w:World)(B:Nat)(hB:B<=w.heap.size)(hD:Xf.at_ w B h):
 Calls Tryz.prog 66 #[.agg #[.string h.name,.int .i64 h.aH,.slice h.aA.A h.aA.l.length h.aA.cap,.slice h.aB.A h.aB.l.length h.aB.cap],.string nm] w (Xc w (.int .i64 (YY h.aA.l nm))):=by
 obtain⟨W1,hE,hG,hH,_⟩:=bxhs w h;obtain⟨W2,hI,hL,hJ,hK⟩:=boxed W1 (.cells #[.string nm] 9);have hb:Below w.heap.size w W2:=hH.trans (hJ.mono (by omega));have hC:∀x:Xb W2.heap.size W2,x.val.cell? ⟨W1.heap.size,0,none⟩=some (.string nm):=λx=>x.cells hK (by omega) 0 _ rfl;have hM:w.heap.size+1<W2.heap.size:=by omega
 rw[hG] at hC;have HH:=Xa (hD.to (hb.mono hB) (Nat.le_trans hB (show w.heap.size<=W2.heap.size by omega)));have HW:=Xa (show W2=(w.alloc (.cells #[.string h.name,.int .i64 h.aH,.slice h.aA.A h.aA.l.length h.aA.cap,.slice h.aB.A h.aB.l.length h.aB.cap] 25)).alloc (.cells #[.string nm] 9) by rw[hI,hE]);clear hE hI hG hL hK hD hH hJ;go_enter Tryz.func66,Tryz.ntmps66;go_wp2_with fail;rw[<-HW.out];refine(Xc.first (XfS _ _ _ (λs=>Xm s.name nm) _ _ XnL W2 W2.heap.size nr HH.out.aA (λx e _=>by rw[XcA];exact XsE e nm _ x.val (Nat.lt_of_lt_of_le hM x.size) (hC x)))).mono ?_
 rintro e w' ⟨rfl,x,rfl⟩;go_wp2;go_ret;exact Xc.mk rfl (hb.trans (x.below.mono (by omega)))
theorem XhJ:∀args w,(callFunc 71 args).run Tryz.prog w=.ok (.enter 71 args) w:=XZ Tryz.func71 (by kernel_rfl) rfl
theorem Xmp(s:Xn)(nm:ByteArray)(nb:Nat)(w:World)(hn:nb<w.heap.size)(hc:w.cell? ⟨nb,0,none⟩=some (.string nm)):
 Calls Tryz.prog 71 #[.agg #[.string s.name,.string s.after,.int .i64 s.link,.int .i64 s.aL,.slice s.aD.A s.aD.l.length s.aD.cap,.int .i64 s.crew,.int .i64 s.power],.pointer (some ⟨nb,0,none⟩)] w (Xc w (.bool (Xm s.name nm))):=by
 have hC:∀o:Obj,(w.alloc o).cell? ⟨nb,0,none⟩=some (.string nm):=λo=>by rw[World.cell?_alloc_lt w o ⟨nb,0,none⟩ hn];exact hc
 go_enter Tryz.func71,Tryz.ntmps71;go_wp2;go_ret;exact Xc.mk rfl (brf.alloc nr _)
theorem XdG(A:Option Addr)(cap:Nat)(l:List Xn)(nm:ByteArray)(w:World)(B:Nat)(hB:B<=w.heap.size)(hs:XA w B 7 Xn.cells ⟨A,cap,l⟩):
 Calls Tryz.prog 24 #[.slice A l.length cap,.string nm] w (Xc w (.int .i64 (XcM l nm))):=by
 obtain⟨W,hW,hH,hD,hE⟩:=boxed w (.cells #[.string nm] 9);have hC:∀x:Xb W.heap.size W,x.val.cell? ⟨w.heap.size,0,none⟩=some (.string nm):=λx=>x.cells hE (by omega) 0 _ rfl;have hG:w.heap.size<W.heap.size:=by omega
 have HH:=Xa (hs.to (hD.mono hB) (Nat.le_trans hB (show w.heap.size<=W.heap.size by omega)));have HW:=Xa hW;clear hW hs hE;go_enter Tryz.func24,Tryz.ntmps24;go_wp2_with fail;rw[<-HW.out];refine(Xc.first (XfT _ _ _ (λs=>Xm s.name nm) _ _ XhJ W W.heap.size nr HH.out (λx e _=>by rw[XcA];exact Xmp e nm _ x.val (Nat.lt_of_lt_of_le hG x.size) (hC x)))).mono ?_;rintro e w' ⟨rfl,x,rfl⟩;go_wp2;go_ret;exact Xc.mk rfl (hD.trans (x.below.mono (by omega)))
theorem Xbl(n lo hi:Int)(w:World):Calls Tryz.prog 65 #[.int .i64 n,.int .i64 lo,.int .i64 hi] w (Xc w (.bool (Xg n lo hi))):=by
 go_enter Tryz.func65,Tryz.ntmps65;go_wp2
 all_goals
  go_ret;exact Xc.mk (congrArg Value.bool (by rw[Bool.eq_iff_iff];simp[Xg];omega)) brf
theorem Xdk(n lo hi:Int)(w:World):Calls Tryz.prog 121 #[.int .i64 n,.int .i64 lo,.int .i64 hi] w (Xc w (.bool (Xg n lo hi))):=by
 go_enter Tryz.func121,Tryz.ntmps121;go_wp2
 all_goals
  go_ret;exact Xc.mk (congrArg Value.bool (by rw[Bool.eq_iff_iff];simp[Xg];omega)) brf
def QI(m:Xw):Bool:=XF m.set&&Xg m.to (-1048576) 1048576&&Xg m.aK 1 8192&&Xg m.rise 1 16384&&Xg m.fall 1 16384
theorem Xel(m:Xw)(hm:m.set.size<=maxLen)(w:World):Calls Tryz.prog 67 #[.agg #[.string m.set,.int .i64 m.to,.int .i64 m.aK,.int .i64 m.rise,.int .i64 m.fall]] w (Xc w (.bool (QI m))):=by
 obtain⟨W,hW,hH,hC,hD⟩:=bxmv w m;have hc:=λy:Xb W.heap.size W=>Xw.boxed hD (by omega) y;have hE:=bdo hC;have hI:=hc (Xb.refl _ _);simp only[Xb.refl] at hI;have HW:=Xa hW;have hG:=Xa hE;clear hW hH hC hD hE;unfold QI;go_enter Tryz.func67,Tryz.ntmps67;cases h1:XF m.set
 ·go_wp2_with (go_at_call 61;rw[<-HW.out];refine(Xc.first (XK _ _ hm)).mono ?_;rintro e w' ⟨rfl,y,rfl⟩;rw[h1])
  go_ret;exact Xc.mk rfl (hG.out y)
 cases h2:Xg m.to (-1048576) 1048576
 all_goals cases h3:Xg m.aK 1 8192
 all_goals cases h4:Xg m.rise 1 16384
 all_goals
  go_wp2_with (first
   |(go_at_call 61;rw[<-HW.out];refine(Xc.first (XK _ _ hm)).mono ?_;rintro e w' ⟨rfl,y,rfl⟩;rw[h1])
   |(go_at_call 121;refine(Xc.after nr (Xdk _ _ _ _)).mono ?_;rintro e w' ⟨rfl,y,rfl⟩;first|rw[h2]|rw[h3]|rw[h4]|skip))
  go_ret;exact Xc.mk (by simp) (hG.out _)
end Go.Proofs.YtdcahhbipeaggaaGreatDoor
