/- Lemmas for TopPrinted: CueValid. -/
import Derived.Test.YtdcahhbipeaggaaGreatDoorCueApart
set_option maxRecDepth 100000
set_option maxHeartbeats 16000000
namespace Go.Proofs.YtdcahhbipeaggaaGreatDoor
open Go.RowKit
def XN(l:List XW)(nm:ByteArray):Int:=idx (λq=>Xm q.name nm) l
theorem Xe8(l:List Xn)(nm:ByteArray):XcM l nm=XN (l.map Xn.pl) nm:=by unfold XcM XN;rw[Xl5];rfl
def Z4(l:List XW)(k:Nat):Nat:=((l.take k).map λq=>q.aD.length).sum
theorem XlP{l:List XW}{k:Nat}{q:XW}(h:l[k]? =some q):Z4 l (k+1)=Z4 l k+q.aD.length:=by
 unfold Z4;rw[List.take_add_one,h];simp
def Xe1(l:List XW)(i:Nat)(q:XW):Bool:=((q.link==1)==(q.after.toList==[]))&&((q.link==1)||decide (0<=XN (l.take i) q.after))
def XdH(S:List Yi)(l:List XW)(i:Nat)(q:XW):Bool:=decide (Z4 l (i+1)<=100)&&ZY S q&&decide (XN l q.name=(i:Int))&&Xe1 l i q
def Y5(h:Xl)(c:Xp):Bool:=Yn h&&decide (c.aC.length<=60)&&X8 (XdH h.aA c.aC) c.aC&&XbQ c
theorem XcP(h:Xf)(s:Xq)(pK:h.ok)(sok:s.ok)(pL:∀q∈s.aC.l,q.aD.l.length<=1000000)(w:World)(B:Nat)(hB:B<=w.heap.size)(pM:Xf.at_ w B h)(sat:Xq.at_ w B s):
 Calls Tryz.prog 7 #[.agg #[.string h.name,.int .i64 h.aH,.slice h.aA.A h.aA.l.length h.aA.cap,.slice h.aB.A h.aB.l.length h.aB.cap],.agg #[.slice s.aC.A s.aC.l.length s.aC.cap,.slice s.apart.A s.apart.l.length s.apart.cap]] w (Xc w (.bool (Y5 h.pl s.pl))):=by
 obtain⟨W1,pN,pO,pP,pQ⟩:=bxhs w h;obtain⟨W,pR,qF,pD,pE⟩:=bxsh W1 s;have hb:Below w.heap.size w W:=pP.trans (pD.mono (by omega));have hR:=(pD.block _ (by omega)).trans pQ;rw[pO] at pE;have pF:=λy:Xb W.heap.size W=>Xf.boxed hR (by omega) y;have hT:=λy:Xb W.heap.size W=>Xq.boxed pE (by omega) y;have pS:=bdo hb;have hL:=pM.to (hb.mono hB) (show B<=W.heap.size by omega)
 have satW:=sat.to (hb.mono hB) (show B<=W.heap.size by omega);have hsz:w.heap.size+1<W.heap.size:=by omega
 have HW:=Xa (show(w.alloc (.cells #[.string h.name,.int .i64 h.aH,.slice h.aA.A h.aA.l.length h.aA.cap,.slice h.aB.A h.aB.l.length h.aB.cap] 25)).alloc (.cells #[.slice s.aC.A s.aC.l.length s.aC.cap,.slice s.apart.A s.apart.l.length s.apart.cap] 29)=W by rw[<-pN,<-pR]);have hX:=Xa pS;have KV:=Yf h pK W W.heap.size nr hL;rw[Zi] at KV;have hZ:=Xa (Xc.first KV);have KA:=Xa (λy:Xb W.heap.size W=>Xc.after (x:=y) nr (Xmq s sok y.val W.heap.size y.size (satW.to y.below nr)));have KR:=Xa (λ(q:Xn) (hq:q∈s.aC.l) (Y:World) (hY:Below W.heap.size W Y)=>Xc.first (Xkw h q (sok.aC q hq) Y W.heap.size hY.size (hL.to hY nr) ((satW.each q hq).to hY nr)))
 obtain⟨S,hS⟩:∃S,S=h.aA.l.map Xd.pl:=⟨_,rfl⟩
 rw[<-hS] at KR;obtain⟨ao,pG⟩:∃ao,ao=XbQ s.pl:=⟨_,rfl⟩
 rw[<-pG] at KA;have hI:Y5 h.pl s.pl=(Yn h.pl&&decide ((s.aC.l.map Xn.pl).length<=60)&&X8 (XdH S (s.aC.l.map Xn.pl)) (s.aC.l.map Xn.pl)&&ao):=by rw[hS,pG];rfl
 rw[hI];obtain⟨hv,pT⟩:∃hv,hv=Yn h.pl:=⟨_,rfl⟩
 rw[<-pT] at hZ ⊢;have qG:=Xa pL;have hU:=Xa satW.aC;clear pN pR pO qF pP pD pQ pE hR hb pS pM sat hL satW pK sok KV hS pG hI pT pL;obtain⟨⟨cA,ccap,cl⟩,ap⟩:=s;simp only at*;have qO:ccap<=9223372036854775807:=hU.out.2.1;have qP:cl.length<=ccap:=hU.out.1;obtain⟨C,hC⟩:∃C,C=cl.map Xn.pl:=⟨_,rfl⟩
 have pU:C.length=cl.length:=by rw[hC,List.length_map]
 rw[<-hC];have pH:=Xa pU;have HC:=Xa hC;clear hC pU;have pV:=And.intro (pF (Xb.refl _ _)) (hT (Xb.refl _ _));simp only[Xb.refl] at pV;go_enter Tryz.func7,Tryz.ntmps7;go_upto_region 1 with fail;rw[HW.out];cases hv
 case false=>
  go_wp2_with (go_at_call 22;refine hZ.out.mono ?_;rintro e w' ⟨rfl,y,rfl⟩)
  go_ret;exact Xc.mk rfl (hX.out y)
 by_cases hlen:60<(cl.length:Int)
 ·go_wp2_with (go_at_call 22;refine hZ.out.mono ?_;rintro e w' ⟨rfl,y,rfl⟩;have pW:=hT y)
  go_ret;exact Xc.mk (congrArg Value.bool (by rw[pH.out,decide_eq_false (show ¬cl.length<=60 by omega)];rfl)) (hX.out y)
 go_wp2_with (go_at_call 22;refine hZ.out.mono ?_;rintro e w' ⟨rfl,y,rfl⟩;have pW:=hT y)
 go_loopw [5,20] (λu v wr=>∃k:Nat,u=.int .i64 (Z4 C k:Nat)/\v=.int .i64 k/\k<=cl.length/\Hid (Z4 C k<=100)/\Hid (YA (XdH S C) C k)/\∃x:Xb W.heap.size W,wr=x.val) (λ_ v _=>cl.length-(intOf v).toNat)
 case atStart=>exact⟨0,by simp[Z4],rfl,Nat.zero_le _,Xa (by simp[Z4]),YA.zero _ _,y,rfl⟩
 case round=>
  obtain⟨k,rfl,rfl,hk,qH,hM,x,rfl⟩:=hrel;by_cases pX:k<cl.length
  ·obtain⟨b,off,hA,hb,hJ⟩:=hU.out.2.2 (show 0<cl.length by omega);simp only at hA;subst hA;have hx:cl[k]? =some cl[k]:=lgE pX;have hN:=List.getElem_mem pX;have he:=λx:Xb W.heap.size W=>Xn.elem hx hb hJ x;obtain⟨Y,hY,pY,pZ,qA⟩:=boxed x.val (.cells #[.string cl[k].name,.string cl[k].after,.int .i64 cl[k].link,.int .i64 cl[k].aL,.slice cl[k].aD.A cl[k].aD.l.length cl[k].aD.cap,.int .i64 cl[k].crew,.int .i64 cl[k].power] 70);have pI:=λy:Xb Y.heap.size Y=>Xn.boxed qA (by omega) y;have hH:Below W.heap.size W Y:=x.below.trans (pZ.mono x.size)
   have hD:=hH.size;have pA:=λy:Xb Y.heap.size Y=>And.intro (pF ⟨y.val,hH.trans (y.below.mono hD)⟩) (hT ⟨y.val,hH.trans (y.below.mono hD)⟩);simp only at pA;have qI:=And.intro (pA (Xb.refl _ _)) (pI (Xb.refl _ _));simp only[Xb.refl] at qI;have hP:=Xa (show ∀y:Xb Y.heap.size Y,Below w.heap.size w y.val from λy=>hX.out ⟨y.val,hH.trans (y.below.mono hD)⟩);have K1:=Xa (KR.out cl[k] hN Y hH);have K2:=Xa (λ(nm:ByteArray) (y:Xb Y.heap.size Y)=>Xc.after (x:=y) nr (XdG (some ⟨b,off,none⟩) ccap cl nm y.val W.heap.size (Nat.le_trans hD y.size) (hU.out.to (hH.trans (y.below.mono hD)) nr)))
   have K3:=Xa (λ(nm:ByteArray) (y:Xb Y.heap.size Y)=>Xc.after (x:=y) nr (show Calls Tryz.prog 24 #[.slice (some ⟨b,off,none⟩) k ccap,.string nm] y.val (Xc y.val (.int .i64 (XcM (cl.take k) nm))) from by
    have c:=XdG (some ⟨b,off,none⟩) ccap (cl.take k) nm y.val W.heap.size (Nat.le_trans hD y.size) ((hU.out.to (hH.trans (y.below.mono hD)) nr).take k)
    rwa [show(cl.take k).length=k by rw[List.length_take];omega] at c))
   have pJ:C[k]? =some cl[k].pl:=by rw[HC.out,List.getElem?_map,hx];rfl
   have HX:=Xa pJ;have hO:=XlP pJ;have qB:cl[k].pl.aD.length=cl[k].aD.l.length:=rfl;rw[qB] at hO;have qQ:=qG.out cl[k] hN;have qJ:=qH.out;have hQ:=Xa (λ(hf:XdH S C k cl[k].pl=false)=>(show(true&&decide (C.length<=60)&&X8 (XdH S C) C&&ao)=false by rw[YP HX.out hf,Bool.and_false];rfl));have HY:=Xa hY;have qC:=Xa hH;have qR:=Xa pY;clear hx hJ hY qA pZ hH hN pF hT pW pV pJ qB pY;have qS:IntKind.i64.wrap ((Z4 C k:Int)+(cl[k].aD.l.length:Int))=(Z4 C k:Int)+(cl[k].aD.l.length:Int):=by rw[IntKind.wrap_i64];omega
   go_upto_region 7 with fail;rw[<-HY.out];by_cases qK:100<(Z4 C k:Int)+(cl[k].aD.l.length:Int)
   ·go_wp2_with fail;go_ret;exact Xc.mk (congrArg Value.bool (hQ.out (by rw[XdH,hO,decide_eq_false (by omega)];rfl)).symm) (hP.out (Xb.refl _ _))
   cases pB:ZY S cl[k].pl
   ·rw[pB] at K1;go_wp2_with (go_at_call 23;refine K1.out.mono ?_;rintro e w' ⟨rfl,y,rfl⟩)
    go_ret;exact Xc.mk (congrArg Value.bool (hQ.out (by rw[XdH,pB,Bool.and_false];rfl)).symm) (hP.out _)
   rw[pB] at K1;have K4:=Xa (K2.out cl[k].name);have e4:=Xe8 cl cl[k].name;rw[<-HC.out] at e4;rw[e4] at K4;obtain⟨F,hF⟩:∃F,F=XN C cl[k].name:=⟨_,rfl⟩
   rw[<-hF] at K4;clear e4;by_cases pC:F=(k:Int)
   case neg=>
    have qL:(F !=(k:Int))=true:=by simpa using pC
    have qM:(F==(k:Int))=false:=by simpa using pC
    have HF:=Xa hF;clear hF;go_wp2_with (first|(go_at_call 23;refine K1.out.mono ?_;rintro e w' ⟨rfl,y,rfl⟩;have qD:=And.intro (pA y) (pI y))|(go_at_call 24;refine(K4.out _).mono ?_;rintro e w' ⟨rfl,y2,rfl⟩))
    go_ret;exact Xc.mk (congrArg Value.bool (hQ.out (by rw[XdH,show cl[k].pl.name=cl[k].name from rfl,<-HF.out,decide_eq_false pC,Bool.and_false];rfl)).symm) (hP.out _)
   subst pC;have HF:=Xa hF;have qL:((k:Int) !=(k:Int))=false:=by simp
   clear hF;have e5:=Xe8 (cl.take k) cl[k].after;rw[List.map_take,<-HC.out] at e5;have K5:=Xa (K3.out cl[k].after);rw[e5] at K5;obtain⟨G,hG⟩:∃G,G=XN (C.take k) cl[k].after:=⟨_,rfl⟩
   rw[<-hG] at K5;have HG:=Xa hG;clear e5 hG;have hK:∀lb,Xe1 C k cl[k].pl=lb->XdH S C k cl[k].pl=lb:=λlb h=>by
    rw[XdH,hO,pB,show cl[k].pl.name=cl[k].name from rfl,<-HF.out,decide_eq_true (by omega),h];simp
   have hE:=Xa hK;clear hK;have hV:Xe1 C k cl[k].pl=(((cl[k].link==1)==(cl[k].after.toList==[]))&&((cl[k].link==1)||decide (0<=G))):=by rw[HG.out];rfl
   have hW:=Xa hV;clear hV;go_upto_region 10 with (first|(go_at_call 23;refine K1.out.mono ?_;rintro e w' ⟨rfl,y,rfl⟩;have qD:=And.intro (pA y) (pI y))|(go_at_call 24;refine(K4.out _).mono ?_;rintro e w' ⟨rfl,y2,rfl⟩))
   clear K1 K4 qD;cases e1:(cl[k].link==1)
   all_goals cases e2:(cl[k].after.toList==[])
   ·by_cases qE:G<0
    ·have qN:decide (G<0)=true:=by simp[qE]
     have e3:(cl[k].link !=1)=true:=by simpa using e1
     refine Xk y2 (by kernel_rfl) (by kernel_rfl) ?_
     repeat (go_big_quiet_step ((go_at_call 24;exact K5.out _)))
     refine wpQuiet_nil ?_;intro z;go_wp2_with fail;go_ret;exact Xc.mk (congrArg Value.bool (hQ.out (hE.out false (by rw[hW.out,e1,e2,decide_eq_false (by omega)];rfl))).symm) (hP.out _)
    ·have qN:decide (G<0)=false:=by simpa using qE
     have e3:(cl[k].link !=1)=true:=by simpa using e1
     refine Xk y2 (by kernel_rfl) (by kernel_rfl) ?_
     repeat (go_big_quiet_step ((go_at_call 24;exact K5.out _)))
     refine wpQuiet_nil ?_;intro z;go_wp2_with fail;exact⟨⟨k+1,by rw[hO];simp,by go_num,by omega,Xa (by rw[hO];omega),hM.out.next HX.out (hE.out true (by rw[hW.out,e1,e2,decide_eq_true (by omega)];rfl)),⟨z.val,qC.out.trans (z.below.mono hD)⟩,rfl⟩,by simp[intOf];omega⟩
   ·have e3:(cl[k].link !=1)=true:=by simpa using e1
    refine Xk y2 (by kernel_rfl) (by kernel_rfl) ?_
    repeat (go_big_quiet_step (fail))
    refine wpQuiet_nil ?_;intro z;go_wp2_with fail;go_ret;exact Xc.mk (congrArg Value.bool (hQ.out (hE.out false (by rw[hW.out,e1,e2];rfl))).symm) (hP.out _)
   ·have e3:(cl[k].link !=1)=false:=by simpa using e1
    refine Xk y2 (by kernel_rfl) (by kernel_rfl) ?_
    repeat (go_big_quiet_step (fail))
    refine wpQuiet_nil ?_;intro z;go_wp2_with fail;go_ret;exact Xc.mk (congrArg Value.bool (hQ.out (hE.out false (by rw[hW.out,e1,e2];rfl))).symm) (hP.out _)
   ·have e3:(cl[k].link !=1)=false:=by simpa using e1
    refine Xk y2 (by kernel_rfl) (by kernel_rfl) ?_
    repeat (go_big_quiet_step (fail))
    refine wpQuiet_nil ?_;intro z;go_wp2_with fail;exact⟨⟨k+1,by rw[hO];simp,by go_num,by omega,Xa (by rw[hO];omega),hM.out.next HX.out (hE.out true (by rw[hW.out,e1,e2];rfl)),⟨z.val,qC.out.trans (z.below.mono hD)⟩,rfl⟩,by simp[intOf];omega⟩
  ·go_wp2_with (go_at_call 25;refine(KA.out x).mono ?_;rintro e w' ⟨rfl,y,rfl⟩)
   go_ret;exact Xc.mk (congrArg Value.bool (by rw[hM.out.all (show C.length<=k by rw[pH.out];omega),pH.out,decide_eq_true (show cl.length<=60 by omega)];rfl)) (hX.out _)
end Go.Proofs.YtdcahhbipeaggaaGreatDoor
