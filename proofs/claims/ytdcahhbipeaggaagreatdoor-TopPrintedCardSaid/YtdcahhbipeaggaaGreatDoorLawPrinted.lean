/- Lemmas for TopPrinted: RepPlain, DrawPlain, LawPrinted. -/
import Derived.Test.YtdcahhbipeaggaaGreatDoorRepHouse
import Derived.Test.YtdcahhbipeaggaaGreatDoorDraw
import Derived.Test.YtdcahhbipeaggaaGreatDoorSecDraw
import Derived.Test.YtdcahhbipeaggaaGreatDoorSecDrawBad
import Derived.Test.YtdcahhbipeaggaaGreatDoorLoadAwake
set_option maxRecDepth 100000
set_option maxHeartbeats 16000000
namespace Go.Proofs.YtdcahhbipeaggaaGreatDoor
open Go.RowKit
def Yi.up(p:Yi):Xd:=⟨p.name,p.depth,p.low,p.high,p.length,⟨none,0,p.aG⟩,p.aM,p.aN,p.aI,p.most,p.aJ,⟨none,0,p.aF⟩,⟨none,0,p.aE⟩⟩
def Xl.up(h:Xl):Xf:=⟨h.name,h.aH,⟨none,0,h.aA.map Yi.up⟩,⟨none,0,h.aB⟩⟩
def JQ(s:Xd):Xd:=s.pl.up
theorem XoG(s:Xd):Js (JQ s)=Js s:=rfl
theorem XmU(l:List Xd)(os:List Nat):Zp (l.map JQ) os=Zp l os:=by
 have e:Xbx (l.map JQ)=Xbx l:=by
  funext i
  unfold Xbx;rw[List.getElem?_map];cases l[i]? with
  |none=>rfl
  |some s=>exact congrArg Xaz (XoG s)
 unfold Zp;rw[e]
theorem XkN(l:List Xd):Zf (l.map JQ)=Zf l:=by
 unfold Zf;rw[List.map_map];rfl
theorem XvO(l:List Xd):dep (l.map JQ)=dep l:=by
 funext k
 unfold dep;rw[List.map_map];rfl
theorem XfY(h:Xf):Jh h.pl.up=Jh h:=by
 have hs:h.pl.up.aA.l=h.aA.l.map JQ:=by
  show(h.aA.l.map Xd.pl).map Yi.up=_;rw[List.map_map];rfl
 have hr:h.pl.up.aB.l=h.aB.l:=rfl;have hb:XdK h.pl.up↔XdK h:=by
  unfold XdK;rw[hs,hr,XkN];refine and_congr ⟨λk s m=> ?_,λk s m=> ?_⟩ Iff.rfl
  ·exact k (JQ s) (List.mem_map.2 ⟨s,m,rfl⟩)
  ·obtain⟨t,ht,rfl⟩:=List.mem_map.1 m;exact k t ht
 have hl:XaT h.pl.up=XaT h:=by
  by_cases h1:XdK h
  ·rw[XbP h1,XbP (hb.2 h1),hs,hr,XkN]
  ·rw[XcR h1,XcR λh2=>h1 (hb.1 h2)]
 unfold Jh;rw[hl,hs,XmU,XvO,List.length_map];rfl
theorem Xl7{h g:Xf}(e:g.pl=h.pl):Jh g=Jh h:=by rw[<-XfY g,<-XfY h,e]
end Go.Proofs.YtdcahhbipeaggaaGreatDoor
namespace Go.Proofs.YtdcahhbipeaggaaGreatDoor
open Go.RowKit
theorem Xkv(l:List Xd)(sc:Int):ZI (l.map JQ) sc=ZI l sc:=by unfold ZI;rw[List.foldl_map];rfl
theorem Xk7(l:List Xd)(sc:Int):ZZ (l.map JQ) sc=ZZ l sc:=by unfold ZZ;rw[List.foldl_map];rfl
theorem Xs1(l:List Xd)(sc:Int)(r c:Nat):ZF (l.map JQ) sc r c=ZF l sc r c:=by unfold ZF;rw[List.foldl_map];rfl
theorem Xdl(l:List Xd)(sc:Int)(C:Nat):∀R,Yy (l.map JQ) sc C R=Yy l sc C R
 |0=>rfl
 |R+1=>by
  have e:Qr (l.map JQ) sc R C=Qr l sc R C:=by
   unfold Qr;simp only[Xs1]
  show Yy (l.map JQ) sc C R++Qr (l.map JQ) sc R C++[10]=_;rw[Xdl l sc C R,e];rfl
theorem XnH(l:List Xd)(sc:Int):JH (l.map JQ) sc=JH l sc:=by unfold JH;rw[List.foldl_map];rfl
theorem XhV(l:List Xd)(k:Nat):Xgv (l.map JQ) k=JQ (Xgv l k):=by
 unfold Xgv;rw[List.getElem?_map];cases l[k]? <;>rfl
theorem XeS(l:List Xd)(tr:List Int)(sc H:Int)(C:Nat):∀R,ZH (l.map JQ) tr sc H C R=ZH l tr sc H C R
 |0=>rfl
 |R+1=>by
  have e1:∀r c,Xb4 (l.map JQ) tr sc H r c=Xb4 l tr sc H r c:=λr c=>by funext v k;unfold Xb4;rw[XhV];rfl
  have e2:∀r c,J3 (l.map JQ) tr sc H r c=J3 l tr sc H r c:=λr c=>by funext v k;unfold J3;rw[XhV];rfl
  have e3:∀r c,XbY (l.map JQ) tr sc H r c=XbY l tr sc H r c:=λr c=>by funext v k;unfold XbY;rw[XhV];rfl
  have e:Zq (l.map JQ) tr sc H R C=Zq l tr sc H R C:=by
   unfold Zq Xfy Xcy XaF Qz JA;simp only[e1,e2,e3,List.length_map]
  show ZH (l.map JQ) tr sc H C R++Zq (l.map JQ) tr sc H R C++[10]=_;rw[XeS l tr sc H C R,e];rfl
theorem Xkj(l:List Xd)(tr:List Int):ZG (l.map JQ) tr=ZG l tr:=by
 have e:Jp (l.map JQ) tr=Jp l tr:=by
  funext k
  unfold Jp;rw[XhV];rfl
 unfold ZG;rw[e,List.length_map]
theorem Xkt{h g:Xf}(e:g.pl=h.pl):g.aA.l.map JQ=h.aA.l.map JQ/\g.aH=h.aH:=by
 have e1:g.aA.l.map Xd.pl=h.aA.l.map Xd.pl:=congrArg Xl.aA e;have e2:=congrArg (List.map Yi.up) e1;rw[List.map_map,List.map_map] at e2;exact⟨e2,congrArg Xl.aH e⟩
theorem Xr2(h:Xf)(hh:Xv h=true)(sc:Int):∃(t:ByteArray) (n:Int),∀g:Xf,g.ok->Xv g=true->g.pl=h.pl->∀(w:World) (B:Nat),B<=w.heap.size->Xf.at_ w B g->
 Calls Tryz.prog 14 #[.agg #[.string g.name,.int .i64 g.aH,.slice g.aA.A g.aA.l.length g.aA.cap,.slice g.aB.A g.aB.l.length g.aB.cap],.int .i64 sc] w (Xc w (.tuple #[.string t,.int .i64 n])):=by
 have key:∀g:Xf,g.pl=h.pl->ZI g.aA.l sc=ZI h.aA.l sc/\ZZ g.aA.l sc=ZZ h.aA.l sc/\∀C R,Yy g.aA.l sc C R=Yy h.aA.l sc C R:=λg e=>by
  have:=(Xkt e).1;refine⟨?_,?_,λC R=> ?_⟩
  ·rw[<-Xkv g.aA.l,this,Xkv]
  ·rw[<-Xk7 g.aA.l,this,Xk7]
  ·rw[<-Xdl g.aA.l,this,Xdl]
 have hE:∀g:Xf,Xv g=true->Yo g sc=Yo h sc:=λg hg=>by unfold Yo;rw[hg,hh]
 by_cases h0:Yo h sc=0
 ·by_cases hf:400<ZI h.aA.l sc\/400<ZZ h.aA.l sc
  ·exact⟨_,_,λg gok gv e w B hB hD=>Xr4 g gok sc ((hE g gv).trans h0) (by rw[(key g e).1,(key g e).2.1];exact hf) w B hB hD⟩
  ·have hr0:∀(l:List Xd) (f:Xd->Int) (m:Int),0<=m->0<=l.foldl (λm s=>max m (f s)) m:=λl f=>by
    induction l with
    |nil=>exact λm hm=>hm
    |cons s l ih=>exact λm hm=>ih _ (show 0<=max m (f s) by omega)
   have a1:0<=ZI h.aA.l sc:=hr0 _ _ 0 (by omega);have a2:0<=ZZ h.aA.l sc:=hr0 _ _ 0 (by omega);obtain⟨R,hR⟩:∃R:Nat,ZI h.aA.l sc=(R:Int):=⟨(ZI h.aA.l sc).toNat,by omega⟩
   obtain⟨C,hC⟩:∃R:Nat,ZZ h.aA.l sc=(R:Int):=⟨(ZZ h.aA.l sc).toNat,by omega⟩
   refine⟨⟨(Yy h.aA.l sc C R).toArray⟩,0,λg gok gv e w B hB hD=> ?_⟩;obtain⟨k1,k2,k3⟩:=key g e;have:=Xr3 g gok sc ((hE g gv).trans h0) R C (k1.trans hR) (k2.trans hC) (by omega) (by omega) w B hB hD;rw[k3] at this;exact this
 ·refine⟨⟨#[]⟩,Yo h sc,λg gok gv e w B hB hD=> ?_⟩;have:=XtU g gok sc (by rw[hE g gv];exact h0) w B hB hD;rw[hE g gv] at this;exact this
theorem Xlw(h:Xf)(hh:Xv h=true)(tr:List Int)(sc:Int):∃(t:ByteArray) (n:Int),∀g:Xf,g.ok->Xv g=true->g.pl=h.pl->∀T:Sl Int,T.l=tr->∀(w:World) (B:Nat),B<=w.heap.size->Xf.at_ w B g->XA w B 1 Xj T->
 Calls Tryz.prog 16 #[.agg #[.string g.name,.int .i64 g.aH,.slice g.aA.A g.aA.l.length g.aA.cap,.slice g.aB.A g.aB.l.length g.aB.cap],.slice T.A T.l.length T.cap,.int .i64 sc] w (Xc w (.tuple #[.string t,.int .i64 n])):=by
 have key:∀g:Xf,g.pl=h.pl->YI g sc=YI h sc/\YJ g sc=YJ h sc/\ZG g.aA.l tr=ZG h.aA.l tr/\∀H C R,ZH g.aA.l tr sc H C R=ZH h.aA.l tr sc H C R:=λg e=>by
  obtain⟨e1,e2⟩:=Xkt e;refine⟨?_,?_,?_,λH C R=> ?_⟩
  ·unfold YI;rw[e2]
  ·unfold YJ;rw[<-XnH g.aA.l,e1,XnH]
  ·rw[<-Xkj g.aA.l,e1,Xkj]
  ·rw[<-XeS g.aA.l,e1,XeS]
 have hG:∀g:Xf,Xv g=true->g.pl=h.pl->XaZ g sc=XaZ h sc:=λg hg e=>by
  obtain⟨k1,k2,-⟩:=key g e;unfold XaZ;rw[hg,hh,k1,k2]
 by_cases h0:XaZ h sc=0
 ·by_cases ht:ZG h.aA.l tr=0
  ·obtain⟨b1,b2,b3,b4⟩:=Xip h0;obtain⟨R,hR⟩:∃R:Nat,YI h sc=(R:Int):=⟨(YI h sc).toNat,by omega⟩
   obtain⟨C,hC⟩:∃R:Nat,YJ h sc=(R:Int):=⟨(YJ h sc).toNat,by omega⟩
   refine⟨⟨(ZH h.aA.l tr sc ((R:Int)-1) C R).toArray⟩,0,λg gok gv e T hT w B hB hE hD=> ?_⟩;obtain⟨k1,k2,k3,k4⟩:=key g e;have:=Xlx g gok T sc ((hG g gv e).trans h0) (by rw[hT,k3];exact ht) R C (k1.trans hR) (k2.trans hC) w B hB hE hD;rw[hT] at this ⊢;rw[k4] at this;exact this
  ·refine⟨⟨#[]⟩,ZG h.aA.l tr,λg gok gv e T hT w B hB hE hD=> ?_⟩;obtain⟨k1,k2,k3,k4⟩:=key g e;have:=Xju g gok T sc ((hG g gv e).trans h0) (by rw[hT,k3];exact ht) w B hB hE hD;rw[hT,k3] at this;rw[hT];exact this
 ·refine⟨⟨#[]⟩,XaZ h sc,λg gok gv e T hT w B hB hE hD=> ?_⟩;have:=Xjv g gok T sc (by rw[hG g gv e];exact h0) w B hB hE;rw[hG g gv e] at this;exact this
end Go.Proofs.YtdcahhbipeaggaaGreatDoor
namespace Go.Proofs.YtdcahhbipeaggaaGreatDoor
open Go Go.RowKit
theorem XiU{h:Xf}(hs:Ys h 6=true):h.aA.l.length<=6:=by
 simp only[Ys,YU,bae,decide_eq_true_eq] at hs;omega
theorem Xqh{S:List Yi}{Q:List XW}{u:World}{R:Sl (Sl Int)}(h1:XA u u.heap.size 1 Xbv R)(h2:R.l.map (·.l)=XaW S Q Q.length)(h3:∀r∈R.l,Y9 u r):
 R.l.length=Q.length+1/\∃(b off:Nat) (T:Sl Int),R.A=some ⟨b,off,none⟩/\b<u.heap.size/\T.l=JT S Q Q.length/\u.cell? ⟨b,off+Q.length,none⟩=some (.slice T.A T.l.length T.cap)/\XA u u.heap.size 1 Xj T:=by
 have hl:R.l.length=Q.length+1:=by
  have h:=congrArg List.length h2;simpa[XaW] using h
 refine⟨hl,?_⟩;obtain⟨b,off,hA,hb,hc⟩:=h1.2.2 (by omega);obtain⟨T,hT⟩:∃T,R.l[Q.length]? =some T:=⟨R.l[Q.length],lgE (by omega)⟩
 have hC:T.l=JT S Q Q.length:=by
  have h:=congrArg (λl=>l[Q.length]?) h2;simp only[List.getElem?_map,hT,XaW,Option.map_some] at h;rw[List.getElem?_range (by omega)] at h;simpa using h
 have h5:=hc _ _ hT 0 _ rfl;simp only[Nat.mul_one,Nat.add_zero] at h5;exact⟨b,off,T,hA,hb,hC,h5,(h3 T (lmg hT)).slAt⟩
theorem Xic(h:Xf)(s:Xq)(pQ:h.ok)(sok:s.ok)(G:Sl Int)(sc:Int)(w:World)(ht:Xch w)(qP:Xf.at_ w w.heap.size h)(sat:Xq.at_ w w.heap.size s)(Gat:XA w w.heap.size 1 Xj G):
 Calls Tryz.prog 3 #[.agg #[.string h.name,.int .i64 h.aH,.slice h.aA.A h.aA.l.length h.aA.cap,.slice h.aB.A h.aB.l.length h.aB.cap],.agg #[.slice s.aC.A s.aC.l.length s.aC.cap,.slice s.apart.A s.apart.l.length s.apart.cap],.slice G.A G.l.length G.cap,.int .i64 sc] w (Xc w (.bool true)):=by
 obtain⟨W1,qQ,rL,hQ,qR⟩:=bxhs w h;obtain⟨W,qS,sF,hL,pR⟩:=bxsh W1 s;have hb:Below w.heap.size w W:=hQ.trans (hL.mono (by omega));have hR:=(hL.block _ (by omega)).trans qR;rw[rL] at pR;have hc:=λy:Xb W.heap.size W=>And.intro (Xf.boxed hR (by omega) y) (Xq.boxed pR (by omega) y);have qT:=bdo hb;have pY:w.heap.size<=W.heap.size:=by omega
 have hI:=qP.to hb pY;have satW:=sat.to hb pY;have GatW:=Gat.to hb pY;have pS:=ht.below hb;have KA:=Xa (Xc.first (Xt6 W pS.1));have KS:=Xa (λy:Xb W.heap.size W=>Xc.after (x:=y) nr (XfA h 6 (by decide) (by decide) y.val W.heap.size y.size (hI.to y.below nr)));have KF:=Xa (λy:Xb W.heap.size W=>Xee s y.val W.heap.size y.size (satW.to y.below nr));have KC:=Xa (λ(pZ:∀q∈s.aC.l,q.aD.l.length<=20) (y:Xb W.heap.size W)=>Xc.after (x:=y) nr (XcP h s pQ sok (λq hq=>Nat.le_trans (pZ q hq) (by decide)) y.val W.heap.size y.size (hI.to y.below nr) (satW.to y.below nr)))
 have KT:=Xa (λ(pZ:∀q∈s.aC.l,q.aD.l.length<=20) (y:Xb W.heap.size W)=>Xc.after (x:=y) nr (XqG h s pQ sok (λq hq=>Nat.le_trans (pZ q hq) (by decide)) y.val (pS.below y.below).1 W.heap.size y.size (hI.to y.below nr) (satW.to y.below nr)));have qB:=Xa (And.intro hI (And.intro satW GatW));have qU:=Xa pS;have pA:=Xa qT;have rM:=Xa hR;have rN:=Xa pR;have hU:=Xa (And.intro pQ sok);have HW:=Xa (show(w.alloc (.cells #[.string h.name,.int .i64 h.aH,.slice h.aA.A h.aA.l.length h.aA.cap,.slice h.aB.A h.aB.l.length h.aB.cap] 25)).alloc (.cells #[.slice s.aC.A s.aC.l.length s.aC.cap,.slice s.apart.A s.apart.l.length s.apart.cap] 29)=W by rw[<-qQ,<-qS])
 have sG:G.cap<=9223372036854775807:=Gat.2.1;have sH:G.l.length<=G.cap:=Gat.1;clear qQ qS hQ hL qR pR hR qP sat Gat hI satW GatW hb qT pQ sok ht pS;have rO:w.heap.size+1<W.heap.size:=by omega
 go_enter Tryz.func3,Tryz.ntmps3;go_upto_region 1 with fail;rw[HW.out];go_upto_region 3 with (go_at_call 4;refine KA.out.mono ?_;rintro e w' ⟨rfl,y,rfl⟩;have rP:=hc y)
 cases pT:Ys h 6
 ·rw[pT] at KS;go_wp2_with (go_at_call 5;refine(KS.out y).mono ?_;rintro e w' ⟨rfl,y2,rfl⟩)
  go_ret;exact Xc.mk rfl (pA.out y2)
 have rQ:=Xa (XiU pT);rw[pT] at KS;clear pT;go_wp2_with fail;refine(KS.out y).mono ?_;rintro e w' ⟨rfl,y2,rfl⟩;have qC:=hc y2;go_wp2_with fail;refine(KF.out y2).mono ?_;rintro e w2 ⟨r,rfl,qV,hJ⟩;obtain⟨z,hz⟩:∃z:Xb W.heap.size W,z.val=w2:=⟨⟨w2,y2.below.trans (qV.mono y2.size)⟩,rfl⟩
 rw[<-hz];have sJ:=hc z;clear qV hz rP qC;cases r
 ·go_wp2_with fail;go_ret;exact Xc.mk rfl (pA.out z)
 by_cases hG:20<(G.l.length:Int)
 ·go_wp2_with fail;go_ret;exact Xc.mk rfl (pA.out z)
 have pB:=Xa (hJ rfl);have pH:=Xa (KC.out pB.out.2 z);have rR:=Xa (KT.out pB.out.2);clear hJ KC KT KS KF KA;cases hv:Y5 h.pl s.pl
 ·rw[hv] at pH;go_wp2_with fail;refine pH.out.mono ?_;rintro e w' ⟨rfl,y3,rfl⟩;go_wp2_with fail;go_ret;exact Xc.mk rfl (pA.out y3)
 rw[hv] at pH;have qD:=Jd hv;have pI:Yn h.pl=true:=by
  simp only[Y5,bae] at hv;exact hv.1.1.1
 have pJ:=Xou qD;have HV:=Xa hv;have qW:=Xa pI;have sK:=Xa pJ;go_wp2_with fail;refine pH.out.mono ?_;rintro e w' ⟨rfl,y3,rfl⟩;have rS:=hc y3;have pU:=Xa (rR.out y3);rcases XmK h.pl s.pl with ⟨-,-,hl,hT⟩|hT|⟨qX,hT⟩|⟨-,sv2,hT⟩
 ·obtain⟨T,pC⟩:∃T:ByteArray,T=⟨(Xai h.pl s.pl).toArray⟩:=⟨_,rfl⟩
  have qE:bs T=Xai h.pl s.pl:=by rw[pC];exact Xv6 _
  have rT:T.size<=262144:=by rw[<-XO,qE];exact hl
  have qF:=XqM pI pJ;rw[<-qE] at qF;rw[hT,<-pC] at pU;have K4:=Xa (λ(x:World) (hx:Below W.heap.size W x)=>(show Calls Tryz.prog 9 #[.string T] x (Xaa x ((h.pl,s.pl),(0,0),0)) by rw[<-qF];exact Xq8 T rT x (qU.out.below hx)));clear qF pC qE hl hT qD pI pJ hv pH;go_wp2_with fail;refine pU.out.mono ?_;rintro e w' ⟨rfl,y4,rfl⟩;go_wp2_with fail;refine(K4.out y4.val y4.below).mono ?_;rintro e w3 ⟨qY,a1,s1,rfl,hA1,hV,hM,pD,hE,hK,hW⟩;simp only at hM pD;obtain⟨V,qZ,sL,qG,rU,rV,rB⟩:=Xvt w3 (.cells #[.string a1.name,.int .i64 a1.aH,.slice a1.aA.A a1.aA.l.length a1.aA.cap,.slice a1.aB.A a1.aB.l.length a1.aB.cap] 25 (0,0)) (.cells #[.slice s1.aC.A s1.aC.l.length s1.aC.cap,.slice s1.apart.A s1.apart.l.length s1.apart.cap] 29 (0,0)) (.cells #[.int .i64 0,.int .i64 0] 39 (0,0))
  have rW:Below y4.val.heap.size y4.val V:=qY.trans (qG.mono qY.size);have hN:Below W.heap.size W V:=y4.below.trans (rW.mono y4.size);have qH:=hN.size;have d1:V.heap[w.heap.size]? =_:=(hN.block w.heap.size (by omega)).trans rM.out;have d2:V.heap[w.heap.size+1]? =_:=(hN.block (w.heap.size+1) (by omega)).trans rN.out;have f1:=λx:Xb V.heap.size V=>Xf.boxed (h:=h) d1 (by omega) x;have f2:=λx:Xb V.heap.size V=>Xq.boxed (s:=s) d2 (by omega) x;have f3:=λx:Xb V.heap.size V=>Xf.boxed (h:=a1) rU (by omega) x;have f4:=λx:Xb V.heap.size V=>Xq.boxed (s:=s1) rV (by omega) x
  have f5:=λx:Xb V.heap.size V=>And.intro (x.cells rB (by omega) 0 _ rfl) (x.cells rB (by omega) 1 _ rfl);have fA:=λx:Xb V.heap.size V=>And.intro (f1 x) (And.intro (f2 x) (And.intro (f3 x) (f4 x)));have f0:=And.intro (fA (Xb.refl _ _)) (f5 (Xb.refl _ _));simp only[Xb.refl] at f0;have pE:=qB.out.1.to hN qH;have qI:=qB.out.2.1.to hN qH;have rC:=qB.out.2.2.to hN qH;have hC:=hA1.to qG (show w3.heap.size<=V.heap.size by omega);have hO:=hV.to qG (show w3.heap.size<=V.heap.size by omega);have pV:=qU.out.below hN;have pK:Xv h=true:=by rw[Zi];exact qW.out
  have qJ:Xv a1=true:=by rw[Zi,hM];exact qW.out
  have rX:h.aA.l.length<20:=by have:=rQ.out;omega
  have rY:a1.aA.l.length<20:=by
   have:=congrArg (λp:Xl=>p.aA.length) hM;simp only[Xf.pl,List.length_map] at this;omega
  have hH:s1.aC.l.length=s.aC.l.length:=by
   have:=congrArg (λp:Xp=>p.aC.length) pD;simpa[Xq.pl] using this
  have qK:Y5 a1.pl s1.pl=true:=by rw[hM,pD];exact HV.out
  have hJ:∀q∈s.aC.l,q.aD.l.length<=1000000:=λq hq=>Nat.le_trans (pB.out.2 q hq) (by decide);have R1:=Xa (Xc.first (Xjz a1 h hM V V.heap.size nr hC pE));have R2:=Xa (λx:Xb V.heap.size V=>Xc.after (x:=x) nr (Xjx s1 s pD x.val V.heap.size x.size (hO.to x.below nr) (qI.to x.below nr)));have R3:=Xa (λx:Xb V.heap.size V=>Xc.after (x:=x) nr (qK▸XcP a1 s1 hE hK hW x.val V.heap.size x.size (hC.to x.below nr) (hO.to x.below nr)));have R4:=Xa (λx:Xb V.heap.size V=>Xc.after (x:=x) nr (XfX h hU.out.1 pK rX x.val (pV.below x.below).1 (pE.to x.below x.size)))
  have R5:=Xa (λx:Xb V.heap.size V=>Xc.after (x:=x) nr (Xl7 hM▸XfX a1 hE qJ rY x.val (pV.below x.below).1 (hC.to x.below x.size)));have R6:=Xa (λx:Xb V.heap.size V=>Xc.after (x:=x) nr (Xfu h hU.out.1 s hU.out.2 hJ pB.out.1 HV.out G x.val (pV.below x.below).1 (pE.to x.below x.size) (qI.to x.below x.size) (rC.to x.below x.size)));have R7:=Xa (λx:Xb V.heap.size V=>Xc.after (x:=x) nr (Xfu a1 hE s1 hK hW (by rw[hH];exact pB.out.1) qK G x.val (pV.below x.below).1 (hC.to x.below x.size) (hO.to x.below x.size) (rC.to x.below x.size)))
  obtain⟨TA,rD⟩:∃A:ByteArray,A=⟨(Jh h).toArray⟩:=⟨_,rfl⟩
  rw[<-rD] at R4 R5;obtain⟨P6,qL⟩:∃A,A=Jc s.pl.aC (Jg h.pl.aA s.pl.aC s.aC.l.length) G.l:=⟨_,rfl⟩
  rw[<-qL] at R6;rw[show Jc s1.pl.aC (Jg a1.pl.aA s1.pl.aC s1.aC.l.length) G.l=P6 by rw[qL,hM,pD,hH]] at R7;obtain⟨TB,rE⟩:∃A:ByteArray,A=⟨P6.1.toArray⟩:=⟨_,rfl⟩
  obtain⟨nB,rF⟩:∃A,A=P6.2:=⟨_,rfl⟩
  rw[<-rE,<-rF] at R6 R7;have sM:=Xa hH;clear hH rD qL rE rF;obtain⟨t8,n8,hD⟩:=Xr2 h pK sc;have R8:=Xa (λx:Xb V.heap.size V=>Xc.after (x:=x) nr (hD h hU.out.1 pK rfl x.val V.heap.size x.size (pE.to x.below nr)));have R9:=Xa (λx:Xb V.heap.size V=>Xc.after (x:=x) nr (hD a1 hE qJ hM x.val V.heap.size x.size (hC.to x.below nr)));have R10:=Xa (λx:Xb V.heap.size V=>Xgr h hU.out.1 s hU.out.2 hJ HV.out x.val (pE.to x.below x.size) (qI.to x.below x.size));have R11:=Xa (λx:Xb V.heap.size V=>Xgr a1 hE s1 hK hW qK x.val (hC.to x.below x.size) (hO.to x.below x.size))
  rw[hM,pD] at R11;have rZ:=Xa qZ;clear qZ;go_upto_region 9 with fail;rw[<-rZ.out]
  go_upto_region 11 with (first
   |(go_at_call 10;refine R1.out.mono ?_;rintro e w' ⟨rfl,x1,rfl⟩;have g1:=fA x1)
   |(go_at_call 11;refine(R2.out x1).mono ?_;rintro e w' ⟨rfl,x2,rfl⟩;have g2:=fA x2)
   |(go_at_call 7;refine(R3.out x2).mono ?_;rintro e w' ⟨rfl,x3,rfl⟩;have g3:=fA x3))
  go_upto_region 12 with (go_at_call 12;refine(R4.out x3).mono ?_;rintro e w' ⟨rfl,x4,rfl⟩;have g4:=fA x4)
  go_upto_region 13 with (go_at_call 12;refine(R5.out x4).mono ?_;rintro e w' ⟨rfl,x5,rfl⟩;have g5:=fA x5)
  have pC:(TA.toList !=TA.toList)=false/\(TB.toList !=TB.toList)=false/\(t8.toList !=t8.toList)=false:=⟨by simp,by simp,by simp⟩
  have sA:(nB !=nB)=false/\(n8 !=n8)=false:=⟨by simp,by simp⟩
  go_upto_region 15 with fail;go_upto_region 16 with (go_at_call 13;refine(R6.out x5).mono ?_;rintro e w' ⟨rfl,x6,rfl⟩;have g6:=fA x6)
  go_upto_region 17 with (go_at_call 13;refine(R7.out x6).mono ?_;rintro e w' ⟨rfl,x7,rfl⟩;have g7:=fA x7)
  go_upto_region 19 with fail;go_upto_region 20 with (go_at_call 14;refine(R8.out x7).mono ?_;rintro e w' ⟨rfl,x8,rfl⟩;have g8:=fA x8)
  go_upto_region 21 with (go_at_call 14;refine(R9.out x8).mono ?_;rintro e w' ⟨rfl,x9,rfl⟩;have g9:=fA x9)
  go_upto_region 23 with fail;have sN:s.aC.l.length<=20:=pB.out.1;have rG:s.pl.aC.length=s.aC.l.length:=by simp[Xq.pl]
  have rH:=Xa rG;clear rG pC sA g1 g2 g3 g4 g5 g6 g7 g8 R1 R2 R3 R4 R5 R6 R7 R8 R9;go_wp2_with fail;refine(R10.out x9).mono ?_;rintro e u1 ⟨rI,⟨rA,rc,rl⟩,rfl,pL,pM,pN⟩;obtain⟨z1,sB⟩:∃z:Xb V.heap.size V,z.val=u1:=⟨⟨u1,x9.below.trans (rI.mono x9.size)⟩,rfl⟩
  subst sB;obtain⟨pW,b1,o1,T1,hA,hQ,pO,pF,hV⟩:=Xqh pL pM pN;simp only at hA pW;subst hA;rw[rH.out] at pW pF;simp only[pW];have g10:=fA z1;have rJ:=Xa (And.intro hQ (And.intro pO (And.intro pF hV)));clear rI pL pM pN hQ pO pF hV pW g9;go_wp2_with fail;refine(R11.out z1).mono ?_;rintro e u2 ⟨hP,⟨qA,qc,ql⟩,rfl,pL,pM,pN⟩;have qM:=hP;obtain⟨z2,sC⟩:∃z:Xb V.heap.size V,z.val=u2:=⟨⟨u2,z1.below.trans (hP.mono z1.size)⟩,rfl⟩
  subst sC;obtain⟨pX,b2,o2,T2,hA,hL,pP,hH,pG⟩:=Xqh pL pM pN;simp only at hA pX;subst hA;rw[rH.out] at pX hH;simp only[pX];have g11:=fA z2;have rK:=Xa (And.intro hP (And.intro hL (And.intro pP (And.intro hH pG))));clear hP qM pL pM pN hL pP hH pG pX g10;go_upto_region 27 with fail;obtain⟨t9,n9,qN⟩:=Xlw h pK (JT h.pl.aA s.pl.aC s.pl.aC.length) sc;obtain⟨hP,hL,pP,hH,pG⟩:=rK.out;obtain⟨hQ,pO,pF,hV⟩:=rJ.out;have hX:=z2.below;have hY:=hP.size;have k1:=(hP.cell hQ).trans pF;have j1:=hV.to hP hY;have j3:=pE.to hX z2.size;have j4:=hC.to hX z2.size
  obtain⟨Z,hZ⟩:∃Z,Z=z2.val:=⟨_,rfl⟩
  rw[<-hZ] at hX hY hL hH pG k1 j1 j3 j4 ⊢;rw[show Z=(Xb.refl Z.heap.size Z).val from rfl];have qO:b1<Z.heap.size:=by omega
  have fZ:=λy:Xb Z.heap.size Z=>And.intro (fA ⟨y.val,hX.trans (y.below.mono hX.size)⟩) (And.intro ((y.below.cell (p:=⟨b1,o1+s.aC.l.length,none⟩) qO).trans k1) ((y.below.cell (p:=⟨b2,o2+s.aC.l.length,none⟩) hL).trans hH));simp only at fZ;have fZ0:=fZ (Xb.refl _ _);simp only[Xb.refl] at fZ0;have sD:=Xa (λy:Xb Z.heap.size Z=>Xc.after (x:=y) nr (qN h hU.out.1 pK rfl T1 pO y.val Z.heap.size y.size (j3.to y.below nr) (j1.to y.below nr)));have sE:=Xa (λy:Xb Z.heap.size Z=>Xc.after (x:=y) nr (qN a1 hE qJ hM T2 pP y.val Z.heap.size y.size (j4.to y.below nr) (pG.to y.below nr)))
  have HF:=Xa (show Below w.heap.size w Z from pA.out ⟨Z,hN.trans (hX.mono hN.size)⟩);have sO:(0:Int)<=(s.aC.l.length:Int):=by omega
  have hx1:(s.aC.l.length:Int)<(s.aC.l.length:Int)+1:=by omega
  clear qN hP hL pP hH pG hQ pO pF hV hX hY k1 j1 j3 j4 hZ g11 rJ rK R10 R11;refine Xk (Xb.refl Z.heap.size Z) (by kernel_rfl) (by kernel_rfl) ?_
  repeat (go_big_quiet_step ((go_at_call 16;exact sD.out _)))
  refine wpQuiet_nil ?_;intro z3;have fz3:=fZ z3;go_upto_region 28 with fail;refine Xk z3 (by kernel_rfl) (by kernel_rfl) ?_
  repeat (go_big_quiet_step ((go_at_call 16;exact sE.out _)))
  refine wpQuiet_nil ?_;intro z4;have pC:(t9.toList==t9.toList)=true/\(n9==n9)=true:=⟨by simp,by simp⟩
  clear fZ fZ0 fz3;go_wp2_with fail;go_ret;exact Xc.mk rfl (HF.out.trans (z4.below.mono HF.out.size))
 ·rw[hT] at pU;clear qD pI pJ hT hv;go_wp2_with fail;refine pU.out.mono ?_;rintro e w' ⟨rfl,y4,rfl⟩;go_wp2_with fail;go_ret;exact Xc.mk rfl (pA.out y4)
 ·rw[pI] at qX;cases qX
 ·rw[pJ] at sv2;cases sv2
end Go.Proofs.YtdcahhbipeaggaaGreatDoor
