/- Lemmas for TopPrinted: SrcFmt, SrcSmall. -/
import Derived.Test.YtdcahhbipeaggaaGreatDoorSrcTextW
import Derived.Test.YtdcahhbipeaggaaGreatDoorSrcRepl
set_option maxRecDepth 100000
set_option maxHeartbeats 16000000
namespace Go.Proofs.YtdcahhbipeaggaaGreatDoor
open Go Go.RowKit
theorem XqF(h:Xf)(s:Xq)(hH:h.ok)(sok:s.ok)(hn:(Xv h&&Jr s)=false)(hI:∀q∈s.aC.l,q.aD.l.length<=1000000)(w:World)(B:Nat)(hB:B<=w.heap.size)(hJ:Xf.at_ w B h)(sat:Xq.at_ w B s):
 Calls Tryz.prog 8 #[.agg #[.string h.name,.int .i64 h.aH,.slice h.aA.A h.aA.l.length h.aA.cap,.slice h.aB.A h.aB.l.length h.aB.cap],.agg #[.slice s.aC.A s.aC.l.length s.aC.cap,.slice s.apart.A s.apart.l.length s.apart.cap]] w (Xc w (.tuple #[.string ⟨#[]⟩,.int .i64 1])):=by
 obtain⟨W1,hK,hQ,hL,hM⟩:=bxhs w h;obtain⟨W,hN,hT,hE,hG⟩:=bxsh W1 s;have hb:Below w.heap.size w W:=hL.trans (hE.mono (by omega));have hC:=(hE.block _ (by omega)).trans hM;rw[hQ] at hG;have hc:=λy:Xb W.heap.size W=>And.intro (Xf.boxed hC (by omega) y) (Xq.boxed hG (by omega) y);have hR:=hc (Xb.refl _ _);simp only[Xb.refl] at hR
 have hO:=bdo hb;have hD:=hJ.to (hb.mono hB) (show B<=W.heap.size by omega);have satW:=sat.to (hb.mono hB) (show B<=W.heap.size by omega);have KV:=Xa (Xc.first (Yf h hH W W.heap.size nr hD));have KW:=Xa (λy:Xb W.heap.size W=>Xc.after (x:=y) nr (Xcl s sok y.val W.heap.size y.size (satW.to y.below nr) hI));have hP:=Xa hO;have HW:=Xa (show(w.alloc (.cells #[.string h.name,.int .i64 h.aH,.slice h.aA.A h.aA.l.length h.aA.cap,.slice h.aB.A h.aB.l.length h.aB.cap] 25)).alloc (.cells #[.slice s.aC.A s.aC.l.length s.aC.cap,.slice s.apart.A s.apart.l.length s.apart.cap] 29)=W by rw[<-hK,<-hN])
 clear hK hN hL hE hM hG hC hJ sat hD satW hb hO hH sok hI;cases hv:Xv h
 ·rw[hv] at KV;clear hv hn KW;go_enter Tryz.func8,Tryz.ntmps8;go_upto_region 1 with fail;rw[HW.out];go_wp2_with (go_at_call 22;refine KV.out.mono ?_;rintro e w' ⟨rfl,y,rfl⟩)
  go_ret2;exact Xc.mk rfl (hP.out y)
 ·have sv:Jr s=false:=by rw[hv] at hn;simpa using hn
  rw[hv] at KV;rw[sv] at KW;clear hv sv hn;go_enter Tryz.func8,Tryz.ntmps8;go_upto_region 1 with fail;rw[HW.out]
  go_wp2_with (first
   |(go_at_call 22;refine KV.out.mono ?_;rintro e w' ⟨rfl,y,rfl⟩;have hU:=hc y)
   |(go_at_call 26;refine(KW.out y).mono ?_;rintro e w' ⟨rfl,y2,rfl⟩))
  go_ret2;exact Xc.mk rfl (hP.out y2)
end Go.Proofs.YtdcahhbipeaggaaGreatDoor
namespace Go.Proofs.YtdcahhbipeaggaaGreatDoor
open Go Go.RowKit Go.Lib
theorem XfI:∀(k u:Nat),u<10^(k+1)->nDigits u<=k+1
 |0,u,h=>by rw[nDigits_small (by omega)];omega
 |k+1,u,h=>by
  by_cases hC:u<10
  ·rw[nDigits_small hC];omega
  ·rw[nDigits_big hC];have h2:=XfI k (u/10) (by rw[Nat.pow_succ] at h;omega);omega
theorem JX{n:Int}(h: -1000000000000000<n/\n<1000000000000000):Yl n:=by
 unfold Yl;rw[decDigits_length];exact XfI 14 n.natAbs (by omega)
theorem Xor{n a b:Int}(h1:a<=n)(h2:n<=b)(ha: -1000000000000000<a:=by omega)(hb:b<1000000000000000:=by omega):Yl n:=JX ⟨by omega,by omega⟩
theorem Xos{n:Int}(h:Yl n):(itoa n).length<=16:=by
 unfold Yl at h;by_cases hC:n<0
 ·rw[XfP hC,List.length_cons];omega
 ·obtain⟨m,rfl⟩:∃m:Nat,n=m:=⟨n.toNat,by omega⟩
  rw[XcJ];simp only[Int.natAbs_natCast] at h;omega
theorem Xbp{α:Type}{p:Nat->α->Bool}{l:List α}(h:X8 p l=true):∀x∈l,∃i,p i x=true:=by
 intro x hx;obtain⟨j,hj,e⟩:=List.getElem_of_mem hx;exact⟨j,XJ.1 h j x (by rw[lgE hj,e])⟩
theorem Xp1{s:Yi}(h:X0 s.d=true):s.fit/\s.aG.length<=10/\s.aF.length<=40/\s.aE.length<=8:=by
 simp only[X0,Ju,XbX,YC,YK,Yb,Xg,bae,decide_eq_true_eq] at h;simp only[Yi.d] at h;obtain⟨⟨⟨⟨⟨⟨⟨⟨⟨h1,h2⟩,h3⟩,h4⟩,h5⟩,h6⟩,⟨h7,hE⟩,h8⟩,⟨⟨⟨⟨h9,hG⟩,hH⟩,hI⟩,hJ⟩⟩,hK,hC⟩,⟨hL,hD⟩,hM⟩:=h;refine⟨⟨h1,?_,?_,?_,?_,?_⟩,by omega,by omega,by omega⟩
 ·intro n hn;simp only[List.mem_cons,List.not_mem_nil,or_false] at hn;rcases hn with rfl|rfl|rfl|rfl|rfl|rfl|rfl|rfl|rfl<;>exact JX ⟨by omega,by omega⟩
 ·intro e;rw[e] at h7;simp at h7
 ·intro n hn;obtain⟨i,hi⟩:=Xbp h8 n hn;simp only[Xdv,Xg,bae,decide_eq_true_eq] at hi;exact JX ⟨by omega,by omega⟩
 ·intro x hx;obtain⟨i,hi⟩:=Xbp hC x hx;simp only[JE,bae] at hi;obtain⟨a0,a1,a2,a3,a4,a5,a6⟩:=XaK.1 hi.1;simp only[Xg,bae,decide_eq_true_eq] at a1 a2 a3 a4 a5 a6;refine⟨a0,λn hn=> ?_⟩;simp only[List.mem_cons,List.not_mem_nil,or_false] at hn;rcases hn with rfl|rfl|rfl|rfl|rfl|rfl<;>exact JX ⟨by omega,by omega⟩
 ·intro x hx;obtain⟨i,hi⟩:=Xbp hD x hx;simp only[QD,J6,Xg,bae,decide_eq_true_eq] at hi;refine⟨hi.1.1.1,λn hn=> ?_⟩;simp only[List.mem_cons,List.not_mem_nil,or_false] at hn;rcases hn with rfl|rfl<;>exact JX ⟨by omega,by omega⟩
theorem XkY{h:Xl}(hv:Yn h=true):h.fit/\h.aB.length<=20/\h.aA.length<=60/\∀s∈h.aA,s.fit/\s.aG.length<=10/\s.aF.length<=40/\s.aE.length<=8:=by
 rw[Yn,Xv,bae] at hv;obtain⟨h1,h2,h3,h4,h5⟩:=Zj.1 hv.1;have hs:∀s∈h.aA,X0 s.d=true:=λs hs=>by
  obtain⟨i,hi⟩:=Xbp hv.2 s.d (List.mem_map.2 ⟨s,hs,rfl⟩);simp only[setAt,bae] at hi;exact hi.1.1
 have h6:h.aB.length<=20/\X8 (XbJ h.aB) h.aB=true:=by
  rw[Y6,bae,decide_eq_true_eq] at h5;exact h5
 have hD:(h.aA.map Yi.d).length<=60:=by
  have:((h.aA.map Yi.d).length:Int)<=60:=h4;omega
 rw[List.length_map] at hD;refine⟨⟨h1,Xor (show(1:Int)<=h.aH from h2) (show h.aH<=1048576 from h3),λx hx=> ?_,λs hC=>(Xp1 (hs s hC)).1⟩,h6.1,hD,λs hC=>Xp1 (hs s hC)⟩;obtain⟨i,hi⟩:=Xbp h6.2 x hx;simp only[XbJ,Xal,bae,decide_eq_true_eq] at hi;refine⟨hi.1.1.1.1.1.1,λn hn=> ?_⟩;simp only[List.mem_cons,List.not_mem_nil,or_false] at hn;rcases hn with rfl|rfl|rfl<;>exact JX ⟨by omega,by omega⟩
theorem Xkn{l:List Int}(h:l.all Zo=true):∀n∈l,Yl n:=λn hn=>by
 have h1:=List.all_eq_true.1 h n hn;simp only[Zo,bae,decide_eq_true_eq] at h1;exact JX h1
theorem Xnc{b:ByteArray}(h:b.toList=[]):b=⟨#[]⟩:=by
 have h2:bs b=[]:=h;have h3:=XO b;rw[h2] at h3;have h4:b.data.size=0:=h3.symm;obtain⟨d⟩:=b;simp only at h4;rw[Array.eq_empty_of_size_eq_zero h4]
theorem Xvb{q:XW}(h:Xfd q=true):q.fit:=by
 simp only[Xfd,ZP,Xav,bae,Bool.or_eq_true,beq_iff_eq] at h;obtain⟨⟨⟨h1,h2⟩,h3⟩,h4⟩:=h;refine⟨h1,?_,Xkn h3,λm hm=> ?_⟩
 ·rcases h2 with ⟨a,b⟩|⟨a,b⟩
  ·exact Or.inl ⟨a,Xnc b⟩
  ·exact Or.inr ⟨a,b⟩
 ·have h5:=List.all_eq_true.1 h4 m hm;rw[XbC,bae] at h5;exact⟨h5.1,Xkn h5.2⟩
theorem Xs9:∀{l:List Nat} {x:Nat},x∈l->x<=l.sum
 |a::l,x,h=>by
  rw[List.sum_cons];rcases List.mem_cons.1 h with rfl|h
  ·omega
  ·have:=Xs9 h;omega
theorem Xko{c:Xp}(h:YQ c=true):c.fit/\c.aC.length<=60/\c.apart.length<=1000/\∀q∈c.aC,q.aD.length<=100:=by
 simp only[YQ,bae,decide_eq_true_eq] at h;obtain⟨⟨⟨⟨h1,h2⟩,h3⟩,h4⟩,h5⟩:=h;refine⟨⟨λq hq=>Xvb (List.all_eq_true.1 h3 q hq),λx hx=> ?_⟩,h1,h2,λq hq=> ?_⟩
 ·have h6:=List.all_eq_true.1 h5 x hx;rw[Xb1,bae] at h6;exact h6
 ·have h6:q.aD.length<=(c.aC.map λq=>q.aD.length).sum:=Xs9 (List.mem_map.2 ⟨q,hq,rfl⟩);omega
theorem Xns:∀(l:List (List UInt8)),(∀w∈l,w.length<=20)->(Xc3 l).length<=21*l.length
 |[],_=>by simp[Xc3]
 |[w],h=>by
  have:=h w (by simp);simp only[Xc3,List.length_cons,List.length_nil];omega
 |w::v::l,h=>by
  have h1:=h w (by simp);have h2:=Xns (v::l) (λx hx=>h x (by simp[hx]));simp only[Xc3,List.length_append,List.length_cons] at h2 ⊢;omega
def Wd.le:Wd->Prop
 |.wd l=>l.length<=20
 |.num n=>Yl n
theorem Xno{ws:List Wd}(h:∀w∈ws,w.le)(hl:ws.length<=21):(Yv ws).length<=442:=by
 have h1:=Xns (ws.map wb) (λx hx=>by
  obtain⟨w,hw,rfl⟩:=List.mem_map.1 hx;have h2:=h w hw;cases w with
  |wd l=>exact h2
  |num n=>exact Nat.le_trans (Xos h2) (by decide))
 rw[List.length_map] at h1;unfold Yv;rw[List.length_append,List.length_singleton];omega
theorem Xf7{α β:Type}{f:α->List β}{K:Nat}:∀(l:List α),(∀x∈l,(f x).length<=K)->(l.flatMap f).length<=l.length*K
 |[],_=>by simp
 |x::l,h=>by
  have h1:=h x (by simp);have h2:=Xf7 l (λy hy=>h y (by simp[hy]));rw[List.flatMap_cons,List.length_append,List.length_cons,Nat.add_mul];omega
theorem XhW{b:ByteArray}(h:XF b=true):(XV b).le:=by
 have:Yw (bs b)=true:=h;simp only[Yw,bae,decide_eq_true_eq] at this;exact this.1.1.2
theorem XcH{ws:List Wd}{ns:List Int}(h:∀w∈ws,w.le)(hn:∀n∈ns,Yl n)(hl:ws.length+ns.length<=21):(Yv (ws++nums ns)).length<=442:=
 Xno (λw hw=>by
  rcases List.mem_append.1 hw with hw|hw
  ·exact h w hw
  ·obtain⟨n,hC,rfl⟩:=List.mem_map.1 hw
   exact hn n hC) (by rw[List.length_append,nums,List.length_map];exact hl)
theorem Xdd{a:List UInt8}{b:ByteArray}(ha:a.length<=20)(hb:XF b=true):∀w∈[Wd.wd a,XV b],w.le:=λw hw=>by
 simp only[List.mem_cons,List.not_mem_nil,or_false] at hw;rcases hw with rfl|rfl
 ·exact ha
 ·exact XhW hb
theorem Xsu{h:Xl}{c:Xp}(hv:Yn h=true)(sv:YQ c=true):(Xai h c).length<=5000000:=by
 obtain⟨hf,hr,hs,hD⟩:=XkY hv;obtain⟨cf,hc,ha,hm⟩:=Xko sv;have hN:(YT h c).length<=10021:=by
  have e1:(h.aA.flatMap Zb).length<=h.aA.length*49:=Xf7 _ (λs hC=>by
   obtain⟨_,_,h2,h3⟩:=hD s hC
   simp only[Zb,List.length_cons,List.length_append,List.length_map];omega)
  have e2:(c.aC.flatMap Y4).length<=c.aC.length*101:=Xf7 _ (λq hq=>by
   have:=hm q hq
   simp only[Y4,List.length_cons,List.length_map];omega)
  simp only[YT,List.length_cons,List.length_append,List.length_map];omega
 have hL:∀l∈YT h c,(Yv l).length<=442:=by
  intro l hl;simp only[YT,List.mem_cons,List.mem_append,List.mem_map,List.mem_flatMap,Zb,Y4] at hl;rcases hl with rfl|((⟨x,hx,rfl⟩|⟨s,hC,rfl|⟨x,hx,rfl⟩|⟨x,hx,rfl⟩⟩)|⟨q,hq,rfl|⟨m,hE,rfl⟩⟩)|⟨x,hx,rfl⟩
  ·exact XcH (ns:=[h.aH]) (Xdd (by decide) hf.name) (λn hn=>by rw[List.mem_singleton.1 hn];exact hf.aH) (by simp)
  ·exact XcH (ns:=[x.fro,x.til,x.most]) (Xdd (by decide) (hf.aB x hx).1) (hf.aB x hx).2 (by simp)
  ·obtain⟨sf,sl,-⟩:=hD s hC
   exact XcH (ns:=[s.depth,s.low,s.high,s.length,s.aM,s.aN,s.aI,s.most,s.aJ]++s.aG) (Xdd (by decide) sf.name) (λn hn=>by
    rcases List.mem_append.1 hn with hn|hn
    ·exact sf.nums n hn
    ·exact sf.aG n hn) (by simp;omega)
  ·exact XcH (ns:=[x.place,x.width,x.weight,x.hang,x.front,x.back]) (Xdd (by decide) ((hf.aA s hC).aF x hx).1) ((hf.aA s hC).aF x hx).2 (by simp)
  ·exact XcH (ns:=[x.weight,x.count]) (Xdd (by decide) ((hf.aA s hC).aE x hx).1) ((hf.aA s hC).aE x hx).2 (by simp)
  ·have qf:=cf.aC q hq;have e:XeG q=(.wd Xhz::XV q.name::Xdu q)++nums [q.aL,q.crew,q.power]:=rfl;have hk:(∀w∈Xdu q,w.le)/\(Xdu q).length<=2:=by
    unfold Xdu;rcases qf.link with ⟨h1,h2⟩|⟨h1|h1,h2⟩
    ·rw[if_pos h1];exact⟨λw hw=>by rw[List.mem_singleton.1 hw];exact(by decide:QY.length<=20),by simp⟩
    ·rw[if_neg (by omega),if_pos h1];exact⟨Xdd (by decide) h2,by simp⟩
    ·rw[if_neg (by omega),if_neg (by omega)];exact⟨Xdd (by decide) h2,by simp⟩
   rw[e];refine XcH (λw hw=> ?_) qf.nums (by simp only[List.length_cons,List.length_nil];omega);simp only[List.mem_cons] at hw;rcases hw with rfl|rfl|hw
   ·exact(by decide:Xhz.length<=20)
   ·exact XhW qf.name
   ·exact hk.1 w hw
  ·exact XcH (ns:=[m.to,m.aK,m.rise,m.fall]) (Xdd (by decide) ((cf.aC q hq).aD m hE).1) ((cf.aC q hq).aD m hE).2 (by simp)
  ·have h2:=cf.apart x hx
   exact Xno (λw hw=>by
    simp only[Yx,List.mem_cons,List.not_mem_nil,or_false] at hw;rcases hw with rfl|rfl|rfl
    ·exact(by decide:Xcq.length<=20)
    ·exact XhW h2.1
    ·exact XhW h2.2) (by simp[Yx])
 have h1:=Xf7 (YT h c) hL;unfold Xai;omega
end Go.Proofs.YtdcahhbipeaggaaGreatDoor

namespace Go.Proofs.YtdcahhbipeaggaaGreatDoor
open Go Go.RowKit
def Xg1(h:Xl)(c:Xp):Value:=if (Yn h&&YQ c)=true then Xg2 (Xai h c) else .tuple #[.string ⟨#[]⟩,.int .i64 1]
theorem XqG(h:Xf)(s:Xq)(hD:h.ok)(sok:s.ok)(hE:∀q∈s.aC.l,q.aD.l.length<=1000000)(w:World)(ht:J9 w)(B:Nat)(hB:B<=w.heap.size)(hG:Xf.at_ w B h)(sat:Xq.at_ w B s):
 Calls Tryz.prog 8 #[.agg #[.string h.name,.int .i64 h.aH,.slice h.aA.A h.aA.l.length h.aA.cap,.slice h.aB.A h.aB.l.length h.aB.cap],.agg #[.slice s.aC.A s.aC.l.length s.aC.cap,.slice s.apart.A s.apart.l.length s.apart.cap]] w (Xc w (Xg1 h.pl s.pl)):=by
 have e1:=Zi h;have e2:=Xfv s;cases hv:(Yn h.pl&&YQ s.pl) with
 |true=>
  have hC:=hv;rw[bae] at hC;rw[Xg1,if_pos hv];exact XmJ h s hD sok (e1.trans hC.1) (e2.trans hC.2) hE w ht B hB hG sat _ (Nat.le_trans (Xsu hC.1 hC.2) (by decide)) rfl
 |false=>
  rw[Xg1,if_neg (by rw[hv];simp)];exact XqF h s hD sok (by rw[e1,e2];exact hv) hE w B hB hG sat
theorem XqM{h:Xl}{c:Xp}(hv:Yn h=true)(sv:YQ c=true):XhB (toks (Xai h c))=((h,c),(0,0),0):=by
 obtain⟨h1,r,h2⟩:=XqY (XkY hv).1 (Xko sv).1;rw[h1];simp only[XhB,h2,hv,sv,Bool.and_self,if_true]
end Go.Proofs.YtdcahhbipeaggaaGreatDoor
namespace Go.Proofs.YtdcahhbipeaggaaGreatDoor
open Go Go.RowKit
def XaV(w:World)(s:Xq)(e:Ending)(w':World):Prop:=∃r:Bool,e=.returned (.bool r)/\Below w.heap.size w w'/\(r=true->s.aC.l.length<=20/\∀q∈s.aC.l,q.aD.l.length<=20)
theorem XaV.no{w w':World}{s:Xq}(h:Below w.heap.size w w'):XaV w s (.returned (.bool false)) w':=⟨false,rfl,h,λh=>by cases h⟩
theorem Xee(s:Xq)(w:World)(B:Nat)(hB:B<=w.heap.size)(hI:Xq.at_ w B s):Calls Tryz.prog 6 #[.agg #[.slice s.aC.A s.aC.l.length s.aC.cap,.slice s.apart.A s.apart.l.length s.apart.cap]] w (XaV w s):=by
 obtain⟨W,hW,pR,hU,pC⟩:=bxsh w s;have hc:=λy:Xb W.heap.size W=>Xq.boxed pC (by omega) y;have hR:=bdo hU;have hJ:Xq.at_ W W.heap.size s:=hI.to (hU.mono hB) (by omega);have hm:s.aC.cap<=9223372036854775807:=hI.aC.2.1;have pS:s.aC.l.length<=s.aC.cap:=hI.aC.1;have pT:s.apart.cap<=9223372036854775807:=hI.apart.2.1;have pH:s.apart.l.length<=s.apart.cap:=hI.apart.1;have hX:=Xa hJ;have HW:=Xa hW;have pU:=Xa hR;have hD:=Xa (λy:Xb W.heap.size W=>XaV.no (s:=s) (hR y))
 have hK:=Xa (λ(pI:s.aC.l.length<=20) (y:Xb W.heap.size W) (k:Nat) (hk:s.aC.l.length<=k) (hu:YA (λ_ (q:Xn)=>decide (q.aD.l.length<=20)) s.aC.l k)=>(show XaV w s (.returned (.bool true)) y.val from⟨true,rfl,hR y,λ_=>⟨pI,λq hq=>by
  obtain⟨j,hj,e⟩:=List.getElem_of_mem hq;have h:=hu j q (by omega) (by rw[lgE hj,e])
  simpa using h⟩⟩))
 clear hW pC hU hR hJ hI;obtain⟨PP,pD⟩:∃PP,PP=XaV w s:=⟨_,rfl⟩
 rw[<-pD] at hD hK ⊢;clear pD;have pJ:=hc (Xb.refl _ _);simp only[Xb.refl] at pJ;obtain⟨⟨A,cap,l⟩,⟨pA,pcap,pl⟩⟩:=s;simp only at*;go_enter Tryz.func6,Tryz.ntmps6;go_upto_region 1 with fail;rw[<-HW.out];by_cases pV:20<(l.length:Int)
 ·go_wp2_with fail;exact hD.out (Xb.refl _ _)
 by_cases pW:20<(pl.length:Int)
 ·go_wp2_with fail;exact hD.out (Xb.refl _ _)
 go_wp2_with fail;go_loopw [3] (λv wr=>∃k:Nat,v=.int .i64 k/\k<=l.length/\Hid (YA (λ_ (q:Xn)=>decide (q.aD.l.length<=20)) l k)/\∃x:Xb W.heap.size W,wr=x.val) (λv _=>l.length-(intOf v).toNat)
 case atStart=>exact⟨0,rfl,Nat.zero_le _,Xa (YA.zero _ _),Xb.refl _ _,rfl⟩
 case round=>
  obtain⟨k,rfl,hk,hL,x,rfl⟩:=hrel;by_cases pK:k<l.length
  ·obtain⟨b,off,hA,hb,hG⟩:=hX.out.aC.2.2 (show 0<l.length by omega);simp only at hA;subst hA;obtain⟨q,hx⟩:∃q,l[k]? =some q:=⟨l[k],lgE pK⟩
   have hM:q∈l:=lmg hx;have he:=λx:Xb W.heap.size W=>Xn.elem hx hb hG x;have hE:=hX.out.each q hM;have HX:=Xa hx;clear hG hx hM;obtain⟨nm,af,lk,dl,⟨mA,mc,ml⟩,cr,pw⟩:=q;simp only at*;have pX:mc<=9223372036854775807:=hE.aD.2.1;have pL:ml.length<=mc:=hE.aD.1;obtain⟨V,hV,pM,pE,pF⟩:=boxed x.val (.cells #[.string nm,.string af,.int .i64 lk,.int .i64 dl,.slice mA ml.length mc,.int .i64 cr,.int .i64 pw] 70);have hY:=λy:Xb V.heap.size V=>Xn.boxed (q:=⟨nm,af,lk,dl,⟨mA,mc,ml⟩,cr,pw⟩) pF (by omega) y;simp only at hY;have hZ:=hY (Xb.refl _ _)
   simp only[Xb.refl] at hZ;have hT:∀y:Xb V.heap.size V,Below W.heap.size W y.val:=λy=>x.below.trans ((pE.mono x.size).trans (y.below.mono (by have:=x.size;omega)));have pN:=λy:Xb V.heap.size V=>hc ⟨y.val,hT y⟩;simp only at pN;have HV:=Xa hV;have hN:=Xa hT;have hO:=Xa (hE.aD.to (hT (Xb.refl _ _)) (show W.heap.size<=V.heap.size by have:=x.size;omega));simp only[Xb.refl] at hO;clear hV pM pE pF hT hE;go_upto_region 7 with fail;rw[<-HV.out];by_cases pY:60<(nm.size:Int)
   ·go_wp2_with fail;exact hD.out ⟨V,hN.out (Xb.refl _ _)⟩
   by_cases pZ:60<(af.size:Int)
   ·go_wp2_with fail;exact hD.out ⟨V,hN.out (Xb.refl _ _)⟩
   by_cases qA:20<(ml.length:Int)
   ·go_wp2_with fail;exact hD.out ⟨V,hN.out (Xb.refl _ _)⟩
   go_wp2_with fail;go_loopw [5] (λv wr=>∃j:Nat,v=.int .i64 j/\j<=ml.length/\∃y:Xb V.heap.size V,wr=y.val) (λv _=>ml.length-(intOf v).toNat)
   case atStart=>exact⟨0,rfl,Nat.zero_le _,Xb.refl _ _,rfl⟩
   case round=>
    obtain⟨j,rfl,hj,y,rfl⟩:=hrel;have pO:=hY y;by_cases hH:j<ml.length
    ·obtain⟨b2,off2,hP,pB,hC⟩:=hO.out.2.2 (show 0<ml.length by omega);simp only at hP;subst hP;obtain⟨m,hQ⟩:∃m,ml[j]? =some m:=⟨ml[j],lgE hH⟩
     have pG:=Xw.elem hQ pB hC y;clear hC hQ;by_cases pP:60<(m.set.size:Int)
     ·go_wp2_with fail;exact hD.out ⟨y.val,hN.out y⟩
     ·go_wp2_with fail;exact⟨⟨j+1,by go_num,by omega,y,rfl⟩,by simp[intOf];omega⟩
    ·go_wp2_with fail;exact⟨⟨k+1,by go_num,by omega,Xa (hL.out.next HX.out (by simp;omega)),⟨y.val,hN.out y⟩,rfl⟩,by simp[intOf];omega⟩
  ·have pQ:=Xa (show l.length<=k by omega);go_wp2_with fail;go_loopw [6] (λv wr=>∃j:Nat,v=.int .i64 j/\j<=pl.length/\∃y:Xb W.heap.size W,wr=y.val) (λv _=>pl.length-(intOf v).toNat)
   case atStart=>exact⟨0,rfl,Nat.zero_le _,x,rfl⟩
   case round=>
    obtain⟨j,rfl,hj,y,rfl⟩:=hrel;have pO:=hc y;by_cases hH:j<pl.length
    ·obtain⟨b2,off2,hP,pB,hC⟩:=hX.out.apart.2.2 (show 0<pl.length by omega);simp only at hP;subst hP;obtain⟨⟨p1,p2⟩,hQ⟩:∃m,pl[j]? =some m:=⟨pl[j],lgE hH⟩
     have pG:=Xb0 hQ pB hC y;simp only at pG;clear hC hQ;by_cases pP:60<(p1.size:Int)
     ·go_wp2_with fail;exact hD.out y
     by_cases qB:60<(p2.size:Int)
     ·go_wp2_with fail;exact hD.out y
     go_wp2_with fail;exact⟨⟨j+1,by go_num,by omega,y,rfl⟩,by simp[intOf];omega⟩
    ·go_wp2_with fail;exact hK.out (by omega) y k pQ.out hL.out
end Go.Proofs.YtdcahhbipeaggaaGreatDoor
