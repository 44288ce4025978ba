/- Lemmas for TopPrinted: FracLaw. -/

namespace Go.Proofs.YtdcahhbipeaggaaGreatDoor
def fmk(n:Int)(d:Nat):Int×Nat:=(n/(Nat.gcd n.natAbs d:Nat),d/Nat.gcd n.natAbs d)
theorem ZC(n:Int)(d:Nat)(hd:0<d):0<(fmk n d).2/\Nat.gcd (fmk n d).1.natAbs (fmk n d).2=1/\(fmk n d).1*(d:Int)=n*((fmk n d).2:Int)/\(fmk n d).1.natAbs<=n.natAbs/\(fmk n d).2<=d:=by
 have hg:0<Nat.gcd n.natAbs d:=Nat.gcd_pos_of_pos_right _ hd;obtain⟨g,hC⟩:∃g,g=Nat.gcd n.natAbs d:=⟨_,rfl⟩
 have h1:g∣n.natAbs:=hC▸Nat.gcd_dvd_left _ _;have h2:g∣d:=hC▸Nat.gcd_dvd_right _ _;have h3:(g:Int)∣n:=Int.ofNat_dvd_left.2 h1;rw[<-hC] at hg;simp only[fmk,<-hC];obtain⟨a,ha⟩:=h3;obtain⟨b,hb⟩:=h2;have hE:(g:Int)≠0:=by omega
 have e1:n/(g:Int)=a:=by rw[ha,Int.mul_ediv_cancel_left _ hE]
 have e2:d/g=b:=by rw[hb,Nat.mul_div_cancel_left _ hg]
 have hD:n.natAbs=g*a.natAbs:=by rw[ha,Int.natAbs_mul,Int.natAbs_natCast]
 rw[e1,e2];refine⟨?_,?_,?_,?_,?_⟩
 ·rcases Nat.eq_zero_or_pos b with h|h
  ·subst h;omega
  ·exact h
 ·have:Nat.gcd (g*a.natAbs) (g*b)=g:=by rw[<-hD,<-hb];exact hC.symm
  rw[Nat.gcd_mul_left] at this;exact Nat.eq_of_mul_eq_mul_left hg (by omega)
 ·rw[ha,hb,Int.natCast_mul];ac_rfl
 ·rw[hD];exact Nat.le_mul_of_pos_left _ hg
 ·rw[hb];exact Nat.le_mul_of_pos_left _ hg
theorem Xe7{n:Int}{d:Nat}(hd:0<d){a:Int}{b:Nat}(hc:Nat.gcd a.natAbs b=1)(hv:a*(d:Int)=n*(b:Int)):(a,b)=fmk n d:=by
 obtain⟨h1,h2,h3,-,-⟩:=ZC n d hd;obtain⟨x,hx⟩:∃x,x=(fmk n d).1:=⟨_,rfl⟩
 obtain⟨y,hy⟩:∃y,y=(fmk n d).2:=⟨_,rfl⟩
 rw[<-hx,<-hy] at h2 h3;rw[<-hy] at h1;have hC:a*(y:Int)=x*(b:Int):=by
  have hE:(d:Int)≠0:=by omega
  apply Int.eq_of_mul_eq_mul_right hE
  calc a*(y:Int)*d=(a*d)*y:=by ac_rfl
   _=n*b*y:=by rw[hv]
   _=(n*y)*b:=by ac_rfl
   _=x*d*b:=by rw[h3]
   _=x*b*d:=by ac_rfl
 have hn:a.natAbs*y=x.natAbs*b:=by
  have:=congrArg Int.natAbs hC;simpa[Int.natAbs_mul] using this
 have hD:b=y:=by
  apply Nat.dvd_antisymm
  ·have h4:b∣a.natAbs*y:=hn▸Nat.dvd_mul_left b _;exact(Nat.Coprime.symm hc:Nat.Coprime b a.natAbs).dvd_of_dvd_mul_left h4
  ·have h4:y∣x.natAbs*b:=hn▸Nat.dvd_mul_left y _;exact(Nat.Coprime.symm h2:Nat.Coprime y x.natAbs).dvd_of_dvd_mul_left h4
 have hG:a=x:=by
  rw[hD] at hC;exact Int.eq_of_mul_eq_mul_right (by omega) hC
 rw[hD,hG,hx,hy]
theorem XaR(n:Int)(d k:Nat)(hd:0<d)(hk:0<k):fmk (n*(k:Int)) (d*k)=fmk n d:=by
 obtain⟨-,h2,h3,-,-⟩:=ZC n d hd;refine(Xe7 (Nat.mul_pos hd hk) h2 ?_).symm;rw[Int.natCast_mul,<-Int.mul_assoc,h3]
 ac_rfl
theorem Xqn(n:Int)(d:Nat):(fmk n d).2∣d:=by
 simp only[fmk];exact Nat.div_dvd_of_dvd (Nat.gcd_dvd_right _ _)
theorem XtF(d:Nat)(hd:0<d):fmk 0 d=(0,1):=by
 simp[fmk,Nat.div_self hd]
theorem Xg3{an bn:Int}{a' b':Nat}(hC:Nat.gcd a' b'=1)(ha:Nat.gcd an.natAbs a'=1):Nat.gcd (an*(b':Int)+bn*(a':Int)).natAbs a'=1:=by
 obtain⟨k,hk⟩:∃k,k=Nat.gcd (an*(b':Int)+bn*(a':Int)).natAbs a':=⟨_,rfl⟩
 have h1:k∣(an*(b':Int)+bn*(a':Int)).natAbs:=hk▸Nat.gcd_dvd_left _ _;have h2:k∣a':=hk▸Nat.gcd_dvd_right _ _;have h3:(k:Int)∣an*(b':Int)+bn*(a':Int):=Int.ofNat_dvd_left.2 h1;have h4:(k:Int)∣bn*(a':Int):=Int.dvd_trans (Int.ofNat_dvd.2 h2) (Int.dvd_mul_left _ _);have h5:(k:Int)∣an*(b':Int):=(Int.dvd_add_left h4).1 h3;have h6:k∣an.natAbs*b':=by have:=Int.ofNat_dvd_left.1 h5;rwa [Int.natAbs_mul,Int.natAbs_natCast] at this
 have h7:Nat.Coprime k b':=Nat.Coprime.coprime_dvd_left h2 hC;have h8:k∣an.natAbs:=h7.dvd_of_dvd_mul_right h6;have h9:k∣Nat.gcd an.natAbs a':=Nat.dvd_gcd h8 h2;rw[ha] at h9;rw[<-hk];exact Nat.eq_one_of_dvd_one h9
theorem Xvo{N1 N2:Int}{D:Nat}(hD:0<D){an bn:Int}{ad bd:Nat}(ha:(an,ad)=fmk N1 D)(hb:(bn,bd)=fmk N2 D){g:Nat}(hg:g=Nat.gcd ad bd):
 (0<g/\0<ad/g/\0<bd/g/\an.natAbs*(bd/g)<=N1.natAbs/\bn.natAbs*(ad/g)<=N2.natAbs)/\
 ∀t:Int,t=an*((bd/g:Nat):Int)+bn*((ad/g:Nat):Int)->(t=0->fmk (N1+N2) D=(0,1))/\
  ∀(T:Nat) (neg:Bool),T≠0->(if neg then-(T:Int) else(T:Int))=t->∀c,c=Nat.gcd g (T % g)->
   0<c/\c∣bd/\(if neg then-((T/c:Nat):Int) else((T/c:Nat):Int),ad/g*(bd/c))=fmk (N1+N2) D/\T/c<=(N1+N2).natAbs/\ad/g*(bd/c)<=D:=by
 obtain⟨hK,hL,hG,-,-⟩:=ZC N1 D hD;obtain⟨hP,hM,hH,-,-⟩:=ZC N2 D hD;have hN:=Xqn N1 D;have hO:=Xqn N2 D;rw[<-ha] at hK hL hG hN;rw[<-hb] at hP hM hH hO;simp only at hK hL hG hN hP hM hH hO;have hC:0<g:=hg▸Nat.gcd_pos_of_pos_left _ hK;obtain⟨a',ea⟩:g∣ad:=hg▸Nat.gcd_dvd_left _ _;obtain⟨b',eb⟩:g∣bd:=hg▸Nat.gcd_dvd_right _ _;have qa:ad/g=a':=by rw[ea,Nat.mul_div_cancel_left _ hC]
 have qb:bd/g=b':=by rw[eb,Nat.mul_div_cancel_left _ hC]
 have hQ:Nat.gcd a' b'=1:=by
  have h:=hg;rw[ea,eb,Nat.gcd_mul_left] at h;exact Nat.eq_of_mul_eq_mul_left hC (by omega)
 have pa:0<a':=by rcases Nat.eq_zero_or_pos a' with h|h;(subst h;omega);exact h
 have pb:0<b':=by rcases Nat.eq_zero_or_pos b' with h|h;(subst h;omega);exact h
 obtain⟨k,hk⟩:g*a'*b'∣D:=by
  have h1:Nat.lcm ad bd∣D:=Nat.lcm_dvd hN hO;have h2:Nat.lcm ad bd=g*a'*b':=by
   rw[Nat.lcm,<-hg,ea,eb];rw[show g*a'*(g*b')=g*(g*a'*b') by ac_rfl,Nat.mul_div_cancel_left _ hC]
  rwa [h2] at h1
 have pk:0<k:=by rcases Nat.eq_zero_or_pos k with h|h;(subst h;omega);exact h
 have pg:(g:Int)≠0:=by omega
 have e1:an*(b':Int)*(k:Int)=N1:=by
  apply Int.eq_of_mul_eq_mul_right (a:=(g:Int)*a') (by have:(a':Int)≠0:=(by omega);exact Int.mul_ne_zero pg this);rw[hk,ea] at hG;simp only[Int.natCast_mul] at hG
  calc an*(b':Int)*k*(g*a')=an*(g*a'*b'*k):=by ac_rfl
   _=_:=hG
 have e2:bn*(a':Int)*(k:Int)=N2:=by
  apply Int.eq_of_mul_eq_mul_right (a:=(g:Int)*b') (by have:(b':Int)≠0:=(by omega);exact Int.mul_ne_zero pg this);rw[hk,eb] at hH;simp only[Int.natCast_mul] at hH
  calc bn*(a':Int)*k*(g*b')=bn*(g*a'*b'*k):=by ac_rfl
   _=_:=hH
 rw[qa,qb];refine⟨⟨hC,pa,pb,?_,?_⟩,?_⟩
 ·rw[<-e1,Int.natAbs_mul,Int.natAbs_mul,Int.natAbs_natCast,Int.natAbs_natCast];exact Nat.le_mul_of_pos_right _ pk
 ·rw[<-e2,Int.natAbs_mul,Int.natAbs_mul,Int.natAbs_natCast,Int.natAbs_natCast];exact Nat.le_mul_of_pos_right _ pk
 intro t ht;have et:t*(k:Int)=N1+N2:=by rw[ht,Int.add_mul,e1,e2]
 refine⟨?_,?_⟩
 ·rintro rfl;rw[<-et,Int.zero_mul,XtF _ hD]
 intro T neg hT hI c hc;have hR:T=t.natAbs:=by rw[<-hI];cases neg<;>simp
 have hJ:c=Nat.gcd T g:=by rw[hc,Nat.gcd_comm g (T % g),<-Nat.gcd_rec,Nat.gcd_comm]
 have hE:0<c:=hJ▸Nat.gcd_pos_of_pos_right _ hC;obtain⟨T',eT⟩:c∣T:=hJ▸Nat.gcd_dvd_left _ _;obtain⟨g',eg⟩:c∣g:=hJ▸Nat.gcd_dvd_right _ _;have qT:T/c=T':=by rw[eT,Nat.mul_div_cancel_left _ hE]
 have hW:c∣bd:=by rw[eb,eg];exact⟨g'*b',by ac_rfl⟩
 have qbc:bd/c=g'*b':=by rw[eb,eg,show c*g'*b'=c*(g'*b') by ac_rfl,Nat.mul_div_cancel_left _ hE]
 have hX:Nat.gcd T' g'=1:=by
  have h:=hJ;rw[eT,eg,Nat.gcd_mul_left] at h;exact Nat.eq_of_mul_eq_mul_left hE (by omega)
 have hY:Nat.gcd T a'=1:=by
  rw[hR,ht];refine Xg3 hQ ?_;exact Nat.Coprime.coprime_dvd_right ⟨g,by rw[ea];ac_rfl⟩ hL
 have hZ:Nat.gcd T b'=1:=by
  rw[hR,ht,Int.add_comm];refine Xg3 (by rw[Nat.gcd_comm];exact hQ) ?_;exact Nat.Coprime.coprime_dvd_right ⟨g,by rw[eb];ac_rfl⟩ hM
 have dT:T'∣T:=⟨c,by rw[eT];ac_rfl⟩
 have co:Nat.gcd T' (a'*(g'*b'))=1:=
  Nat.Coprime.mul_right (Nat.Coprime.coprime_dvd_left dT hY) (Nat.Coprime.mul_right hX (Nat.Coprime.coprime_dvd_left dT hZ))
 obtain⟨s,hs⟩:∃s:Int,s=if neg then-(T':Int) else(T':Int):=⟨_,rfl⟩
 have hU:s.natAbs=T':=by rw[hs];cases neg<;>simp
 have hV:s*(c:Int)=t:=by
  rw[hs,<-hI,eT,Int.natCast_mul];cases neg
  ·exact Int.mul_comm _ _
  ·exact(Int.neg_mul _ _).trans (by rw[Int.mul_comm];rfl)
 rw[qT,qbc,<-hs];have key:(s,a'*(g'*b'))=fmk (N1+N2) D:=by
  refine Xe7 hD (by rw[hU];exact co) ?_;rw[<-et,<-hV,hk,eg];simp only[Int.natCast_mul]
  ac_rfl
 refine⟨hE,hW,key,?_,?_⟩
 ·rw[<-et,<-hV,Int.natAbs_mul,Int.natAbs_mul,hU,Int.natAbs_natCast,Int.natAbs_natCast,Nat.mul_assoc];exact Nat.le_mul_of_pos_right _ (Nat.mul_pos hE pk)
 ·rw[hk,eg,show c*g'*a'*b'*k=a'*(g'*b')*(c*k) by ac_rfl];exact Nat.le_mul_of_pos_right _ (Nat.mul_pos hE pk)
theorem XuM{N1 N2:Int}{D1 D2:Nat}(h1:0<D1)(h2:0<D2){an bn:Int}{ad bd:Nat}(ha:(an,ad)=fmk N1 D1)(hb:(bn,bd)=fmk N2 D2){g h:Nat}(hg:g=Nat.gcd an.natAbs bd)(hh:h=Nat.gcd bn.natAbs ad):
 0<g/\0<h/\∀(neg:Bool),(neg=true↔0<an.natAbs/g*(bn.natAbs/h)/\((an<0/\¬bn<0)\/(¬an<0/\bn<0)))->
  (if neg then-((an.natAbs/g*(bn.natAbs/h):Nat):Int) else((an.natAbs/g*(bn.natAbs/h):Nat):Int),ad/h*(bd/g))=fmk (N1*N2) (D1*D2)/\an.natAbs/g*(bn.natAbs/h)<=(N1*N2).natAbs/\ad/h*(bd/g)<=D1*D2:=by
 obtain⟨hJ,hK,hL,hM,hN⟩:=ZC N1 D1 h1;obtain⟨hO,hP,hQ,hR,hT⟩:=ZC N2 D2 h2;rw[<-ha] at hJ hK hL hM hN;rw[<-hb] at hO hP hQ hR hT;simp only at hJ hK hL hM hN hO hP hQ hR hT;have hC:0<g:=hg▸Nat.gcd_pos_of_pos_right _ hO;have hE:0<h:=hh▸Nat.gcd_pos_of_pos_right _ hJ;refine⟨hC,hE,?_⟩;intro neg hG;obtain⟨x,ex⟩:g∣an.natAbs:=hg▸Nat.gcd_dvd_left _ _;obtain⟨y,ey⟩:g∣bd:=hg▸Nat.gcd_dvd_right _ _;obtain⟨u,eu⟩:h∣bn.natAbs:=hh▸Nat.gcd_dvd_left _ _;obtain⟨v,ev⟩:h∣ad:=hh▸Nat.gcd_dvd_right _ _;have qx:an.natAbs/g=x:=by rw[ex,Nat.mul_div_cancel_left _ hC]
 have qy:bd/g=y:=by rw[ey,Nat.mul_div_cancel_left _ hC]
 have qu:bn.natAbs/h=u:=by rw[eu,Nat.mul_div_cancel_left _ hE]
 have qv:ad/h=v:=by rw[ev,Nat.mul_div_cancel_left _ hE]
 have cxy:Nat.Coprime x y:=by
  have e:=hg;rw[ex,ey,Nat.gcd_mul_left] at e;exact Nat.eq_of_mul_eq_mul_left hC (by omega)
 have cuv:Nat.Coprime u v:=by
  have e:=hh;rw[eu,ev,Nat.gcd_mul_left] at e;exact Nat.eq_of_mul_eq_mul_left hE (by omega)
 have cxv:Nat.Coprime x v:=Nat.Coprime.coprime_dvd_left ⟨g,by rw[ex];ac_rfl⟩ (Nat.Coprime.coprime_dvd_right ⟨h,by rw[ev];ac_rfl⟩ hK);have cuy:Nat.Coprime u y:=Nat.Coprime.coprime_dvd_left ⟨h,by rw[eu];ac_rfl⟩ (Nat.Coprime.coprime_dvd_right ⟨g,by rw[ey];ac_rfl⟩ hP);rw[qx,qu] at hG ⊢;rw[qv,qy];have co:Nat.gcd (x*u) (v*y)=1:=Nat.Coprime.mul_left (Nat.Coprime.mul_right cxv cxy) (Nat.Coprime.mul_right cuv cuy);obtain⟨s,hs⟩:∃s:Int,s=if neg then-((x*u:Nat):Int) else((x*u:Nat):Int):=⟨_,rfl⟩
 have hV:s.natAbs=x*u:=by
  rw[hs];cases neg
  ·exact Int.natAbs_natCast _
  ·exact(Int.natAbs_neg _).trans (Int.natAbs_natCast _)
 have hX:s*((g*h:Nat):Int)=an*bn:=by
  have hH:(an*bn).natAbs=x*u*(g*h):=by rw[Int.natAbs_mul,ex,eu];ac_rfl
  have hI:(s*((g*h:Nat):Int)).natAbs=(an*bn).natAbs:=by rw[hH,Int.natAbs_mul,hV,Int.natAbs_natCast]
  rcases Nat.eq_zero_or_pos (x*u) with h0|hp
  ·rw[h0,Nat.zero_mul] at hH;rw[Int.natAbs_eq_zero.1 hH];exact Int.natAbs_eq_zero.1 (hI.trans hH)
  ·have hq:0<((g*h:Nat):Int):=Int.ofNat_lt.2 (Nat.mul_pos hC hE);have hY:0<((x*u:Nat):Int):=Int.ofNat_lt.2 hp;have pB:=Int.mul_pos hY hq;have pC:0<x*u*(g*h):=Nat.mul_pos hp (Nat.mul_pos hC hE);have hW:an*bn≠0:=by intro h0;rw[h0] at hH;simp only[Int.natAbs_zero] at hH;omega
   have pD:an≠0:=by rintro rfl;simp at hW
   have pE:bn≠0:=by rintro rfl;simp at hW
   cases neg with
   |false=>
    have hU:s=((x*u:Nat):Int):=hs;rw[hU] at hI ⊢;have hZ:0<an*bn:=by
     have hn:¬((an<0/\¬bn<0)\/(¬an<0/\bn<0)):=λh=>by have:=hG.2 ⟨hp,h⟩;simp at this
     by_cases ia:an<0
     ·have ib:bn<0:=by omega
      exact Int.mul_pos_of_neg_of_neg ia ib
     ·have ib:¬bn<0:=by omega
      exact Int.mul_pos (by omega) (by omega)
    omega
   |true=>
    have hU:s= -((x*u:Nat):Int):=hs;rw[hU] at hI ⊢;have pF:an*bn<0:=by
     rcases(hG.1 rfl).2 with ⟨ia,ib⟩|⟨ia,ib⟩
     ·exact Int.mul_neg_of_neg_of_pos ia (by omega)
     ·exact Int.mul_neg_of_pos_of_neg (by omega) ib
    rw[Int.neg_mul] at hI ⊢;omega
 have hD:(ad:Int)*bd=((v*y:Nat):Int)*((g*h:Nat):Int):=by rw[ev,ey];simp only[Int.natCast_mul];ac_rfl
 have pA:((g*h:Nat):Int)≠0:=by have:=Nat.mul_pos hC hE;omega
 rw[<-hs];have key:s*((D1*D2:Nat):Int)=N1*N2*((v*y:Nat):Int):=by
  apply Int.eq_of_mul_eq_mul_right pA
  calc s*((D1*D2:Nat):Int)*((g*h:Nat):Int)=s*((g*h:Nat):Int)*((D1:Int)*D2):=by simp only[Int.natCast_mul];ac_rfl
   _=(an*D1)*(bn*D2):=by rw[hX];ac_rfl
   _=(N1*N2)*((ad:Int)*bd):=by rw[hL,hQ];ac_rfl
   _=_:=by rw[hD];ac_rfl
 refine⟨Xe7 (Nat.mul_pos h1 h2) (by rw[hV];exact co) key,?_,?_⟩
 ·have h5:x<=an.natAbs:=by rw[ex];exact Nat.le_mul_of_pos_left _ hC
  have h6:u<=bn.natAbs:=by rw[eu];exact Nat.le_mul_of_pos_left _ hE
  rw[Int.natAbs_mul];exact Nat.mul_le_mul (Nat.le_trans h5 hM) (Nat.le_trans h6 hR)
 ·have h5:v<=ad:=by rw[ev];exact Nat.le_mul_of_pos_left _ hE
  have h6:y<=bd:=by rw[ey];exact Nat.le_mul_of_pos_left _ hC
  exact Nat.mul_le_mul (Nat.le_trans h5 hN) (Nat.le_trans h6 hT)
end Go.Proofs.YtdcahhbipeaggaaGreatDoor
