/- Lemmas for TopPrinted: HouseValid, SrcAt. -/
import Derived.Test.YtdcahhbipeaggaaGreatDoorBattenWays
import Derived.Test.YtdcahhbipeaggaaGreatDoorFloat
set_option maxRecDepth 100000
set_option maxHeartbeats 16000000
namespace Go.Proofs.YtdcahhbipeaggaaGreatDoor
open Go.RowKit
theorem XsD(s:Xd):X0 s=(XF s.name&&Xg s.depth 0 1048576&&decide (0<=s.low)&&decide (s.low<=s.high)&&decide (s.high<=1048576)&&Xg s.length 1000 1048576&&(s.length % 1000==0)&&YC s.aG.l s.length&&Xg s.aM 0 1048576&&Xg s.aN 0 1048576&&Xg s.aI 1 2&&Xg s.most 1 67108864&&Xg s.aJ 0 67108864&&YK s.aF.l s.length&&Yb s.aE.l):=by
 rw[Bool.eq_iff_iff,X0];simp only[bae,Xcw,Xjs,Xz,decide_eq_true_eq,beq_iff_eq];constructor
 ·rintro⟨⟨⟨⟨⟨a1,a2,a3,a4,a5,a6⟩,b⟩,c1,c2,c3,c4,c5⟩,d⟩,e⟩;exact⟨⟨⟨⟨⟨⟨⟨⟨⟨⟨⟨⟨⟨⟨a1,a2⟩,a3.1⟩,a3.2⟩,a4.2⟩,a5⟩,a6⟩,b⟩,c1⟩,c2⟩,c3⟩,c4⟩,c5⟩,d⟩,e⟩
 ·rintro⟨⟨⟨⟨⟨⟨⟨⟨⟨⟨⟨⟨⟨⟨a1,a2⟩,a3⟩,a3'⟩,a4⟩,a5⟩,a6⟩,b⟩,c1⟩,c2⟩,c3⟩,c4⟩,c5⟩,d⟩,e⟩;exact⟨⟨⟨⟨⟨a1,a2,⟨a3,a3'⟩,⟨by omega,a4⟩,a5,a6⟩,b⟩,c1,c2,c3,c4,c5⟩,d⟩,e⟩
theorem ZR(s:Xd)(hC:s.ok)(w:World)(B:Nat)(hB:B<=w.heap.size)(hD:Xd.at_ w B s):
 Calls Tryz.prog 63 #[.agg #[.string s.name,.int .i64 s.depth,.int .i64 s.low,.int .i64 s.high,.int .i64 s.length,.slice s.aG.A s.aG.l.length s.aG.cap,.int .i64 s.aM,.int .i64 s.aN,.int .i64 s.aI,.int .i64 s.most,.int .i64 s.aJ,.slice s.aF.A s.aF.l.length s.aF.cap,.slice s.aE.A s.aE.l.length s.aE.cap]] w (Xc w (.bool (X0 s))):=by
 refine XgT s _ hC w B hB hD ?_;rw[XsD];cases XF s.name
 ·exact Or.inl ⟨rfl,by simp only[Bool.false_and]⟩
 refine Or.inr ⟨rfl,?_⟩;cases Xg s.depth 0 1048576
 ·exact Or.inl ⟨rfl,by simp only[Bool.and_false,Bool.false_and]⟩
 refine Or.inr ⟨rfl,?_⟩;by_cases h:0<=s.low
 case neg=>exact Or.inl ⟨by omega,by rw[decide_eq_false h];simp only[Bool.and_false,Bool.false_and]⟩
 rw[decide_eq_true h];refine Or.inr ⟨h,?_⟩;by_cases h:s.low<=s.high
 case neg=>exact Or.inl ⟨by omega,by rw[decide_eq_false h];simp only[Bool.and_false,Bool.false_and]⟩
 rw[decide_eq_true h];refine Or.inr ⟨h,?_⟩;by_cases h:s.high<=1048576
 case neg=>exact Or.inl ⟨by omega,by rw[decide_eq_false h];simp only[Bool.and_false,Bool.false_and]⟩
 rw[decide_eq_true h];refine Or.inr ⟨h,?_⟩;cases h6:Xg s.length 1000 1048576
 ·exact Or.inl ⟨rfl,by simp only[Bool.and_false,Bool.false_and]⟩
 refine Or.inr ⟨rfl,Xz.1 h6,?_⟩;cases (s.length % 1000==0)
 ·exact Or.inl ⟨rfl,by simp only[Bool.and_false,Bool.false_and]⟩
 refine Or.inr ⟨rfl,?_⟩;cases YC s.aG.l s.length
 ·exact Or.inl ⟨rfl,by simp only[Bool.and_false,Bool.false_and]⟩
 refine Or.inr ⟨rfl,?_⟩;cases Xg s.aM 0 1048576
 ·exact Or.inl ⟨rfl,by simp only[Bool.and_false,Bool.false_and]⟩
 refine Or.inr ⟨rfl,?_⟩;cases Xg s.aN 0 1048576
 ·exact Or.inl ⟨rfl,by simp only[Bool.and_false,Bool.false_and]⟩
 refine Or.inr ⟨rfl,?_⟩;cases Xg s.aI 1 2
 ·exact Or.inl ⟨rfl,by simp only[Bool.and_false,Bool.false_and]⟩
 refine Or.inr ⟨rfl,?_⟩;cases Xg s.most 1 67108864
 ·exact Or.inl ⟨rfl,by simp only[Bool.and_false,Bool.false_and]⟩
 refine Or.inr ⟨rfl,?_⟩;cases Xg s.aJ 0 67108864
 ·exact Or.inl ⟨rfl,by simp only[Bool.and_false,Bool.false_and]⟩
 refine Or.inr ⟨rfl,?_⟩;cases YK s.aF.l s.length
 ·exact Or.inl ⟨rfl,by simp only[Bool.and_false,Bool.false_and]⟩
 refine Or.inr ⟨rfl,?_⟩;simp only[Bool.and_true,Bool.true_and]
end Go.Proofs.YtdcahhbipeaggaaGreatDoor
namespace Go.Proofs.YtdcahhbipeaggaaGreatDoor
open Go.RowKit
theorem Yf(h:Xf)(hQ:h.ok)(w:World)(B:Nat)(hB:B<=w.heap.size)(hR:Xf.at_ w B h):
 Calls Tryz.prog 22 #[.agg #[.string h.name,.int .i64 h.aH,.slice h.aA.A h.aA.l.length h.aA.cap,.slice h.aB.A h.aB.l.length h.aB.cap]] w (Xc w (.bool (Xv h))):=by
 obtain⟨W,hW,pF,hT,hY⟩:=bxhs w h;have hc:=λy:Xb W.heap.size W=>Xf.boxed hY (by omega) y;have hZ:=bdo hT;have hC:Xf.at_ W W.heap.size h:=hR.to (hT.mono hB) (by omega);have pA:=hQ.name;have hD:∀v:World,Below W.heap.size W v->Calls Tryz.prog 62 #[.slice h.aB.A h.aB.l.length h.aB.cap] v (Xc v (.bool (Y6 h.aB.l))):=λv hv=>Xez _ _ _ hQ.aB v W.heap.size hv.size (hC.aB.to hv nr);have hE:∀(nm:ByteArray) (v:World),Below W.heap.size W v->Calls Tryz.prog 64 #[.agg #[.string h.name,.int .i64 h.aH,.slice h.aA.A h.aA.l.length h.aA.cap,.slice h.aB.A h.aB.l.length h.aB.cap],.string nm] v (Xc v (.int .i64 (YY h.aA.l nm))):=λnm v hv=>XtI h nm v W.heap.size hv.size (hC.to hv nr)
 have hG:∀(s:Xd),s∈h.aA.l->∀v:World,Below W.heap.size W v->Calls Tryz.prog 63 #[.agg #[.string s.name,.int .i64 s.depth,.int .i64 s.low,.int .i64 s.high,.int .i64 s.length,.slice s.aG.A s.aG.l.length s.aG.cap,.int .i64 s.aM,.int .i64 s.aN,.int .i64 s.aI,.int .i64 s.most,.int .i64 s.aJ,.slice s.aF.A s.aF.l.length s.aF.cap,.slice s.aE.A s.aE.l.length s.aE.cap]] v (Xc v (.bool (X0 s))):=λs hs v hv=>ZR s (hQ.aA s hs) v W.heap.size hv.size ((hC.each s hs).to hv nr);have hm:h.aA.cap<=9223372036854775807:=hR.aA.2.1;have pJ:h.aA.l.length<=h.aA.cap:=hR.aA.1
 have pB:=hC.aA;have pG:=Xa pB;have HR:=Xa hD;have HF:=Xa hE;have HV:=Xa hG;have HW:=Xa hW;have pK:=Xa pF;have hK:=Xa hZ;clear hW hY hT hZ hC hR hQ pB hD hE hG;cases hh:Ji h
 ·have hJ:=Xa (Xl8 hh);go_enter Tryz.func22,Tryz.ntmps22
  go_wp2_with (first
   |(go_at_call 61;rw[<-HW.out];refine(Xc.first (XK _ _ pA)).mono ?_;rintro e w' ⟨rfl,y,rfl⟩)
   |(go_at_call 62;refine(Xc.after nr (HR.out _ (Xb.below _))).mono ?_;rintro e w' ⟨rfl,y,rfl⟩))
  all_goals first
   |(go_ret;exact Xc.mk (congrArg Value.bool hJ.out.symm) (hK.out _))
   |exact absurd (Zj.2 ⟨‹_›,‹_›,‹_›,‹_›,by simp_all⟩) (by simp[hh])
 ·obtain⟨h1,h2,h3,h4,h5⟩:=Zj.1 hh;have hL:=Xa (λ(k:Nat) (hk:h.aA.l.length<=k) hu=>XnB hh hk hu);have hJ:=Xa (λ(k:Nat) (s:Xd) hs hn=>Xpr (h:=h) (k:=k) (s:=s) hs hn);clear hh;obtain⟨r,hr⟩:∃r,r=Xv h:=⟨_,rfl⟩
  rw[<-hr] at hL hJ ⊢;clear hr;obtain⟨name,aH,⟨A,cap,l⟩,aB⟩:=h;simp only at*;go_enter Tryz.func22,Tryz.ntmps22
  go_wp2_with (first
   |(go_at_call 61;rw[<-HW.out];refine(Xc.first (XK _ _ pA)).mono ?_;rintro e w' ⟨rfl,y,rfl⟩)
   |(go_at_call 62;refine(Xc.after nr (HR.out _ (Xb.below _))).mono ?_;rintro e w' ⟨rfl,y,rfl⟩))
  go_loopw [34] (λv wr=>∃k:Nat,v=.int .i64 k/\k<=l.length/\Hid (YA (setAt l aH) l k)/\∃x:Xb W.heap.size W,wr=x.val) (λv _=>l.length-(intOf v).toNat)
  case atStart=>exact⟨0,rfl,Nat.zero_le _,YA.zero _ _,_,rfl⟩
  case round=>
   obtain⟨k,rfl,hk,hM,x,rfl⟩:=hrel;by_cases pC:k<l.length
   ·obtain⟨b,off,hA,hb,hH⟩:=pG.out.2.2 (show 0<l.length by omega);simp only at hA;subst hA;have hx:l[k]? =some l[k]:=lgE pC;have hN:l[k]∈l:=List.getElem_mem pC;have he:=λx:Xb W.heap.size W=>Xd.elem hx hb hH x;have HX:=Xa hx;have HM:=Xa hN;clear hH hx hN;obtain⟨W',pD,hU,hO,hP⟩:=boxed x.val (.cells #[.string l[k].name,.int .i64 l[k].depth,.int .i64 l[k].low,.int .i64 l[k].high,.int .i64 l[k].length,.slice l[k].aG.A l[k].aG.l.length l[k].aG.cap,.int .i64 l[k].aM,.int .i64 l[k].aN,.int .i64 l[k].aI,.int .i64 l[k].most,.int .i64 l[k].aJ,.slice l[k].aF.A l[k].aF.l.length l[k].aF.cap,.slice l[k].aE.A l[k].aE.l.length l[k].aE.cap] 57)
    have pL:=λy:Xb W'.heap.size W'=>Xd.boxed hP (by omega) y;have hV:∀y:Xb W'.heap.size W',Below W.heap.size W y.val:=λy=>x.below.trans ((hO.mono x.size).trans (y.below.mono (by have:=x.size;omega)));have pH:=λy:Xb W'.heap.size W'=>hc ⟨y.val,hV y⟩;simp only at pH;have hX:=Xa pD;have hI:=Xa hV;clear pD hU hP hO hV;cases hs:X0 l[k]
    ·go_wp2_with (go_at_call 63;rw[<-hX.out];refine(Xc.first (HV.out l[k] HM.out W' (hI.out (Xb.refl _ _)))).mono ?_;rintro e w' ⟨rfl,y,rfl⟩)
     go_ret;exact Xc.mk (congrArg Value.bool (hJ.out k l[k] HX.out (XqT hs)).symm) (hK.out ⟨_,hI.out _⟩)
    ·by_cases pI:aH<l[k].high
     ·go_wp2_with (go_at_call 63;rw[<-hX.out];refine(Xc.first (HV.out l[k] HM.out W' (hI.out (Xb.refl _ _)))).mono ?_;rintro e w' ⟨rfl,y,rfl⟩)
      go_ret;exact Xc.mk (congrArg Value.bool (hJ.out k l[k] HX.out (Xox pI)).symm) (hK.out ⟨_,hI.out _⟩)
     ·cases pE:(YY l l[k].name !=(k:Int))
      all_goals
       go_wp2_with (first
        |(go_at_call 63;rw[<-hX.out];refine(Xc.first (HV.out l[k] HM.out W' (hI.out (Xb.refl _ _)))).mono ?_;rintro e w' ⟨rfl,y,rfl⟩)
        |(go_at_call 64;refine(Xc.after nr (HF.out _ _ (hI.out _))).mono ?_;rintro e w' ⟨rfl,y,rfl⟩))
      ·exact⟨⟨k+1,by go_num,by omega,hM.out.next HX.out (XqS hs (by omega) pE),⟨_,hI.out _⟩,rfl⟩,by simp[intOf];omega⟩
      ·go_ret;exact Xc.mk (congrArg Value.bool (hJ.out k l[k] HX.out (XqU pE)).symm) (hK.out ⟨_,hI.out _⟩)
   ·go_wp2;go_ret;exact Xc.mk (congrArg Value.bool (hL.out k (show l.length<=k by omega) hM.out).symm) (hK.out _)
end Go.Proofs.YtdcahhbipeaggaaGreatDoor
namespace Go.Proofs.YtdcahhbipeaggaaGreatDoor
open Go Go.RowKit
theorem Xhf{α β:Type}(p:β->Bool)(f:α->β):∀(l:List α) (i:Nat),YL p i (l.map f)=YL (λx=>p (f x)) i l
 |[],_=>rfl
 |a::l,i=>by rw[List.map_cons,YL,YL,Xhf p f l (i+1)]
theorem Xl5{α β:Type}(p:β->Bool)(f:α->β)(l:List α):idx p (l.map f)=idx (λx=>p (f x)) l:=Xhf p f l 0
theorem XdO{α β:Type}(p:Nat->β->Bool)(f:α->β):∀(l:List α) (i:Nat),YV p i (l.map f)=YV (λi x=>p i (f x)) i l
 |[],_=>rfl
 |a::l,i=>by rw[List.map_cons,YV,YV,XdO p f l (i+1)]
theorem XpQ{α β:Type}(p:Nat->β->Bool)(f:α->β)(l:List α):X8 p (l.map f)=X8 (λi x=>p i (f x)) l:=XdO p f l 0
def Yi.d(s:Yi):Xd:=⟨s.name,s.depth,s.low,s.high,s.length,⟨none,0,s.aG⟩,s.aM,s.aN,s.aI,s.most,s.aJ,⟨none,0,s.aF⟩,⟨none,0,s.aE⟩⟩
def Xl.d(h:Xl):Xf:=⟨h.name,h.aH,⟨none,0,h.aA.map Yi.d⟩,⟨none,0,h.aB⟩⟩
def Yn(h:Xl):Bool:=Xv h.d
theorem Zi(h:Xf):Xv h=Yn h.pl:=by
 have e:(h.pl).d.aA.l=h.aA.l.map λs=>(Xd.pl s).d:=by
  show(h.aA.l.map Xd.pl).map Yi.d=_;rw[List.map_map];rfl
 have hf:∀nm,YY (h.pl).d.aA.l nm=YY h.aA.l nm:=λnm=>by
  unfold YY;rw[e,Xl5];rfl
 have ha:X8 (setAt (h.pl).d.aA.l (h.pl).d.aH) (h.pl).d.aA.l=X8 (setAt h.aA.l h.aH) h.aA.l:=by
  have hs:(λ(i:Nat) (s:Xd)=>setAt (h.pl).d.aA.l (h.pl).d.aH i (Xd.pl s).d)=setAt h.aA.l h.aH:=by
   funext i s
   show(X0 (Xd.pl s).d&&decide ((Xd.pl s).d.high<=h.aH)&&decide (YY (h.pl).d.aA.l (Xd.pl s).d.name=(i:Int)))=_;rw[hf];rfl
  rw[<-hs]
  conv=>lhs;arg 2;rw[e]
  rw[XpQ]
 have hh:Ji (h.pl).d=Ji h:=by
  show(_&&_&&_&&decide ((h.pl).d.aA.l.length<=60)&&_)=_;rw[e,List.length_map];rfl
 show Xv h=Xv (h.pl).d;rw[Xv,Xv,ha,hh]
def YQ(c:Xp):Bool:=decide (c.aC.length<=60)&&decide (c.apart.length<=1000)&&c.aC.all Xfd&&decide ((c.aC.map λq=>q.aD.length).sum<=100)&&c.apart.all Xb1
theorem Xfv(s:Xq):Jr s=YQ s.pl:=by
 show(_&&_&&_&&_&&_)=(decide ((s.aC.l.map Xn.pl).length<=60)&&decide (s.apart.l.length<=1000)&&(s.aC.l.map Xn.pl).all Xfd&&decide (((s.aC.l.map Xn.pl).map λq=>q.aD.length).sum<=100)&&s.apart.l.all Xb1)
 rw[List.length_map,List.all_map,List.map_map];rfl
end Go.Proofs.YtdcahhbipeaggaaGreatDoor
namespace Go.Proofs.YtdcahhbipeaggaaGreatDoor
open Go Go.Lib
def YZ(n:Int):Prop:= -1000000000000000<n/\n<1000000000000000
def JO(b:ByteArray):Prop:=b.size<=1000000
def XvA(x:Xu):Prop:=JO x.name/\YZ x.place/\YZ x.width/\YZ x.weight/\YZ x.hang/\YZ x.front/\YZ x.back
def Xug(x:Xo):Prop:=JO x.name/\YZ x.weight/\YZ x.count
def Xvx(x:Xt):Prop:=JO x.name/\YZ x.fro/\YZ x.til/\YZ x.most
def Xvz(m:Xw):Prop:=JO m.set/\YZ m.to/\YZ m.aK/\YZ m.rise/\YZ m.fall
structure Xv8(s:Yi):Prop where
 name:JO s.name
 nums:YZ s.depth/\YZ s.low/\YZ s.high/\YZ s.length/\YZ s.aM/\YZ s.aN/\YZ s.aI/\YZ s.most/\YZ s.aJ
 aG:∀n∈s.aG,YZ n
 aF:∀x∈s.aF,XvA x
 aE:∀x∈s.aE,Xug x
structure Xwe(q:XW):Prop where
 name:JO q.name
 after:JO q.after
 nums:YZ q.link/\YZ q.aL/\YZ q.crew/\YZ q.power
 aD:∀m∈q.aD,Xvz m
structure XdV(h:Xl):Prop where
 name:JO h.name
 aH:YZ h.aH
 aA:∀s∈h.aA,Xv8 s
 aB:∀r∈h.aB,Xvx r
structure XdS(c:Xp):Prop where
 aC:∀q∈c.aC,Xwe q
 apart:∀p∈c.apart,JO p.1/\JO p.2
def Xar(ts:List Xh):Prop:=∀t∈ts,t.text.size<=1000000
def Vd{α:Type}(P:α->Prop)(x:Rd α):Prop:=∀a r,x=.ok (a,r)->P a/\Xar r
section
variable {α β:Type} {P:α->Prop} {Q:β->Prop}
theorem Vd.bind{x:Rd α}{f:α->List Xh->Rd β}(h:Vd P x)(hf:∀a r,P a->Xar r->Vd Q (f a r)):Vd Q (Xr x f):=by
 cases x with
 |error q=>intro a r e;cases e
 |ok v=>
  obtain⟨a,r⟩:=v;exact hf a r (h a r rfl).1 (h a r rfl).2
theorem Vd.ok{a:α}{r:List Xh}(h:P a)(hr:Xar r):Vd P (.ok (a,r)):=λa' r' e=>by
 simp only[Except.ok.injEq,Prod.mk.injEq] at e;rw[<-e.1,<-e.2];exact⟨h,hr⟩
theorem Vd.err{q:Int×Int}:Vd P (.error q):=λa r e=>by cases e
end
theorem Xar.tail{t:Xh}{r:List Xh}(h:Xar (t::r)):Xar r:=λx hx=>h x (by simp[hx])
theorem Xd2(k:Int)(ok:List UInt8->Bool){ts:List Xh}(h:Xar ts):Vd JO (XP k ok ts):=by
 cases ts with
 |nil=>exact Vd.err
 |cons t r=>
  simp only[XP];split
  ·exact Vd.ok (h t (by simp)) h.tail
  ·exact Vd.err
theorem Xae{ts:List Xh}(h:Xar ts):Vd JO (XT ts):=Xd2 _ _ h
theorem Xp7(neg:Bool){ts:List Xh}(h:Xar ts):Vd YZ (JS neg ts):=by
 cases ts with
 |nil=>exact Vd.err
 |cons t r=>
  simp only[JS];split
  ·cases hn:Xa2 (bs t.text) with
   |none=>exact Vd.err
   |some n=>
    obtain⟨h1,h2⟩:=Xa1.1 hn;have h3:=XlX (n:=n) (by rw[h1];exact h2);refine Vd.ok ?_ h.tail;unfold YZ;cases neg<;>simp<;>omega
  ·exact Vd.err
theorem XoT{ts:List Xh}(h:Xar ts):Vd YZ (Y2 ts):=by
 cases ts with
 |nil=>exact Vd.err
 |cons t r=>
  simp only[Y2];split
  ·exact Xp7 true h.tail
  ·exact Xp7 false h
theorem XcC:∀(k:Nat) {ts:List Xh},Xar ts->Vd (λl=>∀n∈l,YZ n) (XY k ts)
 |0,ts,h=>Vd.ok (λn hn=>by cases hn) h
 |k+1,ts,h=>by
  rw[Qt];refine(XoT h).bind λa r ha hr=>(XcC k hr).bind λl r' hl hC=>Vd.ok (λn hn=> ?_) hC;rcases List.mem_cons.1 hn with rfl|hn
  ·exact ha
  ·exact hl n hn
theorem Xqc:∀(f:Nat) {ts:List Xh},Xar ts->Vd (λl=>∀n∈l,YZ n) (Zy f ts)
 |0,ts,h=>Vd.err
 |f+1,ts,h=>by
  rw[Zy];have h1:=XoT h;cases hn:Y2 ts with
  |error p=>exact Vd.err
  |ok v=>
   obtain⟨n,r⟩:=v;obtain⟨hv,hr⟩:=h1 n r hn;simp only;split
   ·exact Vd.ok (λm hm=>by simp at hm;rw[hm];exact hv) hr
   ·have h2:=Xqc f hr;cases hm:Zy f r with
    |error p=>exact Vd.err
    |ok v=>
     obtain⟨l,r'⟩:=v;obtain⟨hl,hC⟩:=h2 l r' hm
     exact Vd.ok (λm hm=>by
      rcases List.mem_cons.1 hm with rfl|hm
      ·exact hv
      ·exact hl m hm) hC
theorem Xe5{α:Type}{P:α->Prop}:∀x∈([]:List α),P x:=λx hx=>by cases hx
theorem XvV:YZ 0:=by unfold YZ;omega
theorem Zu{l:List Int}(h:∀n∈l,YZ n)(i:Nat):YZ (nth l i):=by
 unfold nth;rw[List.getD_eq_getElem?_getD];cases hi:l[i]? with
 |none=>exact XvV
 |some v=>exact h v (lmg hi)
theorem XvD{ts:List Xh}(h:Xar ts):Vd Xv8 (setR ts):=by
 unfold setR;refine(Xae h).bind λnm r hn hr=>(XcC 9 hr).bind λa r ha hr=>(Xqc _ hr).bind λl r hl hr=>Vd.ok ?_ hr;exact⟨hn,⟨Zu ha _,Zu ha _,Zu ha _,Zu ha _,Zu ha _,Zu ha _,Zu ha _,Zu ha _,Zu ha _⟩,hl,Xe5,Xe5⟩
theorem XuT{ts:List Xh}(h:Xar ts):Vd XvA (XbE ts):=by
 unfold XbE;exact(Xae h).bind λnm r hn hr=>(XcC 6 hr).bind λa r ha hr=>Vd.ok ⟨hn,Zu ha _,Zu ha _,Zu ha _,Zu ha _,Zu ha _,Zu ha _⟩ hr
theorem Xt2{ts:List Xh}(h:Xar ts):Vd Xug (JJ ts):=by
 unfold JJ;exact(Xae h).bind λnm r hn hr=>(XcC 2 hr).bind λa r ha hr=>Vd.ok ⟨hn,Zu ha _,Zu ha _⟩ hr
theorem XuF{ts:List Xh}(h:Xar ts):Vd Xvx (Xby ts):=by
 unfold Xby;exact(Xae h).bind λnm r hn hr=>(XcC 3 hr).bind λa r ha hr=>Vd.ok ⟨hn,Zu ha _,Zu ha _,Zu ha _⟩ hr
theorem XuN{ts:List Xh}(h:Xar ts):Vd Xvz (XbB ts):=by
 unfold XbB;exact(Xae h).bind λnm r hn hr=>(XcC 4 hr).bind λa r ha hr=>Vd.ok ⟨hn,Zu ha _,Zu ha _,Zu ha _,Zu ha _⟩ hr
theorem Xt9{ts:List Xh}(h:Xar ts):Vd (λp:ByteArray×ByteArray=>JO p.1/\JO p.2) (JK ts):=by
 unfold JK;exact(Xae h).bind λa r ha hr=>(Xae hr).bind λb r hb hr=>Vd.ok ⟨ha,hb⟩ hr
theorem XuQ{ts:List Xh}(h:Xar ts):Vd (λk:Int×ByteArray=>YZ k.1/\JO k.2) (QF ts):=by
 unfold QF;refine(Xd2 1 Qg h).bind λw r hw hr=> ?_;split
 ·exact Vd.ok ⟨by unfold YZ;omega,Nat.zero_le _⟩ hr
 ·refine(Xae hr).bind λa r ha hr=>Vd.ok ⟨?_,ha⟩ hr;unfold YZ;split<;>omega
theorem XvR{ts:List Xh}(h:Xar ts):Vd Xwe (Xfc ts):=by
 unfold Xfc;exact(Xae h).bind λnm r hn hr=>(XuQ hr).bind λk r hk hr=>(XcC 3 hr).bind λa r ha hr=>Vd.ok ⟨hn,hk.2,⟨hk.1,Zu ha _,Zu ha _,Zu ha _⟩,Xe5⟩ hr
theorem XcB{α:Type}{P:α->Prop}{f:α->α}(hf:∀a,P a->P (f a)):∀(l:List α),(∀a∈l,P a)->∀a∈QH f l,P a
 |[],h,a,ha=>by simp[QH] at ha
 |[b],h,a,ha=>by
  simp only[QH,List.mem_singleton] at ha;rw[ha];exact hf b (h b (by simp))
 |b::c::l,h,a,ha=>by
  simp only[QH] at ha;rcases List.mem_cons.1 ha with rfl|ha
  ·exact h a (by simp)
  ·exact XcB hf (c::l) (λx hx=>h x (by simp only[List.mem_cons] at hx ⊢;exact Or.inr hx)) a ha
theorem Xvi{h:Xl}{c:Xp}(hh:XdV h)(hc:XdS c)(w:List UInt8)(p:Int×Int){ts:List Xh}(ht:Xar ts):Vd (λx:Xl×Xp=>XdV x.1/\XdS x.2) (X3 h c w p ts):=by
 have snoc:∀{α:Type} {P:α->Prop} {l:List α} {x:α},(∀a∈l,P a)->P x->∀a∈l++[x],P a:=λhl hx a ha=>by
  rcases List.mem_append.1 ha with ha|ha
  ·exact hl a ha
  ·rw[List.mem_singleton] at ha;rw[ha];exact hx
 unfold X3;split
 ·exact(XuF ht).bind λx r hx hr=>Vd.ok ⟨⟨hh.name,hh.aH,hh.aA,snoc hh.aB hx⟩,hc⟩ hr
 split
 ·exact(XvD ht).bind λx r hx hr=>Vd.ok ⟨⟨hh.name,hh.aH,snoc hh.aA hx,hh.aB⟩,hc⟩ hr
 split
 ·split
  ·exact Vd.err
  ·exact(XuT ht).bind λx r hx hr=>Vd.ok ⟨⟨hh.name,hh.aH,XcB (λs hs=>⟨hs.name,hs.nums,hs.aG,snoc hs.aF hx,hs.aE⟩) _ hh.aA,hh.aB⟩,hc⟩ hr
 split
 ·split
  ·exact Vd.err
  ·exact(Xt2 ht).bind λx r hx hr=>Vd.ok ⟨⟨hh.name,hh.aH,XcB (λs hs=>⟨hs.name,hs.nums,hs.aG,hs.aF,snoc hs.aE hx⟩) _ hh.aA,hh.aB⟩,hc⟩ hr
 split
 ·exact(XvR ht).bind λx r hx hr=>Vd.ok ⟨hh,⟨snoc hc.aC hx,hc.apart⟩⟩ hr
 split
 ·split
  ·exact Vd.err
  ·exact(XuN ht).bind λx r hx hr=>Vd.ok ⟨hh,⟨XcB (λq hq=>⟨hq.name,hq.after,hq.nums,snoc hq.aD hx⟩) _ hc.aC,hc.apart⟩⟩ hr
 ·exact(Xt9 ht).bind λx r hx hr=>Vd.ok ⟨hh,⟨hc.aC,snoc hc.apart hx⟩⟩ hr
theorem Xux{h:Xl}{c:Xp}(hh:XdV h)(hc:XdS c){ts:List Xh}(ht:Xar ts):Vd (λx:Xl×Xp=>XdV x.1/\XdS x.2) (Ye h c ts):=by
 unfold Ye;exact(Xd2 1 XM ht).bind λw r _ hr=>(Xvi hh hc _ _ hr).bind λx r hx hr=>(Xd2 4 _ hr).bind λ_ r _ hr=>Vd.ok hx hr
theorem Xgg:∀(ts:List Xh),Xar ts->Xar (XS ts)
 |[],h=>h
 |t::r,h=>by
  simp only[XS];split
  ·exact Xgg r h.tail
  ·exact h
theorem Xp2:∀(f:Nat) {h:Xl} {c:Xp},XdV h->XdS c->∀{ts:List Xh},Xar ts->Vd (λx:Xl×Xp=>XdV x.1/\XdS x.2) (Zl f h c ts)
 |0,h,c,hh,hc,ts,ht=>Vd.err
 |f+1,h,c,hh,hc,ts,ht=>by
  rw[Zl];split
  ·exact Vd.ok ⟨hh,hc⟩ (Xgg _ ht)
  ·exact(Xux hh hc (Xgg _ ht)).bind λx r hx hr=>Xp2 f hx.1 hx.2 hr
theorem XuG{ts:List Xh}(ht:Xar ts):Vd (λx:Xl×Xp=>XdV x.1/\XdS x.2) (Zr ts):=by
 unfold Zr;have hd:Vd (λx:ByteArray×Int=>JO x.1/\YZ x.2) (XaA ts):=by
  unfold XaA;exact(Xd2 1 _ (Xgg _ ht)).bind λ_ r _ hr=>(Xae hr).bind λnm r hn hr=>(XoT hr).bind λn r hv hr=>(Xd2 4 _ hr).bind λ_ r _ hr=>Vd.ok ⟨hn,hv⟩ hr
 exact hd.bind λx r hx hr=>Xp2 _ ⟨hx.1,hx.2,Xe5,Xe5⟩ ⟨Xe5,Xe5⟩ hr
theorem YZ.i64{n:Int}(h:YZ n):I64 n:=by unfold YZ at h;unfold I64;omega
theorem JO.max{b:ByteArray}(h:JO b):b.size<=Go.maxLen:=by unfold JO at h;unfold maxLen;omega
theorem Xtz{h:Xf}{p:Xl}(hp:h.pl=p)(hv:XdV p):h.ok:=by
 subst hp;refine⟨hv.name.max,hv.aH.i64,λs hs=> ?_,λr hr=> ?_⟩
 ·have h1:=hv.aA (Xd.pl s) (List.mem_map_of_mem hs);obtain⟨n1,n2,n3,n4,n5,n6,n7,n8,n9⟩:=h1.nums
  exact⟨h1.name.max,n1.i64,n2.i64,n3.i64,n4.i64,λn hn=>(h1.aG n hn).i64,n5.i64,n6.i64,n7.i64,n8.i64,n9.i64,λx hx=>by
   obtain⟨a,b,c,d,e,f,g⟩:=h1.aF x hx;exact⟨a.max,b.i64,c.i64,d.i64,e.i64,f.i64,g.i64⟩,λx hx=>by
   obtain⟨a,b,c⟩:=h1.aE x hx
   exact⟨a.max,b.i64,c.i64⟩⟩
 ·obtain⟨a,b,c,d⟩:=hv.aB r hr;exact⟨a.max,b.i64,c.i64,d.i64⟩
theorem XsC{s:Xq}{p:Xp}(hp:s.pl=p)(hv:XdS p):s.ok:=by
 subst hp;refine⟨λq hq=> ?_,λp hp=> ?_⟩
 ·have h1:=hv.aC (Xn.pl q) (List.mem_map_of_mem hq);obtain⟨n1,n2,n3,n4⟩:=h1.nums
  exact⟨h1.name.max,h1.after.max,n1.i64,n2.i64,λm hm=>by
   obtain⟨a,b,c,d,e⟩:=h1.aD m hm
   exact⟨a.max,b.i64,c.i64,d.i64,e.i64⟩,n3.i64,n4.i64⟩
 ·obtain⟨a,b⟩:=hv.apart p hp;exact⟨a.max,b.max⟩
end Go.Proofs.YtdcahhbipeaggaaGreatDoor
namespace Go.Proofs.YtdcahhbipeaggaaGreatDoor
open Go Go.RowKit
theorem XnG{α:Type}{cells:α->List Value}{size:Nat}(hs:∀x,(cells x).length=size):∀(l:List α) (i:Nat) (x:α),l[i]? =some x->∀(j:Nat) (u:Value),(cells x)[j]? =some u->(l.flatMap cells)[i*size+j]? =some u
 |a::l,0,x,h,j,u,hu=>by
  simp only[List.getElem?_cons_zero,Option.some.injEq] at h;subst h;have hj:j<(cells a).length:=(lgS hu).1;rw[Nat.zero_mul,Nat.zero_add,List.flatMap_cons,List.getElem?_append_left hj];exact hu
 |a::l,i+1,x,h,j,u,hu=>by
  have h1:=XnG hs l i x (by simpa using h) j u hu;rw[List.flatMap_cons,List.getElem?_append_right (by rw[hs a,Nat.add_mul];omega),hs a];rw[show(i+1)*size+j-size=i*size+j by rw[Nat.add_mul];omega];exact h1
theorem Jq{α:Type}{cells:α->List Value}{w:World}{base:Nat}{e:TypeId}{size:Nat}{s:Sl α}(hs:∀x,(cells x).length=size)(h:w.ownsRow base e size s.val s.l.length (s.l.flatMap cells)):XA w w.heap.size size cells s:=by
 obtain⟨A,cap,l⟩:=s;have h':w.ownsRow base e size (.slice A l.length cap) l.length (l.flatMap cells):=h;rcases Jf h' with ⟨rfl,rfl,h0⟩|⟨g,cur,rfl,hb,hh,h1,h2,h3,h4⟩
 ·have hl:l=[]:=List.eq_nil_of_length_eq_zero h0;subst hl;exact⟨Nat.le_refl _,Nat.zero_le _,λh=>absurd h (by simp)⟩
 ·refine⟨h1,h2,λ_=>⟨g,0,rfl,(agS hh).1,λi x hi j u hu=> ?_⟩⟩;have h5:=XnG hs l i x hi j u hu;rw[<-h4,List.getElem?_take] at h5;split at h5
  ·rw[Nat.zero_add,Joins.cell_of_block hh,<-Array.getElem?_toList];exact h5
  ·cases h5
section
variable {rb:Nat} {x:World} {S:Sl Xd} {R:Sl Xt} {C:Sl Xn} {A:Sl (ByteArray×ByteArray)}
theorem Xio(h:Rows (rb+1) x (XE S R C A))(nm:ByteArray)(ht:Int):Xf.at_ x x.heap.size ⟨nm,ht,S,R⟩:=by
 have hm:∀r,r∈XE S R C A->r.lies (rb+1) x:=h.all;refine⟨Jq (λ_=>rfl) (hm ⟨57,13,S.val,S.l.length,S.l.flatMap Xd.cells⟩ (by unfold XE;simp)),λs hs=> ?_,Jq (λ_=>rfl) (hm ⟨67,4,R.val,R.l.length,R.l.flatMap Xt.cells⟩ (by unfold XE;simp))⟩
 have hr:∀r∈Xd.rows s,r.lies (rb+1) x:=λr hr=>hm r (by
  unfold XE;simp only[List.mem_cons,List.mem_append,List.mem_flatMap]
  exact Or.inr (Or.inr (Or.inr (Or.inr (Or.inl ⟨s,hs,hr⟩)))))
 exact⟨Jq (λ_=>rfl) (hr ⟨3,1,s.aG.val,s.aG.l.length,s.aG.l.flatMap Xj⟩ (by simp[Xd.rows])),Jq (λ_=>rfl) (hr ⟨86,7,s.aF.val,s.aF.l.length,s.aF.l.flatMap Xu.cells⟩ (by simp[Xd.rows])),Jq (λ_=>rfl) (hr ⟨88,3,s.aE.val,s.aE.l.length,s.aE.l.flatMap Xo.cells⟩ (by simp[Xd.rows]))⟩
theorem Xin(h:Rows (rb+1) x (XE S R C A)):Xq.at_ x x.heap.size ⟨C,A⟩:=by
 have hm:∀r,r∈XE S R C A->r.lies (rb+1) x:=h.all;refine⟨Jq (λ_=>rfl) (hm ⟨70,7,C.val,C.l.length,C.l.flatMap Xn.cells⟩ (by unfold XE;simp)),λq hq=> ?_,Jq (λ_=>rfl) (hm ⟨73,2,A.val,A.l.length,A.l.flatMap X5⟩ (by unfold XE;simp))⟩
 have hr:∀r∈Xn.rows q,r.lies (rb+1) x:=λr hr=>hm r (by
  unfold XE;simp only[List.mem_cons,List.mem_append,List.mem_flatMap]
  exact Or.inr (Or.inr (Or.inr (Or.inr (Or.inr ⟨q,hq,hr⟩)))))
 exact⟨Jq (λ_=>rfl) (hr ⟨72,5,q.aD.val,q.aD.l.length,q.aD.l.flatMap Xw.cells⟩ (by simp[Xn.rows]))⟩
theorem XoA{n:Nat}(h:∀r∈XE S R C A,r.n<=n):∀q∈C.l,q.aD.l.length<=n:=λq hq=>h ⟨72,5,q.aD.val,q.aD.l.length,q.aD.l.flatMap Xw.cells⟩ (by
 unfold XE;simp only[List.mem_cons,List.mem_append,List.mem_flatMap]
 exact Or.inr (Or.inr (Or.inr (Or.inr (Or.inr ⟨q,hq,by simp[Xn.rows]⟩)))))
end
end Go.Proofs.YtdcahhbipeaggaaGreatDoor
