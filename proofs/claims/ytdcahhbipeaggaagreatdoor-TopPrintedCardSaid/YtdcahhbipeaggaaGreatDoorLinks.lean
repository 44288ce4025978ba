/- Lemmas for TopPrinted: CueTrims, Links. -/
import Derived.Test.YtdcahhbipeaggaaGreatDoorCueLen
set_option maxRecDepth 100000
set_option maxHeartbeats 16000000
namespace Go.Proofs.YtdcahhbipeaggaaGreatDoor
open Go.RowKit
def Y9(w:World)(r:Sl Int):Prop:=(r.A=none/\r.cap=0/\r.l=[])\/∃g,r.A=some ⟨g,0,none⟩/\0<r.l.length/\YW w g r.cap r.l
theorem Y9.below{w w':World}{r:Sl Int}(h:Y9 w r)(hb:Below w.heap.size w w'):Y9 w' r:=by
 rcases h with h|⟨g,h1,h2,h3⟩
 ·exact Or.inl h
 ·exact Or.inr ⟨g,h1,h2,h3.below h3.lt hb⟩
theorem Y9.slAt{w:World}{r:Sl Int}(h:Y9 w r):XA w w.heap.size 1 Xj r:=by
 rcases h with ⟨h1,h2,h3⟩|⟨g,h1,h2,h3⟩
 ·exact⟨by rw[h3];simp,by rw[h2];simp,λhn=>absurd hn (by rw[h3];simp)⟩
 ·have:=h3.slAt;obtain⟨A,c,l⟩:=r;simp only at h1;subst h1;exact this
theorem Y9.grown{w u y:World}{r:Sl Int}{base size n:Nat}{v:Value}{xs:List Value}{t:TypeId}(h:Y9 w r)(ht:t≠3)(hC:w.ownsRow base t size v n xs)(hu:Below w.heap.size w u)(hg:u.grownBy y v.ownBlock):Y9 y r:=by
 rcases h with h|⟨g,h1,h2,h3⟩
 ·exact Or.inl h
 refine Or.inr ⟨g,h1,h2,?_⟩;obtain⟨cur,hc,hr⟩:=h3;have hD:g<w.heap.size:=(agS hc).1;have hE:g<u.heap.size:=Nat.lt_of_lt_of_le hD hu.size;have hG:v.ownBlock≠some g:=by
  rcases hC.2 with ⟨hv,_⟩|⟨g2,cap2,cur2,hv,-,hh,-⟩
  ·rw[hv];simp[Value.ownBlock]
  ·rw[hv];intro e;simp[Value.ownBlock] at e;subst e;rw[hc] at hh;injection hh with hh;injection hh with e1 e2 e3;exact ht e2.symm
 exact⟨cur,(hg.block g hE (Ne.symm hG)).trans ((hu.block g hD).trans hc),hr⟩
theorem X7.rowIn{W x:World}{v:Value}{l:List Int}(h:X7 3 1 Xj W v l x)(hz:l=[]->v=.slice none 0 0):∃r:Sl Int,v=.slice r.A r.l.length r.cap/\r.l=l/\Y9 x r:=by
 have hf:l.flatMap Xj=l.map (Value.int .i64):=by
  clear h hz;induction l with
  |nil=>rfl
  |cons a l ih=>rw[List.flatMap_cons,ih];rfl
 rcases h.own.2 with ⟨hv,h0⟩|⟨g,cap,cur,hv,hg,hh,hD,hE,hG,hC⟩
 ·have hl:l=[]:=List.eq_nil_of_length_eq_zero h0;subst hl;exact⟨⟨none,0,[]⟩,hv,rfl,Or.inl ⟨rfl,rfl,rfl⟩⟩
 ·by_cases h0:0<l.length
  ·refine⟨⟨some ⟨g,0,none⟩,cap,l⟩,hv,rfl,Or.inr ⟨g,rfl,h0,cur,hh,hD,hE,by simpa using hG,?_⟩⟩;rw[<-hf];simpa using hC
  ·have e0:l=[]:=List.eq_nil_of_length_eq_zero (by simpa using h0);exact⟨⟨none,0,[]⟩,hz e0,e0.symm,Or.inl ⟨rfl,rfl,rfl⟩⟩
theorem Xrl(h:Xf)(q:Xn)(hq:q.aD.l=[])(w:World):
 Calls Tryz.prog 48 #[.agg #[.string h.name,.int .i64 h.aH,.slice h.aA.A h.aA.l.length h.aA.cap,.slice h.aB.A h.aB.l.length h.aB.cap],.slice none 0 0,.agg #[.string q.name,.string q.after,.int .i64 q.link,.int .i64 q.aL,.slice q.aD.A q.aD.l.length q.aD.cap,.int .i64 q.crew,.int .i64 q.power]] w λe w'=>e=.returned (.slice none 0 0)/\Below w.heap.size w w':=by
 obtain⟨W1,hE,hG,hH,hK⟩:=bxhs w h;obtain⟨W,hI,hL,hJ,hC⟩:=bxcu W1 q;have hb:Below w.heap.size w W:=hH.trans (hJ.mono (by omega));rw[hG] at hC;have hD:=Xn.boxed hC (by omega) (Xb.refl W.heap.size W);simp only[Xb.refl] at hD;have HW:=Xa (show(w.alloc (.cells #[.string h.name,.int .i64 h.aH,.slice h.aA.A h.aA.l.length h.aA.cap,.slice h.aB.A h.aB.l.length h.aB.cap] 25)).alloc (.cells #[.string q.name,.string q.after,.int .i64 q.link,.int .i64 q.aL,.slice q.aD.A q.aD.l.length q.aD.cap,.int .i64 q.crew,.int .i64 q.power] 70)=W by rw[<-hE,<-hI])
 have HB:=Xa hb;clear hE hI hG hL hH hJ hK hC hb;obtain⟨nm,af,lk,dl,⟨mA,mcap,ml⟩,cr,pw⟩:=q;simp only at hq hD ⊢;subst hq;simp only[List.length_nil] at hD HW;go_enter Tryz.func48,Tryz.ntmps48;go_upto_region 1 with fail;rw[HW.out];have KC:=Xa (Tryz.slices_Clone_int_nil 0 0 W);go_wp2_with (go_at_call 100;refine KC.out.mono ?_;rintro e w1 ⟨rfl,rfl⟩)
 go_loopw [15] (λv wr=>v=.int .i64 0/\wr=w1) (λv _=>0)
 case atStart=>exact⟨rfl,rfl⟩
 case round=>
  obtain⟨rfl,rfl⟩:=hrel;go_wp2;go_ret;exact⟨rfl,HB.out⟩
theorem Xrk(h:Xf)(q:Xn)(tr:Sl Int)(hC:Xec (h.aA.l.map Xd.pl) q.aD.l)(hlen:tr.l.length=h.aA.l.length)(hl:tr.l.length<=1000)(w:World)(hG:Xf.at_ w w.heap.size h)(qat:Xn.at_ w w.heap.size q)(hD:Y9 w tr):
 Calls Tryz.prog 48 #[.agg #[.string h.name,.int .i64 h.aH,.slice h.aA.A h.aA.l.length h.aA.cap,.slice h.aB.A h.aB.l.length h.aB.cap],.slice tr.A tr.l.length tr.cap,.agg #[.string q.name,.string q.after,.int .i64 q.link,.int .i64 q.aL,.slice q.aD.A q.aD.l.length q.aD.cap,.int .i64 q.crew,.int .i64 q.power]] w λe w'=>∃r:Sl Int,e=.returned (.slice r.A r.l.length r.cap)/\r.l=Zw (h.aA.l.map Xd.pl) q.aD.l tr.l/\Y9 w' r/\Below w.heap.size w w':=by
 have hE:=XcF (h.aA.l.map Xd.pl) q.aD.l tr.l;by_cases h0:0<tr.l.length
 ·refine(Xrm h q tr hC hlen h0 hl w hG qat hD.slAt).mono ?_;rintro e w' ⟨g,cap,rfl,-,hH,hb⟩;exact⟨⟨some ⟨g,0,none⟩,cap,Zw (h.aA.l.map Xd.pl) q.aD.l tr.l⟩,by show _=Ending.returned (.slice _ (Zw (h.aA.l.map Xd.pl) q.aD.l tr.l).length _);rw[hE],rfl,Or.inr ⟨g,rfl,by show 0<(Zw (h.aA.l.map Xd.pl) q.aD.l tr.l).length;rw[hE];exact h0,hH⟩,hb⟩
 ·obtain⟨A,c,l⟩:=tr;have e0:l=[]:=List.eq_nil_of_length_eq_zero (by simpa using h0);subst e0;rcases hD with ⟨h1,h2,-⟩|⟨g,-,h2,-⟩
  ·simp only at h1 h2;subst h1 h2;have hq:q.aD.l=[]:=by
    cases hm:q.aD.l with
    |nil=>rfl
    |cons m ms=>
     obtain⟨j,s,-,hs,-⟩:=hC m (by rw[hm];simp);have:=(lgS hs).1;simp at hlen;simp at this;omega
   refine(Xrl h q hq w).mono ?_;rintro e w' ⟨rfl,hb⟩;exact⟨⟨none,0,[]⟩,rfl,by rw[hq];rfl,Or.inl ⟨rfl,rfl,rfl⟩,hb⟩
  ·exact absurd h2 (by simp)
def JT(S:List Yi)(Q:List XW)(i:Nat):List Int:=(Q.take i).foldl (λt q=>Zw S q.aD t) (S.map (·.high))
theorem XiH{S:List Yi}{Q:List XW}{i:Nat}{q:XW}(h:Q[i]? =some q):JT S Q (i+1)=Zw S q.aD (JT S Q i):=by
 unfold JT;rw[List.take_add_one,h,Option.toList_some,List.foldl_append];rfl
theorem Xre(S:List Yi)(Q:List XW):∀i,(JT S Q i).length=S.length:=by
 intro i;unfold JT;generalize Q.take i=L;have:∀(L:List XW) (t:List Int),(L.foldl (λt q=>Zw S q.aD t) t).length=t.length:=by
  intro L;induction L with
  |nil=>intro t;rfl
  |cons q L ih=>intro t;rw[List.foldl_cons,ih];exact XcF _ _ _
 rw[this,List.length_map]
def XaW(S:List Yi)(Q:List XW)(k:Nat):List (List Int):=(List.range (k+1)).map (JT S Q)
theorem XmG(S:List Yi)(Q:List XW)(k:Nat):XaW S Q (k+1)=XaW S Q k++[JT S Q (k+1)]:=by
 unfold XaW;rw[List.range_succ,List.map_append];rfl
def Xbv(r:Sl Int):List Value:=[.slice r.A r.l.length r.cap]
theorem XuW:(Tryz.prog.info? 30).map (λi=>(i.zero,i.size,i.bytes))=some (some (.slice none 0 0),1,24):=by kernel_rfl
theorem XjM:∃i,Tryz.prog.info? 30=some i/\i.zero=some (.slice none 0 0)/\i.size=1/\i.bytes=24:=by
 have h:=XuW;cases hi:Tryz.prog.info? 30 with
 |none=>rw[hi] at h;cases h
 |some i=>
  rw[hi] at h;simp only[Option.map_some,Option.some.injEq,Prod.mk.injEq] at h;exact⟨i,rfl,h.1,h.2.1,h.2.2⟩
theorem Xql:(Tryz.prog.info? 3).map (λi=>(i.zero,i.size,i.bytes))=some (some (.int .i64 0),1,8):=by kernel_rfl
theorem ZW:∃i,Tryz.prog.info? 3=some i/\i.zero=some (.int .i64 0)/\i.size=1/\i.bytes=8:=by
 have h:=Xql;cases hi:Tryz.prog.info? 3 with
 |none=>rw[hi] at h;cases h
 |some i=>
  rw[hi] at h;simp only[Option.map_some,Option.some.injEq,Prod.mk.injEq] at h;exact⟨i,rfl,h.1,h.2.1,h.2.2⟩
theorem XmP(r:Sl Int):(Xbv r).length=1:=rfl
theorem X7.one{W x:World}{r:Sl Int}(hb:Below W.heap.size W x):X7 30 1 Xbv W (.slice (some ⟨x.heap.size,0,none⟩) 1 1) [r] (x.alloc (.cells #[.slice r.A r.l.length r.cap] 30)):=
 ⟨⟨rfl,Or.inr ⟨x.heap.size,1,#[.slice r.A r.l.length r.cap],rfl,hb.size,heap_alloc_new x _,Nat.le_refl _,by unfold maxLen;omega,rfl,rfl⟩⟩,hb.alloc hb.size _⟩
def Xlh(S:List Yi)(Q:List XW)(w:World)(e:Ending)(w':World):Prop:=
 Below w.heap.size w w'/\∃R:Sl (Sl Int),e=.returned (.tuple #[.slice R.A R.l.length R.cap,.int .i64 0])/\XA w' w'.heap.size 1 Xbv R/\R.l.map (·.l)=XaW S Q Q.length/\∀r∈R.l,Y9 w' r
theorem Xgr(h:Xf)(qE:h.ok)(s:Xq)(sok:s.ok)(qF:∀q∈s.aC.l,q.aD.l.length<=1000000)(hv:Y5 h.pl s.pl=true)(w:World)(qG:Xf.at_ w w.heap.size h)(sat:Xq.at_ w w.heap.size s):
 Calls Tryz.prog 15 #[.agg #[.string h.name,.int .i64 h.aH,.slice h.aA.A h.aA.l.length h.aA.cap,.slice h.aB.A h.aB.l.length h.aB.cap],.agg #[.slice s.aC.A s.aC.l.length s.aC.cap,.slice s.apart.A s.apart.l.length s.apart.cap]] w (Xlh h.pl.aA s.pl.aC w):=by
 have pJ:=Jd hv;have qH:∀q∈s.aC.l,Xec (h.aA.l.map Xd.pl) q.aD.l:=λq hq=>XcE (pJ.right q.pl (List.mem_map.2 ⟨q,hq,rfl⟩));have rO:s.aC.l.length<=60:=by simpa[Xq.pl] using pJ.few
 have rP:h.aA.l.length<=60:=by
  have h1:=pJ.house;rw[<-Zi,Xv,bae] at h1;have:=(Zj.1 h1.1).2.2.2.1;omega
 obtain⟨W1,qI,qJ,qK,qL⟩:=bxhs w h;obtain⟨W,qM,rD,pQ,pR⟩:=bxsh W1 s;have hb:Below w.heap.size w W:=qK.trans (pQ.mono (by omega));have pA:=(pQ.block _ (by omega)).trans qL;rw[qJ] at pR;have pB:=λy:Xb W.heap.size W=>Xf.boxed pA (by omega) y;have pK:=λy:Xb W.heap.size W=>Xq.boxed pR (by omega) y;have pS:w.heap.size<=W.heap.size:=by omega
 have qN:=bdo hb;have hP:=qG.to hb pS;have satW:=sat.to hb pS;have KV:=Xa (Xc.first (hv▸XcP h s qE sok qF W W.heap.size nr hP satW));have HW:=Xa (show(w.alloc (.cells #[.string h.name,.int .i64 h.aH,.slice h.aA.A h.aA.l.length h.aA.cap,.slice h.aB.A h.aB.l.length h.aB.cap] 25)).alloc (.cells #[.slice s.aC.A s.aC.l.length s.aC.cap,.slice s.apart.A s.apart.l.length s.apart.cap] 29)=W by rw[<-qI,<-qM]);have rE:=Xa qN;have hH:=Xa hP;have SATW:=Xa satW;have rF:=Xa qH;obtain⟨i0,hi,qO,pL,qP⟩:=ZW;have HI:=Xa (And.intro hi (And.intro qO (And.intro pL qP)))
 obtain⟨i1,hj,qQ,qR,qS⟩:=XjM;have HJ:=Xa (And.intro hj (And.intro qQ (And.intro qR qS)));clear qI qM qJ rD qK pQ qL pR pA hb qN qG sat hP satW qE sok qF hv pJ qH hi qO pL qP hj qQ qR qS;have qT:=And.intro (pB (Xb.refl _ _)) (pK (Xb.refl _ _));simp only[Xb.refl] at qT;obtain⟨⟨qA,qcap,ql⟩,ap⟩:=s;obtain⟨hn,rG,⟨sA,scap,sl⟩,rfs⟩:=h;simp only at*;have rQ:ql.length<=qcap:=SATW.out.aC.1;have rR:qcap<=9223372036854775807:=SATW.out.aC.2.1;have rS:sl.length<=scap:=hH.out.aA.1;have rT:scap<=9223372036854775807:=hH.out.aA.2.1;show Calls _ _ _ _ (Xlh (sl.map Xd.pl) (ql.map Xn.pl) w)
 obtain⟨S,hS⟩:∃S,S=sl.map Xd.pl:=⟨_,rfl⟩
 rw[<-hS];have HS:=Xa hS;clear hS;go_enter Tryz.func15,Tryz.ntmps15;go_upto_region 1 with fail;rw[HW.out];go_wp2_with (go_at_call 7;refine KV.out.mono ?_;rintro e w' ⟨rfl,y,rfl⟩;have rH:=And.intro (pB y) (pK y))
 clear qT;go_loopw [6,19] (λv6 v wr=>∃k:Nat,v=.int .i64 k/\k<=sl.length/\Hid (X7 3 1 Xj y.val v6 ((sl.take k).map (·.high)) wr)/\Hid (k=0->v6=.slice none 0 0)) (λ_ v _=>sl.length-(intOf v).toNat)
 case atStart=>exact⟨0,rfl,Nat.zero_le _,Xa (X7.start _ _ _ brf),Xa (λ_=>rfl)⟩
 case round=>
  obtain⟨k,rfl,hk,hD,hz⟩:=hrel;by_cases pC:k<sl.length
  ·obtain⟨b,off,hA,hb,hC⟩:=hH.out.aA.2.2 (show 0<sl.length by omega);simp only at hA;subst hA;have hx:sl[k]? =some sl[k]:=lgE pC;obtain⟨q,hq⟩:∃q,q=sl[k]:=⟨_,rfl⟩
   rw[<-hq] at hx;have hI:Below W.heap.size W wr:=y.below.trans (hD.out.bel.mono y.size);have he:=Xd.elem hx hb hC ⟨wr,hI⟩;simp only at he;have pT:(sl.take (k+1)).map (·.high)=(sl.take k).map (·.high)++[q.high]:=by
    rw[List.take_add_one,hx,List.map_append];rfl
   have hlen:((sl.take k).map (·.high)).length=k:=by simp;omega
   obtain⟨L,hL⟩:∃L,L=(sl.take k).map (·.high):=⟨_,rfl⟩
   rw[<-hL] at hD pT hlen;obtain⟨Y,hY,qU,hM,pD⟩:=bxst wr q;have hW:=Xd.boxed pD (by omega) (Xb.refl Y.heap.size Y);simp only[Xb.refl] at hW;have hW:=hW.2.2.2.1;have pS:=hD.out.bel.size;have rI:(0:Int)<=(k:Int)/\(k:Int)<(sl.length:Int):=by omega
   have rJ:=Xa pT;have HY:=Xa hY;have pM:=Xa (hD.out.more hM);clear hC hx pT hL hD pD hM hq hY hz hI;go_upto_region 7 with fail;rw[<-HY.out];clear he;go_wp2_with (at_builtin;refine Hid.out ?_)
   refine Lib.hid ?_;refine wpList_append_own _ rfl _ _ 30 rfl y.val.heap.size 3 i0 _ 1 8 Tryz.underlying30 HI.out.1 HI.out.2.1 HI.out.2.2.1 HI.out.2.2.2 rfl (by decide) _ _ _ rfl (pM.out.own.alloc _) ⟨wr.heap.size+1,0,none⟩ 1 1 (Xj q.high) rfl rfl (by rw[<-qU];exact World.news_of_block (heap_alloc_new Y _)) (λu hu=>by simp[Xj] at hu;subst hu;rfl) (by unfold maxLen;omega) (by omega) (by simp;omega) ?_;intro v' w2 pE pU _;go_wp2_with fail;exact⟨⟨k+1,by go_num,by omega,Xa (by rw[rJ.out];exact pM.out.append (ls:=[q.high]) (brf.alloc nr _) pE pU),Xa (λh0=>absurd h0 (by omega))⟩,by simp[intOf];omega⟩
  ·have pN:sl.take k=sl:=List.take_of_length_le (by omega);rw[pN] at hD
   have pL:sl.map (·.high)=[]->u6=.slice none 0 0:=λh0=>hz.out (by
    have h1:sl.length=0:=by simpa using congrArg List.length h0
    omega)
   obtain⟨⟨rA,rc,rl⟩,rfl,pV,hE⟩:=hD.out.rowIn pL;simp only at pV hE ⊢;have hI:Below W.heap.size W wr:=y.below.trans (hD.out.bel.mono y.size);have qV:=And.intro (pB ⟨wr,hI⟩) (pK ⟨wr,hI⟩);simp only at qV;obtain⟨Z,hZ,rU,pW,rK⟩:=boxed wr (.cells #[.slice rA rl.length rc] 30);have pX:Below W.heap.size W Z:=hI.trans (pW.mono hI.size);have pF:X7 30 1 Xbv wr (.slice (some ⟨wr.heap.size,0,none⟩) 1 1) [⟨rA,rc,rl⟩] Z:=by
    rw[hZ];exact X7.one (r:=⟨rA,rc,rl⟩) brf
   have qW:=And.intro (pB ⟨Z,pX⟩) (pK ⟨Z,pX⟩);simp only at qW;have HZ:=Xa hZ;have pY:=Xa pF;have pG:=Xa (hE.below pW);have qX:=Xa (show rl=JT S (ql.map Xn.pl) 0 by rw[pV,HS.out];unfold JT;rw[List.take_zero,List.foldl_nil,List.map_map];rfl);have qY:=Xa hI;clear hZ pW rK pF hE pV hD hz pN rH pX hI;go_upto_region 10 with fail;rw[<-HZ.out];clear qV;go_wp2_with fail;clear qW;generalize wr=U at*;go_loopw [6,9,34] (λv6 v9 v wr2=>∃(k:Nat) (r:Sl Int) (R:List (Sl Int)),v=.int .i64 k/\k<=ql.length/\v6=.slice r.A r.l.length r.cap/\Hid (r.l=JT S (ql.map Xn.pl) k)/\Hid (Y9 wr2 r)/\Hid (X7 30 1 Xbv U v9 R wr2)/\Hid (R.map (·.l)=XaW S (ql.map Xn.pl) k)/\Hid (∀x∈R,Y9 wr2 x)) (λ_ _ v _=>ql.length-(intOf v).toNat)
   case atStart=>exact⟨0,⟨rA,rc,rl⟩,[⟨rA,rc,rl⟩],rfl,Nat.zero_le _,rfl,qX,pG,pY,Xa (by show [rl]=_;rw[qX.out];rfl),Xa (λx hx=>by rw[List.mem_singleton] at hx;subst hx;exact pG.out)⟩
   case round=>
    obtain⟨k,⟨nA,nc,nl⟩,R,rfl,hk,rfl,hJ,hE,hD,hQ,hR⟩:=hrel;simp only at hJ hE ⊢;have hK:Below W.heap.size W wr:=qY.out.trans (hD.out.bel.mono qY.out.size);by_cases pC:k<ql.length
    ·obtain⟨b,off,hA,hb,hC⟩:=SATW.out.aC.2.2 (show 0<ql.length by omega);simp only at hA;subst hA;have hx:ql[k]? =some ql[k]:=lgE pC;have pZ:=rF.out ql[k] (List.getElem_mem pC);have hT:=SATW.out.each ql[k] (List.getElem_mem pC);obtain⟨q,hq⟩:∃q,q=ql[k]:=⟨_,rfl⟩
     rw[<-hq] at hx pZ hT;have he:=Xn.elem hx hb hC ⟨wr,hK⟩;simp only at he;obtain⟨Y,hY,qU,hM,pD⟩:=bxcu wr q;have hX:Below W.heap.size W Y:=hK.trans (hM.mono hK.size);have hW:=And.intro (Xn.boxed pD (by omega) (Xb.refl Y.heap.size Y)) (pB ⟨Y,hX⟩);simp only[Xb.refl] at hW;have qB:=XiH (S:=S) (Q:=ql.map Xn.pl) (i:=k) (q:=q.pl) (by rw[List.getElem?_map,hx];rfl);rw[<-hJ.out] at qB;have qZ:nl.length=sl.length:=by rw[hJ.out,Xre,HS.out,List.length_map]
     have KM:=Xa (Xrk ⟨hn,rG,⟨sA,scap,sl⟩,rfs⟩ q ⟨nA,nc,nl⟩ pZ qZ (by show nl.length<=_;omega) Y (hH.out.to hX hX.size) (hT.to hX hX.size) (hE.out.below hM));simp only at KM;rw[<-HS.out] at KM;have rB:=Xa qB;have pM:=Xa (hD.out.more hM);have qC:=Xa (λx hx=>(hR.out x hx).below hM);have HY:=Xa hY;have rI:(0:Int)<=(k:Int)/\(k:Int)<(ql.length:Int):=by omega
     have rV:R.length=k+1:=by have:=congrArg List.length hQ.out;simpa[XaW] using this
     have rL:=hD.out.bel.size;clear hC hx pZ hT hq pD hM hY qB qZ hD hR hX hE hJ;go_upto_region 13 with fail;rw[<-HY.out];clear he;go_upto_region 14 with (go_at_call 48;refine KM.out.mono ?_;rintro e w3 ⟨⟨mA,mc,ml⟩,rfl,pO,hG,pP⟩;replace pO:=Xa pO)
     try simp only at hG ⊢
     have pH:=pM.out.more pP;have rW:=pP.size;have rC:=Xa (show ml=Zw S q.aD.l nl from pO.out);have hN:=Xa hG;have hU:=Xa pH;have pI:=Xa (λx hx=>(qC.out x hx).below pP);clear pO hG pH pP hW;go_wp2_with (at_builtin;refine Hid.out ?_)
     refine Lib.hid ?_;refine wpList_append_own _ rfl _ _ 47 rfl U.heap.size 30 i1 _ 1 24 Tryz.underlying47 HJ.out.1 HJ.out.2.1 HJ.out.2.2.1 HJ.out.2.2.2 rfl (by decide) _ _ _ rfl (hU.out.own.alloc _) ⟨w3.heap.size,0,none⟩ 1 1 (Xbv ⟨mA,mc,ml⟩) rfl rfl (World.news_of_block (heap_alloc_new w3 _)) (λu hu=>by simp[Xbv] at hu;subst hu;rfl) (by unfold maxLen;omega) (by omega) (by simp;omega) ?_;intro v' w4 hO hV _;have rM:30≠3:=by decide
     have HG:=Xa (λ(x:Sl Int) (hx:Y9 w3 x)=>hx.grown rM hU.out.own (brf.alloc nr _) hV);have qD:=Xa (hU.out.append (ls:=[⟨mA,mc,ml⟩]) (brf.alloc nr _) hO hV);clear hO hV;go_wp2_with fail;refine⟨⟨k+1,⟨mA,mc,ml⟩,R++[⟨mA,mc,ml⟩],by go_num,by omega,rfl,Xa ?_,Xa (HG.out _ hN.out),qD,Xa ?_,Xa ?_⟩,by simp[intOf];omega⟩
     ·rw[rB.out];exact rC.out
     ·rw[List.map_append,hQ.out,XmG];show _++[ml]=_;rw[rB.out];exact congrArg _ (congrArg (λz=>[z]) rC.out)
     ·intro x hx;rw[List.mem_append,List.mem_singleton] at hx;rcases hx with hx|rfl
      ·exact HG.out _ (pI.out x hx)
      ·exact HG.out _ hN.out
    ·have pN:k=ql.length:=by omega
     obtain⟨A9,c9,rfl,rN⟩:=hD.out.slAt XmP;go_wp2_with fail;go_ret2;exact⟨rE.out ⟨wr,hK⟩,⟨A9,c9,R⟩,rfl,rN,by rw[List.length_map,<-pN];exact hQ.out,hR.out⟩
end Go.Proofs.YtdcahhbipeaggaaGreatDoor
namespace Go.Proofs.YtdcahhbipeaggaaGreatDoor
open Go.RowKit
theorem XgJ:∀args w,(callFunc 222 args).run Tryz.prog w=.ok (.enter 222 args) w:=XZ Tryz.func222 (by kernel_rfl) rfl
theorem XjE(s:Xn)(nm:ByteArray)(nb:Nat)(w:World)(hn:nb<w.heap.size)(hc:w.cell? ⟨nb,0,none⟩=some (.string nm)):
 Calls Tryz.prog 222 #[.agg #[.string s.name,.string s.after,.int .i64 s.link,.int .i64 s.aL,.slice s.aD.A s.aD.l.length s.aD.cap,.int .i64 s.crew,.int .i64 s.power],.pointer (some ⟨nb,0,none⟩)] w (Xc w (.bool (Xm s.name nm))):=by
 have hC:∀o:Obj,(w.alloc o).cell? ⟨nb,0,none⟩=some (.string nm):=λo=>by rw[World.cell?_alloc_lt w o ⟨nb,0,none⟩ hn];exact hc
 go_enter Tryz.func222,Tryz.ntmps222;go_wp2;go_ret;exact Xc.mk rfl (brf.alloc nr _)
theorem XaI(s:Xq)(nm:ByteArray)(w:World)(B:Nat)(hB:B<=w.heap.size)(hs:XA w B 7 Xn.cells s.aC):
 Calls Tryz.prog 199 #[.agg #[.slice s.aC.A s.aC.l.length s.aC.cap,.slice s.apart.A s.apart.l.length s.apart.cap],.string nm] w (Xc w (.int .i64 (XN (s.aC.l.map Xn.pl) nm))):=by
 rw[<-Xe8];obtain⟨W1,hD,hJ,hK,hE⟩:=bxsh w s;obtain⟨W2,hG,hN,hH,hI⟩:=boxed W1 (.cells #[.string nm] 9);have hb:Below w.heap.size w W2:=hK.trans (hH.mono (by omega));have hC:∀x:Xb W2.heap.size W2,x.val.cell? ⟨W1.heap.size,0,none⟩=some (.string nm):=λx=>x.cells hI (by omega) 0 _ rfl;have hL:=Xq.boxed ((hH.block _ (by omega)).trans hE) (by omega) (Xb.refl W2.heap.size W2);simp only[Xb.refl] at hL;have hM:w.heap.size+1<W2.heap.size:=by omega
 rw[hJ] at hC;have HH:=Xa (hs.to (hb.mono hB) (Nat.le_trans hB (show w.heap.size<=W2.heap.size by omega)));have HW:=Xa (show(w.alloc (.cells #[.slice s.aC.A s.aC.l.length s.aC.cap,.slice s.apart.A s.apart.l.length s.apart.cap] 29)).alloc (.cells #[.string nm] 9)=W2 by rw[<-hD,<-hG]);clear hD hG hs hE hI;go_enter Tryz.func199,Tryz.ntmps199;go_upto_region 1 with fail;rw[HW.out];go_wp2_with fail;refine(Xc.first (XfT _ _ _ (λs=>Xm s.name nm) _ _ XgJ W2 W2.heap.size nr HH.out (λx e _=>by rw[XcA];exact XjE e nm _ x.val (Nat.lt_of_lt_of_le hM x.size) (hC x)))).mono ?_
 rintro e w' ⟨rfl,x,rfl⟩;go_wp2;go_ret;exact Xc.mk rfl (hb.trans (x.below.mono (by omega)))
theorem XfJ(n:Int)(w:World):Calls Tryz.prog 197 #[.int .i64 n] w (Xc w (.bool (Xg n 0 2147483648))):=by
 go_enter Tryz.func197,Tryz.ntmps197;go_wp2
 all_goals
  go_ret;exact Xc.mk (congrArg Value.bool (by rw[Bool.eq_iff_iff];simp[Xg];omega)) brf
def Xbe(Q:List XW)(q:XW):Int:=if q.link=1 then-1 else XN Q q.after
theorem XpJ(s:Xq)(hl:s.aC.l.length<=60)(w:World)(sat:XA w w.heap.size 7 Xn.cells s.aC):
 Calls Tryz.prog 221 #[.agg #[.slice s.aC.A s.aC.l.length s.aC.cap,.slice s.apart.A s.apart.l.length s.apart.cap]] w λe w'=>∃r:Sl Int,e=.returned (.slice r.A r.l.length r.cap)/\r.l=(s.aC.l.map Xn.pl).map (Xbe (s.aC.l.map Xn.pl))/\Y9 w' r/\Below w.heap.size w w':=by
 obtain⟨W,hW,pF,hM,hU⟩:=bxsh w s;have hV:=λy:Xb W.heap.size W=>Xq.boxed hU (by omega) y;have satW:=sat.to hM (show w.heap.size<=W.heap.size by omega);have KF:=Xa (λ(nm:ByteArray) (y:World) (hy:Below W.heap.size W y)=>Xc.first (XaI s nm y W.heap.size hy.size (satW.to hy nr)));have HW:=Xa hW;have HB:=Xa hM;have SATW:=Xa satW;obtain⟨i0,hi,hX,hI,hZ⟩:=ZW;have HI:=Xa (And.intro hi (And.intro hX (And.intro hI hZ)));have pG:w.heap.size<=W.heap.size:=by omega
 have pH:=hV (Xb.refl _ _);simp only[Xb.refl] at pH;clear hW pF hM hU sat satW hi hX hI hZ;obtain⟨⟨qA,qcap,ql⟩,ap⟩:=s;simp only at*;have pP:ql.length<=qcap:=SATW.out.1;have pQ:qcap<=9223372036854775807:=SATW.out.2.1;obtain⟨Q,hQ⟩:∃Q,Q=ql.map Xn.pl:=⟨_,rfl⟩
 rw[<-hQ] at KF ⊢;have HQ:=Xa hQ;have pA:Q.length=ql.length:=by rw[hQ,List.length_map]
 have hN:=Xa pA;clear hQ pA;go_enter Tryz.func221,Tryz.ntmps221;go_upto_region 1 with fail;rw[<-HW.out];go_wp2_with fail;go_loopw [3,10] (λv3 v wr=>∃k:Nat,v=.int .i64 k/\k<=ql.length/\Hid (X7 3 1 Xj W v3 ((Q.take k).map (Xbe Q)) wr)/\Hid (k=0->v3=.slice none 0 0)) (λ_ v _=>ql.length-(intOf v).toNat)
 case atStart=>exact⟨0,rfl,Nat.zero_le _,Xa (X7.start _ _ _ brf),Xa (λ_=>rfl)⟩
 case round=>
  obtain⟨k,rfl,hk,hD,hz⟩:=hrel;by_cases pI:k<ql.length
  ·obtain⟨b,off,hA,hb,hE⟩:=SATW.out.2.2 (show 0<ql.length by omega);simp only at hA;subst hA;have hx:ql[k]? =some ql[k]:=lgE pI;obtain⟨q,hq⟩:∃q,q=ql[k]:=⟨_,rfl⟩
   rw[<-hq] at hx;have he:=Xn.elem hx hb hE ⟨wr,hD.out.bel⟩;simp only at he;have pB:Q[k]? =some q.pl:=by rw[HQ.out,List.getElem?_map,hx];rfl
   have hO:(Q.take (k+1)).map (Xbe Q)=(Q.take k).map (Xbe Q)++[Xbe Q q.pl]:=by
    rw[List.take_add_one,pB,List.map_append];rfl
   have hlen:((Q.take k).map (Xbe Q)).length=k:=by rw[List.length_map,List.length_take,hN.out];omega
   obtain⟨L,hL⟩:∃L,L=(Q.take k).map (Xbe Q):=⟨_,rfl⟩
   rw[<-hL] at hD hO hlen;obtain⟨Y,hY,pJ,hP,pC⟩:=bxcu wr q;have hR:Below W.heap.size W Y:=hD.out.bel.trans (hP.mono hD.out.bel.size);have pK:=And.intro (Xn.boxed pC (by omega) (Xb.refl Y.heap.size Y)) (hV ⟨Y,hR⟩);simp only[Xb.refl] at pK;have pL:=hD.out.bel.size;have pR:(0:Int)<=(k:Int)/\(k:Int)<(ql.length:Int):=by omega
   have hJ:=Xa hO;have HY:=Xa hY;have hK:=Xa (hD.out.more hP);have pD:=Xa (KF.out q.after Y hR);clear hE hx hq pB hO hL hD pC hP hY hz hR;by_cases hH:q.link=1
   ·have hv:Xbe Q q.pl= -1:=by unfold Xbe;rw[if_pos (show q.pl.link=1 from hH)]
    rw[hv] at hJ;have pM:(q.link==1)=true/\(q.link !=1)=false:=by simp[hH]
    clear hH hv;go_upto_region 5 with fail;rw[<-HY.out];clear he;go_wp2_with (at_builtin;refine Hid.out ?_)
    refine Lib.hid ?_;refine wpList_append_own _ rfl _ _ 30 rfl W.heap.size 3 i0 _ 1 8 Tryz.underlying30 HI.out.1 HI.out.2.1 HI.out.2.2.1 HI.out.2.2.2 rfl (by decide) _ _ _ rfl (hK.out.own.alloc _) ⟨wr.heap.size+1,0,none⟩ 1 1 (Xj (-1)) rfl rfl (by rw[<-pJ];exact World.news_of_block (heap_alloc_new Y _)) (λu hu=>by simp[Xj] at hu;subst hu;rfl) (by unfold maxLen;omega) (by omega) (by simp;omega) ?_;intro v' w2 hC hG _;go_wp2_with fail;exact⟨⟨k+1,by go_num,by omega,Xa (by rw[hJ.out];exact hK.out.append (ls:=[(-1:Int)]) (brf.alloc nr _) hC hG),Xa (λh0=>absurd h0 (by omega))⟩,by simp[intOf];omega⟩
   ·have hv:Xbe Q q.pl=XN Q q.after:=by unfold Xbe;rw[if_neg (show ¬q.pl.link=1 from hH)];rfl
    rw[hv] at hJ;have pM:(q.link==1)=false/\(q.link !=1)=true:=by simp[hH]
    clear hH;obtain⟨F,hF⟩:∃F,F=XN Q q.after:=⟨_,rfl⟩
    rw[<-hF] at hJ pD;clear hF hv;go_upto_region 5 with fail;rw[<-HY.out];clear he;go_wp2_with (first|(go_at_call 199;refine pD.out.mono ?_;rintro e w3 ⟨rfl,y3,rfl⟩)|(at_builtin;refine Hid.out ?_))
    refine Lib.hid ?_;refine wpList_append_own _ rfl _ _ 30 rfl W.heap.size 3 i0 _ 1 8 Tryz.underlying30 HI.out.1 HI.out.2.1 HI.out.2.2.1 HI.out.2.2.2 rfl (by decide) _ _ _ rfl ((hK.out.more y3.below).own.alloc _) ⟨y3.val.heap.size,0,none⟩ 1 1 (Xj F) rfl rfl (World.news_of_block (heap_alloc_new y3.val _)) (λu hu=>by simp[Xj] at hu;subst hu;rfl) (by unfold maxLen;omega) (by omega) (by have:=y3.size;simp;omega) ?_;intro v' w2 hC hG _;go_wp2_with fail;exact⟨⟨k+1,by go_num,by omega,Xa (by rw[hJ.out];exact(hK.out.more y3.below).append (ls:=[F]) (brf.alloc nr _) hC hG),Xa (λh0=>absurd h0 (by omega))⟩,by simp[intOf];omega⟩
  ·have pN:Q.take k=Q:=List.take_of_length_le (by rw[hN.out];omega);rw[pN] at hD
   have hI:Q.map (Xbe Q)=[]->u3=.slice none 0 0:=λh0=>hz.out (by
    have h1:Q.length=0:=by simpa using congrArg List.length h0
    rw[hN.out] at h1
    omega)
   obtain⟨⟨rA,rc,rl⟩,rfl,pE,hT⟩:=hD.out.rowIn hI;have pO:=Xa pE;clear pE hz hI;go_wp2_with fail;go_ret;exact⟨⟨rA,rc,rl⟩,rfl,pO.out,hT,HB.out.trans (hD.out.bel.mono pG)⟩
end Go.Proofs.YtdcahhbipeaggaaGreatDoor
