/- Lemmas for TopPrinted: CueOk, CueMoved, ProfTime, CueLen. -/
import Derived.Test.YtdcahhbipeaggaaGreatDoorCueValid
import Derived.Test.YtdcahhbipeaggaaGreatDoorProfWalk
set_option maxRecDepth 100000
set_option maxHeartbeats 16000000
namespace Go.Proofs.YtdcahhbipeaggaaGreatDoor
open Go.RowKit
theorem Q3{S:List Yi}{q:XW}:ZY S q=true↔(XF q.name=true/\(q.link=1\/q.link=2\/q.link=3)/\Xg q.aL 0 2147483648=true/\Xg q.crew 0 100=true/\Xg q.power 0 100=true)/\∀(i:Nat) (m:Xw),q.aD[i]? =some m->Xa6 S q.aD i m=true:=by
 simp only[ZY,JY,XkO,bae,Bool.or_eq_true,decide_eq_true_eq,XJ,and_assoc,or_assoc]
theorem XcG{S:List Yi}{l:List Xw}{i:Nat}{m:Xw}(h:Xa6 S l i m=true):(XF m.set=true/\(-1048576<=m.to/\m.to<=1048576)/\(1<=m.aK/\m.aK<=8192)/\(1<=m.rise/\m.rise<=16384)/\(1<=m.fall/\m.fall<=16384))/\XeT S m=true:=by
 simp only[Xa6,QI,bae,Xz,and_assoc] at h;obtain⟨a,b1,b2,c1,c2,d1,d2,e1,e2,f,g⟩:=h;exact⟨⟨a,⟨b1,b2⟩,⟨c1,c2⟩,⟨d1,d2⟩,e1,e2⟩,f⟩
structure Xgk(h:Xl)(c:Xp):Prop where
 house:Yn h=true
 few:c.aC.length<=60
 aD:Z4 c.aC c.aC.length<=100\/c.aC=[]
 right:∀q∈c.aC,ZY h.aA q=true
 link:∀(i:Nat) (q:XW),c.aC[i]? =some q->Xe1 c.aC i q=true
 uniq:∀(i:Nat) (q:XW),c.aC[i]? =some q->XN c.aC q.name=(i:Int)
 apart:XbQ c=true
theorem Jd{h:Xl}{c:Xp}(hs:Y5 h c=true):Xgk h c:=by
 simp only[Y5,bae,decide_eq_true_eq,XJ] at hs;obtain⟨⟨⟨h1,h2⟩,h3⟩,h4⟩:=hs;have key:∀(i:Nat) (q:XW),c.aC[i]? =some q->Z4 c.aC (i+1)<=100/\ZY h.aA q=true/\XN c.aC q.name=(i:Int)/\Xe1 c.aC i q=true:=λi q hq=>by
  have:=h3 i q hq;simpa only[XdH,bae,decide_eq_true_eq,and_assoc] using this
 refine⟨h1,h2,?_,λq hq=> ?_,λi q hq=>(key i q hq).2.2.2,λi q hq=>(key i q hq).2.2.1,h4⟩
 ·rcases Nat.eq_zero_or_pos c.aC.length with h0|h0
  ·exact Or.inr (List.eq_nil_of_length_eq_zero h0)
  ·left;have:=(key (c.aC.length-1) c.aC[c.aC.length-1] (lgE (by omega))).1
   rwa [show c.aC.length-1+1=c.aC.length by omega] at this
 ·obtain⟨i,hi,e⟩:=List.getElem_of_mem hq;exact(key i q (by rw[lgE hi,e])).2.1
theorem XbN{h:Xl}{c:Xp}(hs:Xgk h c){nm:ByteArray}(hn:Xc6 c.aC nm=true):XF nm=true:=by
 obtain⟨q,hq,e⟩:=List.any_eq_true.1 hn;rw[<-Qq.1 e];exact(Q3.1 (hs.right q hq)).1.1
theorem JW{n a b:Int}(h1:a<=n)(h2:n<=b)(ha: -1000000000000000<a:=by omega)(hb:b<1000000000000000:=by omega):Zo n=true:=by
 simp only[Zo,bae,decide_eq_true_eq];omega
theorem Xou{h:Xl}{c:Xp}(hs:Xgk h c):YQ c=true:=by
 have hC:=hs.apart;simp only[XbQ,bae,decide_eq_true_eq,XJ] at hC;simp only[YQ,bae,decide_eq_true_eq,List.all_eq_true];refine⟨⟨⟨⟨hs.few,hC.1⟩,λq hq=> ?_⟩,?_⟩,λp hp=> ?_⟩
 ·obtain⟨⟨r1,r2,r3,r4,r5⟩,r6⟩:=Q3.1 (hs.right q hq);rw[Xz] at r3 r4 r5;have ha:Xav q.link q.after=true:=by
   obtain⟨i,hi,e⟩:=List.getElem_of_mem hq;have hl:=hs.link i q (by rw[lgE hi,e]);simp only[Xe1,bae,beq_iff_eq,Bool.or_eq_true,decide_eq_true_eq] at hl;obtain⟨l1,l2⟩:=hl;by_cases h1:q.link=1
   ·have:(q.after.toList==[])=true:=by rw[<-l1,h1];rfl
    simp[Xav,h1,this]
   ·have hf:0<=XN (c.aC.take i) q.after:=by
     rcases l2 with l2|l2
     ·exact absurd l2 h1
     ·exact l2
    have hD:Xc6 c.aC q.after=true:=by
     have:=Zh (λx:XW=>Xm x.name q.after) (c.aC.take i);rw[decide_eq_true (show 0<=idx _ _ from hf)] at this;obtain⟨x,hx,ex⟩:=List.any_eq_true.1 this.symm;exact List.any_eq_true.2 ⟨x,List.mem_of_mem_take hx,ex⟩
    have hE:q.link=2\/q.link=3:=by omega
    simp[Xav,hE,XbN hs hD]
  rw[Xfd,bae,List.all_eq_true];refine⟨?_,λm hm=> ?_⟩
  ·simp only[ZP,bae,List.all_cons,List.all_nil,and_true];exact⟨⟨r1,ha⟩,JW r3.1 r3.2,JW r4.1 r4.2,JW r5.1 r5.2⟩
  ·obtain⟨i,hi,e⟩:=List.getElem_of_mem hm;obtain⟨⟨m1,m2,m3,m4,m5⟩,-⟩:=XcG (r6 i m (by rw[lgE hi,e]));simp only[XbC,bae,List.all_cons,List.all_nil,and_true];exact⟨m1,JW m2.1 m2.2,JW m3.1 m3.2,JW m4.1 m4.2,JW m5.1 m5.2⟩
 ·rcases hs.aD with h1|h1
  ·simpa[Z4] using h1
  ·rw[h1];simp
 ·obtain⟨i,hi,e⟩:=List.getElem_of_mem hp;have hx:=hC.2 i p (by rw[lgE hi,e]);simp only[XeX,bae] at hx;have h1:=XbN hs hx.1.2;have h2:=XbN hs hx.2;have:Xb1 (QR p)=true:=by simp[Xb1,h1,h2]
  unfold QR at this;split at this
  ·simpa[Xb1,Bool.and_comm] using this
  ·exact this
end Go.Proofs.YtdcahhbipeaggaaGreatDoor
namespace Go.Proofs.YtdcahhbipeaggaaGreatDoor
open Go.RowKit
def Zw(S:List Yi)(ms:List Xw)(tr:List Int):List Int:=ms.foldl (λt m=>t.set (XdB S m.set).toNat m.to) tr
theorem Xni{S:List Yi}{ms:List Xw}{tr:List Int}{k:Nat}{m:Xw}(h:ms[k]? =some m):Zw S (ms.take (k+1)) tr=(Zw S (ms.take k) tr).set (XdB S m.set).toNat m.to:=by
 unfold Zw;rw[List.take_add_one,h,Option.toList_some,List.foldl_append];rfl
theorem XcF(S:List Yi):∀(ms:List Xw) (tr:List Int),(Zw S ms tr).length=tr.length
 |[],_=>rfl
 |m::ms,tr=>by unfold Zw;rw[List.foldl_cons];exact(XcF S ms _).trans (List.length_set ..)
def Xec(S:List Yi)(ms:List Xw):Prop:=∀m∈ms,∃(j:Nat) (s:Yi),XdB S m.set=(j:Int)/\S[j]? =some s/\s.low<=m.to/\m.to<=s.high
theorem XcE{S:List Yi}{q:XW}(h:ZY S q=true):Xec S q.aD:=λm hm=>by
 obtain⟨i,hi,e⟩:=List.getElem_of_mem hm;have h1:=(XcG ((Q3.1 h).2 i m (by rw[lgE hi,e]))).2;simp only[XeT,bae,decide_eq_true_eq] at h1;obtain⟨h2,h3⟩:=h1;cases hs:S[(XdB S m.set).toNat]? with
 |none=>rw[hs] at h3;cases h3
 |some s=>
  rw[hs] at h3;rw[Xz] at h3;exact⟨(XdB S m.set).toNat,s,by omega,hs,h3⟩
theorem Xrm(h:Xf)(q:Xn)(tr:Sl Int)(hU:Xec (h.aA.l.map Xd.pl) q.aD.l)(hlen:tr.l.length=h.aA.l.length)(hC:0<tr.l.length)(hl:tr.l.length<=1000)(w:World)(pF:Xf.at_ w w.heap.size h)(qat:Xn.at_ w w.heap.size q)(pG:XA w w.heap.size 1 Xj tr):
 Calls Tryz.prog 48 #[.agg #[.string h.name,.int .i64 h.aH,.slice h.aA.A h.aA.l.length h.aA.cap,.slice h.aB.A h.aB.l.length h.aB.cap],.slice tr.A tr.l.length tr.cap,.agg #[.string q.name,.string q.after,.int .i64 q.link,.int .i64 q.aL,.slice q.aD.A q.aD.l.length q.aD.cap,.int .i64 q.crew,.int .i64 q.power]] w λe w'=>∃g cap,e=.returned (.slice (some ⟨g,0,none⟩) tr.l.length cap)/\w.heap.size<=g/\YW w' g cap (Zw (h.aA.l.map Xd.pl) q.aD.l tr.l)/\Below w.heap.size w w':=by
 obtain⟨W1,pH,pI,hI,pJ⟩:=bxhs w h;obtain⟨W,pK,pS,hV,hW⟩:=bxcu W1 q;have hb:Below w.heap.size w W:=hI.trans (hV.mono (by omega));have hM:=(hV.block _ (by omega)).trans pJ;rw[pI] at hW;have hN:=λy:Xb W.heap.size W=>Xf.boxed hM (by omega) y;have hR:=λy:Xb W.heap.size W=>Xn.boxed hW (by omega) y
 have hO:=pF.to hb (show w.heap.size<=W.heap.size by omega);have qatW:=(qat.to hb (show w.heap.size<=W.heap.size by omega)).aD;have hP:=pG.to hb (show w.heap.size<=W.heap.size by omega);have KC:=Xa (Xsb tr hC hl W hP);have HW:=Xa (show(w.alloc (.cells #[.string h.name,.int .i64 h.aH,.slice h.aA.A h.aA.l.length h.aA.cap,.slice h.aB.A h.aB.l.length h.aB.cap] 25)).alloc (.cells #[.string q.name,.string q.after,.int .i64 q.link,.int .i64 q.aL,.slice q.aD.A q.aD.l.length q.aD.cap,.int .i64 q.crew,.int .i64 q.power] 70)=W by rw[<-pH,<-pK]);have HB:=Xa (And.intro hb (show w.heap.size<=W.heap.size by omega))
 have hX:=Xa hO;have hJ:=Xa qatW;clear pH pK pI pS hI hV pJ hW hM hb pF qat pG hO qatW hP;obtain⟨nm,af,lk,dl,⟨mA,mcap,ml⟩,cr,pw⟩:=q;obtain⟨tA,tcap,tl⟩:=tr;obtain⟨S,hS⟩:∃S,S=h.aA.l.map Xd.pl:=⟨_,rfl⟩
 rw[<-hS] at hU ⊢;simp only at*;have pL:mcap<=9223372036854775807:=hJ.out.2.1;have pM:ml.length<=mcap:=hJ.out.1;have HS:=Xa hS;have pT:=Xa hU;have hZ:=Xa (And.intro hlen (And.intro hC hl));have pU:=And.intro (hN (Xb.refl _ _)) (hR (Xb.refl _ _));simp only[Xb.refl] at pU;clear hS hU hlen hC hl;go_enter Tryz.func48,Tryz.ntmps48;go_upto_region 1 with fail;rw[HW.out];go_wp2_with fail;refine KC.out.mono ?_;rintro e w1 ⟨g,cap,rfl,hg,hK,hI⟩;have pA:=And.intro (hN ⟨w1,hI⟩) (hR ⟨w1,hI⟩);simp only at pA;have pV:=Xa hK;have pW:=Xa hI;clear hK hI
 go_wp2_with fail;go_loopw [15] (λv wr=>∃k:Nat,v=.int .i64 k/\k<=ml.length/\Hid (YW wr g cap (Zw S (ml.take k) tl))/\Hid (Below W.heap.size W wr)) (λv _=>ml.length-(intOf v).toNat)
 case atStart=>exact⟨0,rfl,Nat.zero_le _,pV,pW⟩
 case round=>
  obtain⟨k,rfl,hk,hK,hE⟩:=hrel;by_cases pN:k<ml.length
  ·obtain⟨b,off,hA,hb,hH⟩:=hJ.out.2.2 (show 0<ml.length by omega);simp only at hA;subst hA;have hx:ml[k]? =some ml[k]:=lgE pN;have pZ:Xb W.heap.size W:=⟨wr,hE.out⟩
   have he:=Xw.elem hx hb hH ⟨wr,hE.out⟩;have pB:=And.intro (hN ⟨wr,hE.out⟩) (hR ⟨wr,hE.out⟩);simp only at pB he;obtain⟨j,s,hj,pO,-,-⟩:=pT.out ml[k] (List.getElem_mem pN);have pC:=XcL h.aA.l ml[k].set;rw[<-HS.out,hj] at pC;have qA:j<tl.length:=by
    rw[hZ.out.1];have:=(lgS pO).1
    rwa [HS.out,List.length_map] at this
   have hD:=Xni (S:=S) (tr:=tl) hx;rw[hj,Int.toNat_natCast] at hD;obtain⟨Y,hY,pX,hT,pP⟩:=boxed wr (.cells #[.string ml[k].set,.int .i64 ml[k].to,.int .i64 ml[k].aK,.int .i64 ml[k].rise,.int .i64 ml[k].fall] 72);have hL:Below W.heap.size W Y:=hE.out.trans (hT.mono hE.out.size);have qB:=λy:Xb Y.heap.size Y=>Xw.boxed pP (by omega) y;have pY:=λy:Xb Y.heap.size Y=>hN ⟨y.val,hL.trans (y.below.mono hL.size)⟩;simp only at pY;have hG:∀y:Xb Y.heap.size Y,YW y.val g cap (Zw S (ml.take k) tl):=λy=>(hK.out.below hK.out.lt hT).below (Nat.lt_of_lt_of_le hK.out.lt hT.size) y.below
   have pQ:(Zw S (ml.take k) tl).length=tl.length:=XcF _ _ _;have hold:∀y:Xb Y.heap.size Y,∃v,y.val.cell? ⟨g,j,none⟩=some (.int .i64 v):=λy=>⟨_,(hG y).get (lgE (show j<(Zw S (ml.take k) tl).length by omega))⟩
   have pD:∀(y:Xb Y.heap.size Y) (i:Nat),y.val.frozen? ⟨g,i,none⟩=false:=λy i=>(hG y).frozen i;have KS:=Xa (λy:Xb Y.heap.size Y=>Xc.after (x:=y) nr (Xfb h ml[k].set y.val W.heap.size (Nat.le_trans hL.size y.size) (hX.out.to (hL.trans (y.below.mono hL.size)) nr)));rw[pC] at KS;have qC:(0:Int)<=(j:Int)/\(j:Int)<(tl.length:Int):=by omega
   have pE:=Xa hG;have hQ:=Xa hD;have pR:=Xa hL;have HX:=Xa hx;have HY:=Xa hY;have qD:=Xa pQ;clear hH hx hD hG hL hT pP pX hY pQ pC hj pO;go_upto_region 5 with fail;rw[<-HY.out,show Y=(Xb.refl Y.heap.size Y).val from rfl];refine QM (Xb.refl Y.heap.size Y) 8 (by kernel_rfl) (by kernel_rfl) ?_;simp only[List.take_succ_cons,List.take_zero,List.drop_succ_cons,List.drop_zero]
   repeat (go_big_quiet_step ((go_at_call 66;exact KS.out _)))
   refine wpQuiet_nil ?_;intro z;obtain⟨v,hv⟩:=hold z;have qE:=pD z;go_wp2;exact⟨⟨k+1,by go_num,by omega,Xa (by rw[hQ.out];exact(pE.out z).set j _),Xa ((pR.out.trans (z.below.mono pR.out.size)).setCell hg _)⟩,by simp[intOf];omega⟩
  ·have pB:=And.intro (hN ⟨wr,hE.out⟩) (hR ⟨wr,hE.out⟩);simp only at pB;go_wp2;go_ret;refine⟨g,cap,rfl,Nat.le_trans HB.out.2 hg,?_,HB.out.1.trans (hE.out.mono HB.out.2)⟩;have:=hK.out
   rwa [List.take_of_length_le (show ml.length<=k by omega)] at this
end Go.Proofs.YtdcahhbipeaggaaGreatDoor
namespace Go.Proofs.YtdcahhbipeaggaaGreatDoor
open Go.RowKit
theorem Yh.elem{W:World}{B b off:Nat}{l:List Yh}{k:Nat}{p:Yh}(hp:l[k]? =some p)(hb:b<B)(hc:∀i x,l[i]? =some x->∀j u,(Yh.cells x)[j]? =some u->W.cell? ⟨b,off+(i*8+j),none⟩=some u)(x:Xb B W):
 x.val.cell? ⟨b,off+k*8,none⟩=some (.int .i64 p.fn)/\x.val.cell? ⟨b,off+k*8+1,none⟩=some (.int .i64 p.fd)/\x.val.cell? ⟨b,off+k*8+2,none⟩=some (.int .i64 p.an)/\x.val.cell? ⟨b,off+k*8+3,none⟩=some (.int .i64 p.ad)/\
 x.val.cell? ⟨b,off+k*8+4,none⟩=some (.int .i64 p.bn)/\x.val.cell? ⟨b,off+k*8+5,none⟩=some (.int .i64 p.bd)/\x.val.cell? ⟨b,off+k*8+6,none⟩=some (.int .i64 p.cn)/\x.val.cell? ⟨b,off+k*8+7,none⟩=some (.int .i64 p.cd):=by
 have h:∀j u,(Yh.cells p)[j]? =some u->x.val.cell? ⟨b,off+k*8+j,none⟩=some u:=λj u hu=>by rw[Nat.add_assoc];exact x.cell (hc k p hp j u hu) hb
 exact⟨h 0 _ rfl,h 1 _ rfl,h 2 _ rfl,h 3 _ rfl,h 4 _ rfl,h 5 _ rfl,h 6 _ rfl,h 7 _ rfl⟩
def Xca(p:Int×Int):List Value:=[.int .i64 p.1,.int .i64 p.2]
theorem XjU(p:Int×Int):(Xca p).length=2:=rfl
theorem XtD:(Tryz.prog.info? 110).map (λi=>(i.zero,i.size,i.bytes))=some (some (.agg #[.int .i64 0,.int .i64 0]),2,16):=by kernel_rfl
theorem Xi3:∃i,Tryz.prog.info? 110=some i/\i.zero=some (.agg #[.int .i64 0,.int .i64 0])/\i.size=2/\i.bytes=16:=by
 have h:=XtD;cases hi:Tryz.prog.info? 110 with
 |none=>rw[hi] at h;cases h
 |some i=>
  rw[hi] at h;simp only[Option.map_some,Option.some.injEq,Prod.mk.injEq] at h;exact⟨i,rfl,h.1,h.2.1,h.2.2⟩
def Yh.from(p:Yh):Int×Int:=(p.fn,p.fd)
def Xso(w:World)(f:Int×Nat)(e:Ending)(w':World):Prop:=
 Below w.heap.size w w'/\∃S:Sl (Int×Int),e=.returned (.tuple #[.slice S.A S.l.length S.cap,.int .i64 0])/\XA w' w'.heap.size 2 Xca S/\S.l.length<=4/\S.l[S.l.length-1]? =some (f.1,(f.2:Int))
theorem Xrx(d:Nat)(m:Xw)(hm:QI m=true)(hs:m.set.size<=maxLen)(hd:d<=1048576)(w:World):Calls Tryz.prog 219 #[.int .i64 (d:Int),.agg #[.string m.set,.int .i64 m.to,.int .i64 m.aK,.int .i64 m.rise,.int .i64 m.fall]] w (Xso w (fmk (QN d m:Nat) (Jb d m))):=by
 obtain⟨f,hf⟩:∃f,f=fmk (QN d m:Nat) (Jb d m):=⟨_,rfl⟩
 have KC:=Xa (λy:World=>hf▸Xr6 d m hm hs hd y);rw[<-hf];clear hf hm hs hd;obtain⟨W,hW,pC,hN,hO⟩:=bxmv w m;have hc:=λy:Xb W.heap.size W=>Xw.boxed hO (by omega) y;have hH:=hc (Xb.refl _ _);simp only[Xb.refl] at hH;obtain⟨i0,hi,hP,hQ,hR⟩:=Xi3;have HI:=Xa (And.intro hi (And.intro hP (And.intro hQ hR)));have HW:=Xa hW;have hI:=Xa hN;clear hW hN hO pC hi hP hQ hR hc;go_enter Tryz.func219,Tryz.ntmps219;go_upto_region 1 with fail;rw[<-HW.out];go_wp2_with fail
 refine(KC.out W).mono ?_;rintro e w1 ⟨hT,⟨A,cap,l⟩,rfl,hE,hU,p,hp,hV,hX⟩;simp only at hE hU hp hH ⊢;have pJ:l.length<=cap:=hE.1;have pK:cap<=9223372036854775807:=hE.2.1;have pD:=Xa hE;have HP:=Xa (And.intro hp (And.intro hV hX));have hZ:=Xa hT;clear hE hp hV hX hT hH;go_wp2_with fail;go_loopw [8,22] (λv8 v wr=>∃k:Nat,v=.int .i64 k/\k<=l.length/\Hid (X7 110 2 Xca w1 v8 ((l.take k).map Yh.from) wr)) (λ_ v _=>l.length-(intOf v).toNat)
 case atStart=>exact⟨0,rfl,Nat.zero_le _,Xa (X7.start _ _ _ brf)⟩
 case round=>
  obtain⟨k,rfl,hk,hC⟩:=hrel;by_cases pE:k<l.length
  ·obtain⟨b,off,hA,hb,hD⟩:=pD.out.2.2 (show 0<l.length by omega);simp only at hA;subst hA;have hx:l[k]? =some l[k]:=lgE pE;obtain⟨q,hq⟩:∃q,q=l[k]:=⟨_,rfl⟩
   rw[<-hq] at hx;have he:=Yh.elem hx hb hD ⟨wr,hC.out.bel⟩;simp only at he;have hJ:(l.take (k+1)).map Yh.from=(l.take k).map Yh.from++[q.from]:=by
    rw[List.take_add_one,hx,List.map_append];rfl
   have hlen:((l.take k).map Yh.from).length=k:=by simp;omega
   obtain⟨L,hL⟩:∃L,L=(l.take k).map Yh.from:=⟨_,rfl⟩
   rw[<-hL] at hC hJ hlen;obtain⟨Y,hY,pF,pA,hK⟩:=boxed wr (.cells #[.int .i64 q.fn,.int .i64 q.fd,.int .i64 q.an,.int .i64 q.ad,.int .i64 q.bn,.int .i64 q.bd,.int .i64 q.cn,.int .i64 q.cd] 312);have pL:=hC.out.bel.size;have pM:Y.cell? ⟨wr.heap.size,0,none⟩=some (.int .i64 q.fn)/\Y.cell? ⟨wr.heap.size,1,none⟩=some (.int .i64 q.fd):=by
    refine⟨by rw[Joins.cell_of_block hK];rfl,by rw[Joins.cell_of_block hK];rfl⟩
   have pN:(0:Int)<=(k:Int):=by omega
   have pO:(k:Int)<(l.length:Int):=by omega
   have pG:=Xa hJ;have HY:=Xa hY;have pB:=Xa (hC.out.more pA);clear hD hx hJ hL hC hK pA hq hY;go_upto_region 8 with fail;rw[<-HY.out];go_wp2_with (at_builtin;refine Hid.out ?_)
   refine Lib.hid ?_;refine wpList_append_own _ rfl _ _ 106 rfl w1.heap.size 110 i0 _ 2 16 Tryz.underlying106 HI.out.1 HI.out.2.1 HI.out.2.2.1 HI.out.2.2.2 rfl (by decide) _ _ _ rfl (pB.out.own.alloc _) ⟨wr.heap.size+1,0,none⟩ 1 1 (Xca q.from) rfl rfl (by rw[<-pF];exact World.news_of_block (heap_alloc_new Y _)) (λu hu=>by simp[Xca] at hu;rcases hu with rfl|rfl<;>rfl) (by unfold maxLen;omega) (by omega) (by simp;omega) ?_;intro v' w2 hG hM _;go_wp2_with fail;exact⟨⟨k+1,by go_num,by omega,Xa (by rw[pG.out];exact pB.out.append (ls:=[q.from]) (brf.alloc nr _) hG hM)⟩,by simp[intOf];omega⟩
  ·have pH:l.take k=l:=List.take_of_length_le (by omega);rw[pH] at hC;obtain⟨S,c2,rfl,pI⟩:=hC.out.slAt XjU;go_wp2_with fail;go_ret2;refine⟨hI.out.trans (hZ.out.mono (by have:=hI.out.size;omega)|>.trans (hC.out.bel.mono (by have:=hI.out.size;have:=hZ.out.size;omega))),⟨S,c2,l.map Yh.from⟩,rfl,pI,by simpa using hU,?_⟩;rw[List.length_map,List.getElem?_map,HP.out.1,Option.map_some,Yh.from,HP.out.2.1,HP.out.2.2]
theorem Xst(d:Nat)(m:Xw)(hm:QI m=true)(hs:m.set.size<=maxLen)(hd:d<=1048576)(w:World):Calls Tryz.prog 190 #[.int .i64 (d:Int),.agg #[.string m.set,.int .i64 m.to,.int .i64 m.aK,.int .i64 m.rise,.int .i64 m.fall]] w (Xc w (.tuple #[.agg #[.int .i64 (fmk (QN d m:Nat) (Jb d m)).1,.int .i64 ((fmk (QN d m:Nat) (Jb d m)).2:Int)],.int .i64 0])):=by
 obtain⟨f,hf⟩:∃f,f=fmk (QN d m:Nat) (Jb d m):=⟨_,rfl⟩
 have KC:=Xa (λy:World=>hf▸Xrx d m hm hs hd y);rw[<-hf];clear hf hm hs hd;obtain⟨W1,hM,hD,hE,hG⟩:=bxmv w m;obtain⟨W,hW,hV,hJ,hN⟩:=boxed W1 (.cells #[.int .i64 0,.int .i64 0] 110);have hc:=λy:Xb W.heap.size W=>Xw.boxed ((hJ.block _ (by omega)).trans hG) (by omega) y;have hO:=hc (Xb.refl _ _);simp only[Xb.refl] at hO;have hP:Below w.heap.size w W:=hE.trans (hJ.mono (by omega));have HW:=Xa (show(w.alloc (.cells #[.string m.set,.int .i64 m.to,.int .i64 m.aK,.int .i64 m.rise,.int .i64 m.fall] 72)).alloc (.cells #[.int .i64 0,.int .i64 0] 110)=W by rw[<-hM,<-hW])
 have HB:=Xa hP;have hQ:=Xa hN;clear hM hW hE hG hJ hN hc hP;go_enter Tryz.func190,Tryz.ntmps190;go_upto_region 1 with fail;rw[HW.out];go_wp2_with fail;refine(KC.out W).mono ?_;rintro e w1 ⟨hH,⟨A,cap,l⟩,rfl,hI,hR,hp⟩;simp only at hI hR hp hO ⊢;have hK:0<l.length:=by
  have:=(lgS hp).1;omega
 have hX:l.length<=cap:=hI.1;have hY:cap<=9223372036854775807:=hI.2.1;obtain⟨b,off,hA,hb,hC⟩:=hI.2.2 hK;simp only at hA;subst hA;have h1:=hC _ _ hp 0 _ rfl;have h2:=hC _ _ hp 1 _ rfl;obtain⟨n,hn⟩:∃n,l.length=n+1:=⟨l.length-1,by omega⟩
 have e1:off+((l.length-1)*2+0)=off+n*2:=by rw[hn];omega
 have e2:off+((l.length-1)*2+1)=off+n*2+1:=by rw[hn];omega
 rw[e1] at h1;rw[e2] at h2;have hZ:((n:Int)+1)-1=n:=by omega
 have pA:(0:Int)<=(n:Int):=by omega
 have pB:(n:Int)<(n:Int)+1:=by omega
 have pC:w1.frozen? ⟨w.heap.size+1,0,none⟩=false/\w1.frozen? ⟨w.heap.size+1,1,none⟩=false:=by
  have h0:=hQ.out;rw[hD] at h0;have:=(hH.block (w.heap.size+1) (by omega)).trans h0;exact⟨by simp[World.frozen?,this],by simp[World.frozen?,this]⟩
 have hL:w1.heap[w.heap.size+1]? =some (.cells #[.int .i64 0,.int .i64 0] 110 (0,0)):=by
  have h0:=hQ.out;rw[hD] at h0;exact(hH.block (w.heap.size+1) (by omega)).trans h0
 have hT:=Xa hL;have hold:=Xi hL;clear hL;have hU:=Xa hH;rw[hn];have hsz:=hH.size;clear hC hp hI hH;go_wp2_with fail;have c:=Xi (XR (c:=.int .i64 f.1) (d:=.int .i64 (f.2:Int)) hT.out);refine bodyPost_ret (v:=.tuple #[.agg #[.int .i64 f.1,.int .i64 (f.2:Int)],.int .i64 0]) (by simp[results,Tryz.results190,go_sem,c.1,c.2]) rfl ⟨rfl,?_⟩;exact((HB.out.trans (hU.out.mono HB.out.size)).setCell (Nat.le_succ _) _).setCell (Nat.le_succ _) _
end Go.Proofs.YtdcahhbipeaggaaGreatDoor
namespace Go.Proofs.YtdcahhbipeaggaaGreatDoor
open Go.RowKit
def JL(S:List Yi)(tr:List Int):Prop:=tr.length=S.length/\∀(i:Nat) (n:Int) (s:Yi),tr[i]? =some n->S[i]? =some s->s.low<=n/\n<=s.high
theorem Xmo(h:Xf)(hT:h.ok)(hv:Xv h=true)(q:Xn)(qok:q.ok)(hr:ZY (h.aA.l.map Xd.pl) q.pl=true)(tr:Sl Int)(hJ:JL (h.aA.l.map Xd.pl) tr.l)(w:World)(hU:Xf.at_ w w.heap.size h)(qat:Xn.at_ w w.heap.size q)(tat:XA w w.heap.size 1 Xj tr):
 Calls Tryz.prog 189 #[.agg #[.string h.name,.int .i64 h.aH,.slice h.aA.A h.aA.l.length h.aA.cap,.slice h.aB.A h.aB.l.length h.aB.cap],.slice tr.A tr.l.length tr.cap,.agg #[.string q.name,.string q.after,.int .i64 q.link,.int .i64 q.aL,.slice q.aD.A q.aD.l.length q.aD.cap,.int .i64 q.crew,.int .i64 q.power]] w (Xc w (.int .i64 0)):=by
 obtain⟨W1,hV,hW,hX,hY⟩:=bxhs w h;obtain⟨W,hZ,pI,hG,hK⟩:=bxcu W1 q;have hb:Below w.heap.size w W:=hX.trans (hG.mono (by omega));have hH:=(hG.block _ (by omega)).trans hY;rw[hW] at hK;have hI:=λy:Xb W.heap.size W=>Xf.boxed hH (by omega) y;have hL:=λy:Xb W.heap.size W=>Xn.boxed hK (by omega) y
 have pA:=bdo hb;have hM:w.heap.size<=W.heap.size:=by omega
 have hD:=hU.to hb hM;have qatW:=qat.to hb hM;have tatW:=tat.to hb hM;have KH:=Xa (λy:Xb W.heap.size W=>Xc.after (x:=y) nr (hv▸Yf h hT y.val W.heap.size y.size (hD.to y.below nr)));have KR:=Xa (λy:Xb W.heap.size W=>Xc.after (x:=y) nr (hr▸Xkw h q qok y.val W.heap.size y.size (hD.to y.below nr) (qatW.to y.below nr)));have HW:=Xa (show(w.alloc (.cells #[.string h.name,.int .i64 h.aH,.slice h.aA.A h.aA.l.length h.aA.cap,.slice h.aB.A h.aB.l.length h.aB.cap] 25)).alloc (.cells #[.string q.name,.string q.after,.int .i64 q.link,.int .i64 q.aL,.slice q.aD.A q.aD.l.length q.aD.cap,.int .i64 q.crew,.int .i64 q.power] 70)=W by rw[<-hV,<-hZ])
 have pJ:=Xa pA;have hN:=Xa hD.aA;have hO:=Xa tatW;have pB:h.aA.cap<=9223372036854775807:=hD.aA.2.1;have pC:h.aA.l.length<=h.aA.cap:=hD.aA.1;have pD:tr.cap<=9223372036854775807:=tatW.2.1;have pE:tr.l.length<=tr.cap:=tatW.1;have pK:=Xa hJ.2;have hlen:tr.l.length=h.aA.l.length:=by simpa using hJ.1
 clear hV hZ hW pI hX hG hY hK hH hb pA hU qat hD qatW tat tatW hT hv qok hr hJ;obtain⟨tA,tcap,tl⟩:=tr;obtain⟨hn,pN,⟨sA,scap,sl⟩,rfs⟩:=h;simp only at*;have pO:((tl.length:Nat):Int)=((sl.length:Nat):Int):=by rw[hlen]
 have pF:=And.intro (hI (Xb.refl _ _)) (hL (Xb.refl _ _));simp only[Xb.refl] at pF;go_enter Tryz.func189,Tryz.ntmps189;go_upto_region 1 with fail;rw[HW.out]
 go_wp2_with (first
  |(go_at_call 22;refine(KH.out (Xb.refl _ _)).mono ?_;rintro e w' ⟨rfl,y,rfl⟩;have pP:=And.intro (hI y) (hL y))
  |(go_at_call 23;refine(KR.out y).mono ?_;rintro e w' ⟨rfl,y2,rfl⟩;have pL:=hI y2))
 clear hL pF;go_loopw [28] (λv wr=>∃k:Nat,v=.int .i64 k/\k<=tl.length/\∃x:Xb W.heap.size W,wr=x.val) (λv _=>tl.length-(intOf v).toNat)
 case atStart=>exact⟨0,rfl,Nat.zero_le _,y2,rfl⟩
 case round=>
  obtain⟨k,rfl,hk,x,rfl⟩:=hrel;by_cases pM:k<tl.length
  ·obtain⟨b,off,hA,hb,hE⟩:=hO.out.2.2 (show 0<tl.length by omega);simp only at hA;subst hA;obtain⟨b2,off2,pG,hG,hC⟩:=hN.out.2.2 (show 0<sl.length by omega);simp only at pG;subst pG;have hx:tl[k]? =some tl[k]:=lgE pM;have hy:sl[k]? =some sl[k]:=lgE (by omega);have hP:=λz:Xb W.heap.size W=>z.cell (hE k _ hx 0 _ rfl) hb;have pH:=λz:Xb W.heap.size W=>And.intro (Xd.elem hy hG hC z).2.2.1 (Xd.elem hy hG hC z).2.2.2.1;simp only[Nat.mul_one,Nat.add_zero] at hP pH;have hQ:=hP x;have pQ:=hI;have hR:Xg tl[k] (sl[k]'(by omega)).low (sl[k]'(by omega)).high=true:=by
    have:=pK.out k tl[k] _ hx (by rw[List.getElem?_map,hy];rfl);rw[Xz];exact this
   obtain⟨s,hs⟩:∃s,s=sl[k]'(by omega):=⟨_,rfl⟩
   obtain⟨n,hn⟩:∃n,n=tl[k]:=⟨_,rfl⟩
   rw[<-hs,<-hn] at hR;rw[<-hs] at pH;rw[<-hn] at hQ;have KB:=Xa (λy:Xb W.heap.size W=>Xc.after (x:=y) nr (hR▸Xbl n s.low s.high y.val));have pR:(0:Int)<=(k:Int):=by omega
   have pS:(k:Int)<(tl.length:Int)/\(k:Int)<(sl.length:Int):=by omega
   clear hE hC hx hy hP hR hs hn;go_upto_region 8 with fail;refine Xk x (by kernel_rfl) (by kernel_rfl) ?_
   repeat (go_big_quiet_step ((go_at_call 65;exact KB.out _)))
   refine wpQuiet_nil ?_;intro z;go_wp2;exact⟨⟨k+1,by go_num,by omega,z,rfl⟩,by simp[intOf];omega⟩
  ·go_wp2;go_ret;exact Xc.mk rfl (pJ.out x)
def Xif(S:List Yi)(tr:List Int)(m:Xw):Nat×Nat:=(QN (m.to-tr.getD (XdB S m.set).toNat 0).natAbs m,Jb (m.to-tr.getD (XdB S m.set).toNat 0).natAbs m)
def longer(a t:Nat×Nat):Nat×Nat:=if 0<XhN (t.1*a.2) (a.1*t.2) then t else a
def Xa9(S:List Yi)(tr:List Int)(ms:List Xw):Nat×Nat:=ms.foldl (λa m=>longer a (Xif S tr m)) (0,1)
theorem Xrw{S:List Yi}{ms:List Xw}{tr:List Int}{k:Nat}{m:Xw}(h:ms[k]? =some m):Xa9 S tr (ms.take (k+1))=longer (Xa9 S tr (ms.take k)) (Xif S tr m):=by
 unfold Xa9;rw[List.take_add_one,h,Option.toList_some,List.foldl_append];rfl
structure Xlj(a:Nat×Nat):Prop where
 pos:0<a.2
 den:a.2<=1152921504606846976
 num:a.1<=1152921504606846976
theorem Xlj.longer{a t:Nat×Nat}(ha:Xlj a)(ht:Xlj t):Xlj (longer a t):=by unfold Proofs.YtdcahhbipeaggaaGreatDoor.longer;split<;>assumption
theorem XpY{d:Nat}{m:Xw}(hm:QI m=true)(hd:d<=1048576):Xlj (QN d m,Jb d m):=by
 obtain⟨-,-,-,h4,h5⟩:=Qf.1 hm;by_cases h0:d=0
 ·subst h0;exact⟨by simp[Jb],by simp[Jb],by simp[QN]⟩
 obtain⟨t1,t2⟩:=XeO hm (show 0<d by omega);obtain⟨w,hw⟩:∃w,w=Xgs d m:=⟨_,rfl⟩
 obtain⟨R,hR⟩:∃R,R=m.rise.toNat:=⟨_,rfl⟩
 obtain⟨F,hF⟩:∃F,F=m.fall.toNat:=⟨_,rfl⟩
 have hD:1<=R/\R<=16384:=by omega
 have hC:1<=F/\F<=16384:=by omega
 unfold QN Jb;rw[if_neg h0,if_neg h0,<-hw,<-hR,<-hF];rw[<-hw] at t1 t2;clear hw hR hF h4 h5;have a1:2*d<=2*1048576:=by omega
 have a2:2*d*R<=2*1048576*16384:=Nat.mul_le_mul a1 hD.2;have a3:2*d*R*F<=2*1048576*16384*16384:=Nat.mul_le_mul a2 hC.2;have b1:w*w<=8192*8192:=Nat.mul_le_mul t2 t2;have b2:w*w*(R+F)<=8192*8192*32768:=Nat.mul_le_mul b1 (by omega);have c1:2*R<=2*16384:=by omega
 have c2:2*R*F<=2*16384*16384:=Nat.mul_le_mul c1 hC.2;have c3:2*R*F*w<=2*16384*16384*8192:=Nat.mul_le_mul c2 t2;exact⟨Nat.mul_pos (Nat.mul_pos (by omega) hC.1) t1,by omega,by show 2*d*R*F+w*w*(R+F)<=_;omega⟩
def Xwa(S:List Yi):Prop:=∀s∈S,0<=s.low/\s.high<=1048576
theorem XtB{h:Xf}(hv:Xv h=true):Xwa (h.aA.l.map Xd.pl):=λs hs=>by
 obtain⟨d,hd,rfl⟩:=List.mem_map.1 hs;obtain⟨i,hi⟩:=List.getElem?_of_mem hd;rw[Xv,bae] at hv;have h1:=XJ.1 hv.2 i d hi;simp only[setAt,X0,Ju,bae,Xz] at h1;obtain⟨⟨⟨⟨⟨⟨⟨⟨⟨⟨⟨-,-⟩,h2⟩,h3⟩,-⟩,-⟩,-⟩,-⟩,-⟩,-⟩,-⟩,-⟩:=h1;exact⟨h2.1,h3.2⟩
theorem Xpg(h:Xf)(qI:h.ok)(hv:Xv h=true)(q:Xn)(qok:q.ok)(hr:ZY (h.aA.l.map Xd.pl) q.pl=true)(tr:Sl Int)(pF:JL (h.aA.l.map Xd.pl) tr.l)(w:World)(qJ:Xf.at_ w w.heap.size h)(qat:Xn.at_ w w.heap.size q)(tat:XA w w.heap.size 1 Xj tr):
 Calls Tryz.prog 146 #[.agg #[.string h.name,.int .i64 h.aH,.slice h.aA.A h.aA.l.length h.aA.cap,.slice h.aB.A h.aB.l.length h.aB.cap],.slice tr.A tr.l.length tr.cap,.agg #[.string q.name,.string q.after,.int .i64 q.link,.int .i64 q.aL,.slice q.aD.A q.aD.l.length q.aD.cap,.int .i64 q.crew,.int .i64 q.power]] w (Xc w (.tuple #[frV (fmk (Xa9 (h.aA.l.map Xd.pl) tr.l q.aD.l).1 (Xa9 (h.aA.l.map Xd.pl) tr.l q.aD.l).2),.int .i64 0])):=by
 have qK:=XcE hr;have qL:=(Q3.1 hr).2;have hW:=XtB hv;obtain⟨W1,qM,pO,qN,qO⟩:=bxhs w h;obtain⟨W2,qP,qQ,pA,qR⟩:=bxcu W1 q;obtain⟨W,qS,rZ,pG,pP⟩:=boxed W2 (.cells #[.int .i64 0,.int .i64 0] 110);have pB:Below w.heap.size w W2:=qN.trans (pA.mono (by omega));have hb:Below w.heap.size w W:=pB.trans (pG.mono (by omega))
 have pC:=(pG.block _ (by omega)).trans ((pA.block _ (by omega)).trans qO);have hO:=(pG.block _ (by omega)).trans qR;rw[pO] at hO;rw[qQ,pO] at pP;have pH:=λy:Xb W.heap.size W=>Xf.boxed pC (by omega) y;have pQ:=λy:Xb W.heap.size W=>Xn.boxed hO (by omega) y;have qT:=λy:Xb W.heap.size W=>(y.below.block (w.heap.size+1+1) (by omega)).trans pP;have qU:=bdo hb;have pR:w.heap.size<=W.heap.size:=by omega
 have tC:w.heap.size+1+1<W.heap.size:=by omega
 have hP:=qJ.to hb pR;have qatW:=qat.to hb pR;have tatW:=tat.to hb pR;have KG:=Xa (Xc.first (Xmo h qI hv q qok hr tr pF W hP qatW tatW));have HW:=Xa (show((w.alloc (.cells #[.string h.name,.int .i64 h.aH,.slice h.aA.A h.aA.l.length h.aA.cap,.slice h.aB.A h.aB.l.length h.aB.cap] 25)).alloc (.cells #[.string q.name,.string q.after,.int .i64 q.link,.int .i64 q.aL,.slice q.aD.A q.aD.l.length q.aD.cap,.int .i64 q.crew,.int .i64 q.power] 70)).alloc (.cells #[.int .i64 0,.int .i64 0] 110)=W by rw[<-qM,<-qP,<-qS]);have sA:=Xa qU;have pS:=Xa hP
 have hQ:=Xa qatW.aD;have pT:=Xa tatW;have qV:=Xa qK;have qW:=Xa qL;have pD:=Xa hW;have pU:=Xa pF;have pV:=Xa qok.aD;have sB:=Xa qT;have qX:tr.cap<=9223372036854775807:=tatW.2.1;have qY:tr.l.length<=tr.cap:=tatW.1;have hlen:tr.l.length=h.aA.l.length:=by simpa using pF.1
 clear qM qP qS pO qQ rZ qN pA pG pB qO qR pP pC hO hb qU qJ qat hP qatW tat tatW qI hv qok hr pF qK qL hW qT;obtain⟨nm,af,lk,dl,⟨mA,mcap,ml⟩,cr,pw⟩:=q;obtain⟨tA,tcap,tl⟩:=tr;obtain⟨S,hS⟩:∃S,S=h.aA.l.map Xd.pl:=⟨_,rfl⟩
 simp only[Xn.pl] at*;rw[<-hS] at qV qW pD pU ⊢;have qZ:mcap<=9223372036854775807:=hQ.out.2.1;have rA:ml.length<=mcap:=hQ.out.1;have HS:=Xa hS;have sC:=Xa hlen;clear hS hlen;have rB:=And.intro (pH (Xb.refl _ _)) (pQ (Xb.refl _ _));simp only[Xb.refl] at rB;go_enter Tryz.func146,Tryz.ntmps146;go_upto_region 1 with fail;rw[HW.out];go_upto_region 4 with (go_at_call 189;refine KG.out.mono ?_;rintro e w' ⟨rfl,y,rfl⟩)
 clear rB;obtain⟨X,hX,sD,rC,pW⟩:=boxed y.val (.cells #[.int .i64 0,.int .i64 1] 110);obtain⟨mb,pI⟩:∃mb,mb=y.val.heap.size:=⟨_,rfl⟩
 have pE:W.heap.size<=mb:=by rw[pI];exact y.size
 have pJ:Below W.heap.size W X:=y.below.trans (rC.mono y.size);rw[<-pI] at pW;have rD:=And.intro (pH ⟨X,pJ⟩) (pQ ⟨X,pJ⟩);simp only at rD;have HX:=Xa hX;have sE:=Xa pI;have sF:=Xa pW;have sG:=Xa pJ;clear hX pW pJ rC sD pI;go_upto_region 5 with fail;rw[<-HX.out,<-sE.out];clear HX;go_wp2_with fail;clear rD;go_loopw [29] (λv wr=>∃k:Nat,v=.int .i64 k/\k<=ml.length/\Hid (wr.heap[mb]? =some (.cells #[.int .i64 (fmk (Xa9 S tl (ml.take k)).1 (Xa9 S tl (ml.take k)).2).1,.int .i64 ((fmk (Xa9 S tl (ml.take k)).1 (Xa9 S tl (ml.take k)).2).2:Int)] 110 (0,0)))/\Hid (Xlj (Xa9 S tl (ml.take k)))/\Hid (Below W.heap.size W wr)) (λv _=>ml.length-(intOf v).toNat)
 case atStart=>exact⟨0,rfl,Nat.zero_le _,Xa (by rw[sF.out,show Xa9 S tl (ml.take 0)=(0,1) from rfl,show fmk (((0,1):Nat×Nat).1:Int) ((0,1):Nat×Nat).2=(0,1) from by simp[fmk]];rfl),Xa ⟨by simp[Xa9],by simp[Xa9],by simp[Xa9]⟩,sG⟩
 case round=>
  obtain⟨k,rfl,hk,hC,hH,hR⟩:=hrel;have rE:=And.intro (pH ⟨wr,hR.out⟩) (pQ ⟨wr,hR.out⟩);simp only at rE;by_cases pX:k<ml.length
  ·obtain⟨b,off,hA,hb,hM⟩:=hQ.out.2.2 (show 0<ml.length by omega);simp only at hA;subst hA;have hx:ml[k]? =some ml[k]:=lgE pX;obtain⟨j,s,hj,pK,sH,sJ⟩:=qV.out ml[k] (List.getElem_mem pX);have pL:=(XcG (qW.out k ml[k] hx)).1;have hI:=(pV.out ml[k] (List.getElem_mem pX)).set;have hE:=Xrw (S:=S) (tr:=tl) hx;obtain⟨m,hm⟩:∃m,m=ml[k]:=⟨_,rfl⟩
   rw[<-hm] at hx hj sH sJ pL hI hE;have he:=Xw.elem hx hb hM ⟨wr,hR.out⟩;simp only at he;have tG:=(lgS pK).1;have hT:=pU.out.1;have sK:j<tl.length:=by omega
   obtain⟨n,hn⟩:∃n,tl[j]? =some n:=⟨tl[j],lgE sK⟩
   have sL:=pU.out.2 j n s hn pK;have sM:=pD.out s (lmg pK);have rF:Xif S tl m=(QN (m.to-n).natAbs m,Jb (m.to-n).natAbs m):=by
    unfold Xif;rw[hj,Int.toNat_natCast,List.getD_eq_getElem?_getD,hn];rfl
   rw[rF] at hE;have pY:=XcL h.aA.l m.set;rw[<-HS.out,hj] at pY;obtain⟨dd,pZ⟩:∃dd,dd=(m.to-n).natAbs:=⟨_,rfl⟩
   rw[<-pZ] at hE;have rG:dd<=1048576:=by omega
   have hU:=XpY (Qf.2 pL) rG;have KT:=Xa (λy:World=>Xst dd m (Qf.2 pL) hI rG y);obtain⟨tN,rH⟩:∃tN,tN=QN dd m:=⟨_,rfl⟩
   obtain⟨tD,rI⟩:∃tD,tD=Jb dd m:=⟨_,rfl⟩
   rw[<-rH,<-rI] at hE hU KT;obtain⟨Y,hY,tH,qA,rJ⟩:=bxmv wr m;have hL:Below W.heap.size W Y:=hR.out.trans (qA.mono hR.out.size);have rK:=λy:Xb Y.heap.size Y=>Xw.boxed rJ (by omega) y;have rL:=λy:Xb Y.heap.size Y=>pH ⟨y.val,hL.trans (y.below.mono hL.size)⟩;simp only at rL;obtain⟨b2,off2,rM,pA,hJ⟩:=pT.out.2.2 (show 0<tl.length by omega);simp only at rM;subst rM;have rN:=λy:Xb Y.heap.size Y=>(Xb.cell (x:=⟨y.val,hL.trans (y.below.mono hL.size)⟩) (hJ j n hn 0 _ rfl) pA)
   simp only[Nat.mul_one,Nat.add_zero] at rN;have KS:=Xa (λy:Xb Y.heap.size Y=>Xc.after (x:=y) nr (Xfb h m.set y.val W.heap.size (Nat.le_trans hL.size y.size) (pS.out.to (hL.trans (y.below.mono hL.size)) nr)));rw[pY] at KS;have tI:(0:Int)<=(j:Int)/\(j:Int)<(tl.length:Int):=by omega
   have qB:mb<wr.heap.size:=(agS hC.out).1;have sN:IntKind.i64.wrap (m.to-n)=m.to-n:=by rw[IntKind.wrap_i64];omega
   have sO:IntKind.i64.wrap (-(m.to-n))= -(m.to-n):=by rw[IntKind.wrap_i64];omega
   obtain⟨N,hN⟩:∃N,N=(Xa9 S tl (ml.take k)).1:=⟨_,rfl⟩
   obtain⟨D,hD⟩:∃D,D=(Xa9 S tl (ml.take k)).2:=⟨_,rfl⟩
   have rO:Xa9 S tl (ml.take k)=(N,D):=by rw[hN,hD]
   rw[rO] at hC hH hE;have HM:=Xa (λy:Xb Y.heap.size Y=>(y.below.block mb (by omega)).trans ((qA.block mb qB).trans hC.out));have hG:=Xa hE;have hK:=Xa hU;have rP:=Xa hL;have HY:=Xa hY;have rQ:max (m.to-n) (-(m.to-n))=(dd:Int):=by rw[pZ];omega
   have sP:=Xa rQ;have qC:=Xa (λy:Xb Y.heap.size Y=>Xc.after (x:=y) nr (KT.out y.val));obtain⟨f,hf⟩:∃f,f=fmk (tN:Int) tD:=⟨_,rfl⟩
   rw[<-hf] at qC;have HF:=Xa hf;clear hM hJ hx rQ hf KT pZ hE qA rJ hY pY hj pK hN hD rO rH rI rF pL hI hm hn sL sM hC hU hL hT;go_upto_region 8 with fail;rw[<-HY.out,show Y=(Xb.refl Y.heap.size Y).val from rfl];refine Xk (Xb.refl Y.heap.size Y) (by kernel_rfl) (by kernel_rfl) ?_
   repeat (go_big_quiet_step ((go_at_call 66;exact KS.out _)))
   refine wpQuiet_nil ?_;intro z;go_upto_region 9 with fail;have sQ:=rK z;have sR:=z.size;go_upto_region 10 with (go_at_call 190;rw[sP.out];refine(qC.out z).mono ?_;rintro e w' ⟨rfl,y1,rfl⟩)
   obtain⟨Z,hZ,tJ,rR,rS⟩:=boxed y1.val (.cells #[.int .i64 f.1,.int .i64 (f.2:Int)] 110);have qD:Below Y.heap.size Y Z:=y1.below.trans (rR.mono y1.size);have tK:=y1.size;obtain⟨f0,pM⟩:∃f0,f0=fmk (N:Int) D:=⟨_,rfl⟩
   have qE:Z.heap[mb]? =some (.cells #[.int .i64 f0.1,.int .i64 (f0.2:Int)] 110 (0,0)):=by
    rw[pM];exact HM.out ⟨Z,qD⟩
   have qF:mb<Z.heap.size:=(agS qE).1;have pN:=λv:Xb Z.heap.size Z=>(v.below.block mb qF).trans qE;have rT:=λv:Xb Z.heap.size Z=>And.intro (Xi ((v.below.block y1.val.heap.size (by omega)).trans rS)) (Xi (pN v));have qG:=rT (Xb.refl _ _);simp only[Xb.refl] at qG;have rU:∀(v:Xb Z.heap.size Z) (i:Nat),i<2->v.val.frozen? ⟨mb,i,none⟩=false:=λv i hi=>by simp[World.frozen?,pN v]
   have rV:=Xa pN;have HZ:=Xa hZ;have rW:=Xa qD;have KC:=Xa (λv:Xb Z.heap.size Z=>Xc.after (x:=v) nr (Xve tN N tD D hK.out.pos hH.out.pos hK.out.den hH.out.den hK.out.num hH.out.num v.val));simp only[frV] at KC;rw[<-HF.out,<-pM] at KC;obtain⟨cc,qH⟩:∃cc,cc=XhN (tN*D) (N*tD):=⟨_,rfl⟩
   rw[<-qH] at KC;have rX:=Xa qH;have sS:=Xa pM;clear qE hZ rR qD rK rL rN qC qH pM rS rE pN;go_upto_region 12 with fail;rw[<-HZ.out];have rY:=Xa (λv:Xb Z.heap.size Z=>rP.out.trans ((rW.out.trans (v.below.mono rW.out.size)).mono rP.out.size));go_upto_region 13 with (go_at_call 191;refine(KC.out (Xb.refl _ _)).mono ?_;rintro e w' ⟨rfl,y2,rfl⟩)
   have sT:=rT y2;have sU:=rU y2 0 (by decide);have sV:=rU y2 1 (by decide);by_cases hp:0<cc
   ·have sW:decide (cc>0)=true:=by simpa using hp
    go_wp2_with fail;refine⟨⟨k+1,by go_num,by omega,Xa ?_,Xa ?_,Xa ?_⟩,by simp[intOf];omega⟩
    ·rw[hG.out,longer,<-rX.out,if_pos hp,<-HF.out];exact XR (rV.out y2)
    ·rw[hG.out];exact hH.out.longer hK.out
    ·exact((rY.out y2).setCell pE _).setCell pE _
   ·have sW:decide (cc>0)=false:=by simpa using hp
    go_wp2_with fail;refine⟨⟨k+1,by go_num,by omega,Xa ?_,Xa ?_,rY.out y2⟩,by simp[intOf];omega⟩
    ·rw[hG.out,longer,<-rX.out,if_neg hp,<-sS.out];exact rV.out y2
    ·rw[hG.out];exact hH.out.longer hK.out
  ·have sX:ml.take k=ml:=List.take_of_length_le (by omega);rw[sX] at hC;have sY:=Xi hC.out;have hV:=sB.out ⟨wr,hR.out⟩;simp only at hV;have tL:=Xi hV;have sZ:wr.frozen? ⟨w.heap.size+1+1,0,none⟩=false:=by simp[World.frozen?,hV]
   have tB:wr.frozen? ⟨w.heap.size+1+1,1,none⟩=false:=by simp[World.frozen?,hV]
   obtain⟨f,hf⟩:∃f,f=fmk ((Xa9 S tl ml).1:Int) (Xa9 S tl ml).2:=⟨_,rfl⟩
   rw[<-hf] at sY;have HF:=Xa hf;have hV:=Xa hV;clear hf hC;go_wp2_with fail;have c:=Xi (XR (c:=.int .i64 f.1) (d:=.int .i64 (f.2:Int)) hV.out);refine bodyPost_ret (v:=.tuple #[frV f,.int .i64 0]) (by simp[results,Tryz.results146,go_sem,c.1,c.2,frV]) rfl ⟨by rw[HF.out],?_⟩;exact((sA.out ⟨wr,hR.out⟩).setCell (by show w.heap.size<=w.heap.size+1+1;omega) _).setCell (by show w.heap.size<=w.heap.size+1+1;omega) _
end Go.Proofs.YtdcahhbipeaggaaGreatDoor
