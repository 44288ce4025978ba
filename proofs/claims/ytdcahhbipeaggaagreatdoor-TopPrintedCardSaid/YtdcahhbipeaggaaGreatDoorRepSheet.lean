/- Lemmas for TopPrinted: Timeline, Times, RepSheet. -/
import Derived.Test.YtdcahhbipeaggaaGreatDoorPaper
import Derived.Test.YtdcahhbipeaggaaGreatDoorLinkStart
set_option maxRecDepth 100000
set_option maxHeartbeats 16000000
namespace Go.Proofs.YtdcahhbipeaggaaGreatDoor
open Go.RowKit
theorem XjF(n:Int)(w:World):Calls Tryz.prog 148 #[.int .i64 n] w (Xc w (.agg #[.int .i64 n,.int .i64 1])):=by
 go_enter Tryz.func148,Tryz.ntmps148;go_wp2;go_returns;exact Xc.mk rfl (brf.alloc nr _)
def Zk(w:World)(pb:Nat)(T v:Value):Prop:=w.heap[pb]? =some (.cells #[T,.slice none 0 0,v] 188 (0,0))
theorem Zk.lt{w:World}{pb:Nat}{T v:Value}(h:Zk w pb T v):pb<w.heap.size:=(agS h).1
theorem Zk.below{w w':World}{pb:Nat}{T v:Value}(h:Zk w pb T v)(hb:Below w.heap.size w w'):Zk w' pb T v:=(hb.block pb h.lt).trans h
theorem Zk.cells{w:World}{pb:Nat}{T v:Value}(h:Zk w pb T v):w.cell? ⟨pb,0,none⟩=some T/\w.cell? ⟨pb,1,none⟩=some (.slice none 0 0)/\w.cell? ⟨pb,2,none⟩=some v/\∀i,w.frozen? ⟨pb,i,none⟩=false:=
 ⟨by rw[Lib.cell_of_heap h];rfl,by rw[Lib.cell_of_heap h];rfl,by rw[Lib.cell_of_heap h];rfl,λi=>Xe h i⟩
theorem Zk.put{w:World}{pb:Nat}{T v:Value}(h:Zk w pb T v)(u:Value):Zk (w.setCell ⟨pb,2,none⟩ u) pb T u:=by
 unfold Zk;rw[Xx h];rfl
theorem Zk.grown{w u y:World}{pb base size n:Nat}{T v v':Value}{xs:List Value}{t:TypeId}(h:Zk w pb T v)(ht:188≠t)(hC:w.ownsRow base t size v' n xs)(hu:Below w.heap.size w u)(hg:u.grownBy y v'.ownBlock):Zk y pb T v:=by
 refine(hg.block pb (Nat.lt_of_lt_of_le h.lt hu.size) λe=> ?_).trans (h.below hu);rcases hC.2 with ⟨hv,_⟩|⟨g2,cap2,cur2,hv,-,hh,-⟩
 ·rw[hv] at e;simp[Value.ownBlock] at e
 ·rw[hv] at e;simp[Value.ownBlock] at e;subst e;unfold Zk at h;rw[h] at hh;injection hh with hh;injection hh with _ e2;exact ht e2
theorem Zk.ne{α:Type}{t:TypeId}{size:Nat}{cells:α->List Value}{W x:World}{v T u:Value}{l:List α}{pb:Nat}(h:X7 t size cells W v l x)(hp:Zk x pb T u)(ht:t≠188):v.ownBlock≠some pb:=by
 rcases h.own.2 with ⟨hv,_⟩|⟨g,cap,cur,hv,-,hh,-⟩
 ·rw[hv];simp[Value.ownBlock]
 ·rw[hv];intro e;simp[Value.ownBlock] at e;subst e;unfold Zk at hp;rw[hp] at hh;injection hh with hh;injection hh with _ h2;exact ht h2.symm
theorem Y9.setOther{w:World}{r:Sl Int}{b:Nat}{cs:Array Value}{t:TypeId}{fr:Nat×Nat}(h:Y9 w r)(hb:w.heap[b]? =some (.cells cs t fr))(ht:t≠3)(i:Nat)(v:Value):Y9 (w.setCell ⟨b,i,none⟩ v) r:=by
 rcases h with h|⟨g,h1,h2,h3⟩
 ·exact Or.inl h
 ·refine Or.inr ⟨g,h1,h2,?_⟩;obtain⟨cur,hc,hr⟩:=h3;have hC:g≠b:=λe=>by
   subst e;rw[hb] at hc;injection hc with hc;injection hc with _ h5;exact ht h5
  exact⟨cur,(RowKit.Below.heap_setCell _ _ _ _ hC).trans hc,hr⟩
def XdU(L:List Int)(E:List Int×Int)(w:World)(e:Ending)(w':World):Prop:=
 Below w.heap.size w w'/\∃(TA:Option Addr) (tn tc:Nat) (st ln:Sl Int),e=.returned (.tuple #[.agg #[.slice TA tn tc,.slice st.A st.l.length st.cap,.slice ln.A ln.l.length ln.cap],.int .i64 E.2])/\st.l=E.1/\ln.l=L/\Y9 w' st/\Y9 w' ln
theorem Xnl(h:Xf)(qQ:h.ok)(s:Xq)(sok:s.ok)(rS:∀q∈s.aC.l,q.aD.l.length<=1000000)(hv:Y5 h.pl s.pl=true)(G:Sl Int)(w:World)(rT:Xf.at_ w w.heap.size h)(sat:Xq.at_ w w.heap.size s)(Gat:XA w w.heap.size 1 Xj G):
 Calls Tryz.prog 93 #[.agg #[.string h.name,.int .i64 h.aH,.slice h.aA.A h.aA.l.length h.aA.cap,.slice h.aB.A h.aB.l.length h.aB.cap],.agg #[.slice s.aC.A s.aC.l.length s.aC.cap,.slice s.apart.A s.apart.l.length s.apart.cap],.slice G.A G.l.length G.cap] w (XdU (Jg h.pl.aA s.pl.aC s.aC.l.length) (XI s.pl.aC (Jg h.pl.aA s.pl.aC s.aC.l.length) G.l) w):=by
 have pH:=Jd hv;have qE:Xv h=true:=(Zi h).trans pH.house;have qR:∀q∈s.aC.l,ZY (h.aA.l.map Xd.pl) q.pl=true:=λq hq=>pH.right q.pl (List.mem_map.2 ⟨q,hq,rfl⟩);have pI:∀q∈s.aC.l.map Xn.pl,ZY (h.aA.l.map Xd.pl) q=true:=pH.right;have nK:s.aC.l.length<=60:=by simpa[Xq.pl] using pH.few
 have rU:=Xa7 pH;obtain⟨W1,rV,qS,hH,rW⟩:=bxhs w h;obtain⟨W2,rX,rY,hD,rZ⟩:=bxsh W1 s;obtain⟨W,sB,sC,qF,qT⟩:=boxed W2 (.cells #[.slice none 0 0,.slice none 0 0,.slice none 0 0] 188);have pJ:Below w.heap.size w W2:=hH.trans (hD.mono (by omega));have hb:Below w.heap.size w W:=pJ.trans (qF.mono (by omega));have pK:=(qF.block _ (by omega)).trans ((hD.block _ (by omega)).trans rW)
 have hW:=(qF.block _ (by omega)).trans rZ;rw[qS] at hW;rw[rY,qS] at qT;have qG:=λy:Xb W.heap.size W=>Xf.boxed pK (by omega) y;have qU:=λy:Xb W.heap.size W=>Xq.boxed hW (by omega) y;have sD:=λy:Xb W.heap.size W=>(y.below.block (w.heap.size+1+1) (by omega)).trans qT;have qV:w.heap.size<=W.heap.size:=by omega
 have nL:w.heap.size+1+1<W.heap.size:=by omega
 have sE:=bdo hb;have hZ:=rT.to hb qV;have satW:=sat.to hb qV;have GatW:=Gat.to hb qV;have KT:=Xa (Xgr h qQ s sok rS hv W hZ satW);have KL:=Xa (λ(q:Xn) (hq:q∈s.aC.l) (r:Sl Int) (hr:JL (h.aA.l.map Xd.pl) r.l) (y:World) (hy:Below W.heap.size W y) (rat:XA y y.heap.size 1 Xj r)=>Xpg h qQ qE q (sok.aC q hq) (qR q hq) r hr y (hZ.to hy hy.size) ((satW.each q hq).to hy hy.size) rat);have KS:=Xa (λ(L:Sl Int) (hL:L.l.length=s.aC.l.length) (y:World) (hy:Below W.heap.size W y) (Lat:XA y y.heap.size 1 Xj L)=>Xop s sok rU L G hL y (satW.to hy hy.size) Lat (GatW.to hy hy.size))
 have HW:=Xa (show((w.alloc (.cells #[.string h.name,.int .i64 h.aH,.slice h.aA.A h.aA.l.length h.aA.cap,.slice h.aB.A h.aB.l.length h.aB.cap] 25)).alloc (.cells #[.slice s.aC.A s.aC.l.length s.aC.cap,.slice s.apart.A s.apart.l.length s.apart.cap] 29)).alloc (.cells #[.slice none 0 0,.slice none 0 0,.slice none 0 0] 188)=W by rw[<-rV,<-rX,<-sB]);have tL:=Xa sE;have tM:=Xa sD;have SATW:=Xa satW.aC;have qH:=Xa (Xg0 qE pI);have qW:=Xa (λ(q:Xn) (hq:q∈s.aC.l) (i:Nat)=>Xph qE (qH.out i) (qR q hq));obtain⟨i0,hi,sF,sG,sH⟩:=ZW
 have HI:=Xa (And.intro hi (And.intro sF (And.intro sG sH)));have sJ:=And.intro (qG (Xb.refl _ _)) (qU (Xb.refl _ _));simp only[Xb.refl] at sJ;clear rV rX sB qS rY sC hH hD qF pJ rW rZ qT pK hW hb sE rT hZ sat satW Gat GatW qQ qE sok rS hv pH qR pI rU sD hi sF sG sH;obtain⟨S,hS⟩:∃S,S=h.pl.aA:=⟨_,rfl⟩
 rw[show h.aA.l.map Xd.pl=S from hS.symm] at qH qW;rw[show h.aA.l.map Xd.pl=S from hS.symm] at KL;rw[<-hS] at KT ⊢;clear hS;obtain⟨⟨qA,qcap,ql⟩,⟨pA,pcap,pl⟩⟩:=s;simp only at*;obtain⟨Q,hQ⟩:∃Q,Q=ql.map Xn.pl:=⟨_,rfl⟩
 rw[<-hQ] at qH;rw[<-hQ] at qW;rw[show(Xq.pl ⟨⟨qA,qcap,ql⟩,⟨pA,pcap,pl⟩⟩).aC=Q from hQ.symm] at KT ⊢;rw[<-hQ] at KS;have HQ:=Xa hQ;have pL:=Xa (show Q.length=ql.length by rw[hQ,List.length_map]);clear hQ;have nM:ql.length<=qcap:=SATW.out.1;have nN:qcap<=9223372036854775807:=SATW.out.2.1;go_enter Tryz.func93,Tryz.ntmps93;go_upto_region 1 with fail;rw[HW.out];go_upto_region 4 with (go_at_call 15;refine KT.out.mono ?_;rintro e w1 ⟨hH,⟨RA,Rc,Rl⟩,rfl,hM,qX,hRow⟩)
 have sK:Rl.length=ql.length+1:=by
  have:=congrArg List.length qX;rw[List.length_map] at this;rw[this,XaW,List.length_map,List.length_range,pL.out]
 have tN:=Xa qX;have sL:=Xa sK;obtain⟨V,hV,tO,qY,sM⟩:=boxed w1 (.cells #[.slice RA Rl.length Rc,.slice none 0 0,.slice none 0 0] 188);have sN:Zk V w1.heap.size (.slice RA Rl.length Rc) (.slice none 0 0):=sM;have qI:Below W.heap.size W V:=hH.trans (qY.mono hH.size);have sO:=And.intro (qG ⟨V,qI⟩) (qU ⟨V,qI⟩);simp only at sO;have qZ:=Xa hM;have pM:=Xa hRow;have rA:=Xa hH;have sP:=Xa hH.size;have sQ:=Xa sN;have nO:=Xa qI;have tP:=Xa qY;have HV:=Xa hV;have tQ:Rl.length<=Rc:=hM.1;have nP:Rc<=9223372036854775807:=hM.2.1;clear qX sK hM hRow hV tO qY sM sN qI hH
 obtain⟨rn,rB⟩:∃rn,rn=Rl.length:=⟨_,rfl⟩
 rw[<-rB] at HV sQ tQ sL ⊢;have pN:=Xa rB;have nQ:ql.length<rn:=by rw[sL.out];omega
 clear rB;go_upto_region 5 with fail;rw[<-HV.out];go_wp2_with fail;clear sO sJ;go_loopw [31] (λv wr=>∃(k:Nat) (u:Value),v=.int .i64 k/\k<=ql.length/\Hid (Zk wr w1.heap.size (.slice RA rn Rc) u)/\Hid (X7 3 1 Xj w1 u (Jg S Q k) wr)/\Hid (k=0->u=.slice none 0 0)) (λv _=>ql.length-(intOf v).toNat)
 case atStart=>exact⟨0,_,rfl,Nat.zero_le _,sQ,Xa (X7.start _ _ _ tP.out),Xa (λ_=>rfl)⟩
 case round=>
  obtain⟨k,u,rfl,hk,pO,pB,hz⟩:=hrel;have pC:Below W.heap.size W wr:=rA.out.trans (pB.out.bel.mono sP.out);have sR:=And.intro (qG ⟨wr,pC⟩) (qU ⟨wr,pC⟩);simp only at sR;have tR:=pO.out.cells;by_cases rC:k<ql.length
  ·obtain⟨b,off,hA,hb,hR⟩:=SATW.out.2.2 (show 0<ql.length by omega);simp only at hA;subst hA;have hx:ql[k]? =some ql[k]:=lgE rC;have rD:=Xa (KL.out ql[k] (List.getElem_mem rC));have rE:=qW.out ql[k] (List.getElem_mem rC) k;obtain⟨q,hq⟩:∃q,q=ql[k]:=⟨_,rfl⟩
   rw[<-hq] at hx rD rE;have he:=Xn.elem hx hb hR ⟨wr,pC⟩;simp only at he;obtain⟨b2,off2,sS,hD,hI⟩:=qZ.out.2.2 (show 0<Rl.length by rw[<-pN.out];omega);simp only at sS;subst sS;obtain⟨r,hr⟩:∃r,Rl[k]? =some r:=⟨_,lgE (by rw[<-pN.out];omega)⟩
   have hN:r.l=JT S Q k:=by
    have h1:=congrArg (λl=>l[k]?) tN.out;simp only[List.getElem?_map,hr,Option.map_some,XaW] at h1;rw[List.getElem?_range (by rw[pL.out];omega)] at h1;simpa using h1
   have hE:=pM.out r (lmg hr);have sT:Q[k]? =some q.pl:=by rw[HQ.out,List.getElem?_map,hx];rfl
   have sU:=XiP (S:=S) sT;obtain⟨Y,hY,tU,pP,sV⟩:=bxcu wr q;have pQ:Below W.heap.size W Y:=pC.trans (pP.mono pC.size);have pR:Below w1.heap.size w1 Y:=pB.out.bel.trans (pP.mono pB.out.bel.size);have rF:=λy:Xb Y.heap.size Y=>And.intro (Xn.boxed sV (by omega) y) (And.intro (qG ⟨y.val,pQ.trans (y.below.mono pQ.size)⟩) ((Xb.cell (x:=⟨y.val,pR.trans (y.below.mono pR.size)⟩) (hI k r hr 0 _ rfl) hD)))
   simp only[Nat.mul_one,Nat.add_zero] at rF;have pS:=rF (Xb.refl _ _);simp only[Xb.refl] at pS;have pT:=Xa (λy:Xb Y.heap.size Y=>rD.out r (hN▸qH.out k) y.val (pQ.trans (y.below.mono pQ.size)) (hE.below (pR.trans (y.below.mono pR.size))).slAt);obtain⟨a,ha⟩:∃a,a=Xa9 S r.l q.aD.l:=⟨_,rfl⟩
   have pU:Xn9 a:=by rw[ha,hN];exact rE
   have pV:Jg S Q (k+1)=Jg S Q k++[msF a]:=by rw[sU,ha,hN];rfl
   rw[<-ha] at pT;obtain⟨f,hf⟩:∃f,f=fmk (a.1:Int) a.2:=⟨_,rfl⟩
   rw[<-hf] at pT;have HF:=Xa hf;have hG:=Xa pU;have rG:=Xa pV;have nR:=Xa pQ;have nS:=Xa pR;have rH:=Xa (pO.out.below pP);have rI:=Xa (pB.out.more pP);have sW:=J2 S Q k (by rw[pL.out];omega);have tV:=Xa sW;have nT:(0:Int)<=(k:Int)/\(k:Int)<(rn:Int):=by omega
   have tW:=Xa hY;have nU:=Xa (show wr.heap.size<Y.heap.size by omega);simp only[frV] at pT;clear hR hI hx hq hr hN hE sT sU pP sV hY tU ha rE pU pV hf pB pO hz sW rD;go_upto_region 8 with fail;rw[<-tW.out,show Y=(Xb.refl Y.heap.size Y).val from rfl];refine Xmz (Xb.refl Y.heap.size Y) nr 11 9 10 13 (.cells #[.int .i64 0,.int .i64 0] 110) (by kernel_rfl) (by kernel_rfl) ⟨_,_,_,rfl,rfl,rfl,λ_ _ _ _ h=>h⟩ (by kernel_rfl) ⟨_,rfl,rfl,rfl,λa w=>by kernel_rfl⟩ ?_;apply Exists.intro;refine⟨λfl sX=> ?_,?_,?_,?_⟩
   ·simp only[Xy,List.push_toArray,List.cons_append,List.nil_append,List.take_succ_cons,List.take_zero]
    repeat (go_big_quiet_step ((go_at_call 146;exact Xc.afterF nr (pT.out _))))
    exact wpQuiet_nil rfl
   ·kernel_rfl
   ·rfl
   intro p z hp tX qJ;have r1:=Xi qJ;have r2:=Xe qJ;simp only[Xy,List.push_toArray,List.cons_append,List.nil_append,List.drop_succ_cons,List.drop_zero,ZE];go_simp;go_upto_region 9 with fail;obtain⟨X,hX⟩:∃C,C=(z.val.setCell ⟨p,0,none⟩ (.int .i64 f.1)).setCell ⟨p,1,none⟩ (.int .i64 (f.2:Int)):=⟨_,rfl⟩
   rw[<-hX];have pW:X.heap[p]? =some (.cells #[.int .i64 f.1,.int .i64 (f.2:Int)] 110 (0,0)):=by rw[hX];exact XR qJ
   have sY:Below Y.heap.size Y X:=by rw[hX];exact(z.below.setCell hp _).setCell hp _
   have qK:p<X.heap.size:=(agS pW).1;have rJ:=λy:Xb X.heap.size X=>And.intro (Xi ((y.below.block p qK).trans pW)) (λi=>Xe (i:=i) ((y.below.block p qK).trans pW));have pX:=rJ (Xb.refl _ _);simp only[Xb.refl] at pX;have qL:=Xa pW;have sZ:=Xa sY;obtain⟨g,hg⟩:∃g,g=fmk (1000*(a.1:Int)) (1*a.2):=⟨_,rfl⟩
   have KM:=Xa (λy:Xb X.heap.size X=>Xc.after (x:=y) nr (Xqb 1000 (a.1:Int) 1 a.2 (by decide) hG.out.pos (by have:=hG.out.den;omega) (by decide) (by have:=hG.out.num;omega) (by have:=hG.out.num;omega) y.val));rw[<-HF.out,<-hg,show fmk 1000 1=((1000:Int),1) by simp[fmk]] at KM;simp only[frV] at KM;have tA:=Xa (show msF a= -(-g.1/(g.2:Int)) by rw[hg];rfl);have KC:=Xa (λy:World=>XtZ (1000*(a.1:Int)) (1*a.2) (by have:=hG.out.pos;omega) (by have:=hG.out.den;omega) (by have:=hG.out.num;omega) y);rw[<-hg,<-tA.out] at KC;simp only[frV] at KC;have tB:=Xa hp
   clear hX pW sY r1 r2 qJ hp tX rF pS hg pT sR tR;go_upto_region 11 with fail;rw[show X=(Xb.refl X.heap.size X).val from rfl];refine Xsr (Xb.refl X.heap.size X) 6 5 6 (by kernel_rfl) (by kernel_rfl) ⟨_,_,_,rfl,rfl,rfl,λ_ _ _ _ h=>h⟩ (by kernel_rfl) ?_;simp only[Xy,List.push_toArray,List.cons_append,List.nil_append,List.take_succ_cons,List.take_zero,List.drop_succ_cons,List.drop_zero]
   repeat (go_big_quiet_step (first
    |(go_at_call 148;exact Xc.after nr (XjF 1000 _))
    |(go_at_call 147;exact KM.out _)))
   refine wpQuiet_nil ?_;intro z2;have tY:=rJ z2;go_simp;go_upto_region 12 with fail;obtain⟨X2,qM⟩:∃C,C=(z2.val.setCell ⟨p,0,none⟩ (.int .i64 g.1)).setCell ⟨p,1,none⟩ (.int .i64 (g.2:Int)):=⟨_,rfl⟩
   rw[<-qM];have hD:X2.heap[p]? =some (.cells #[.int .i64 g.1,.int .i64 (g.2:Int)] 110 (0,0)):=by rw[qM];exact XR ((z2.below.block p qK).trans qL.out)
   have pY:Below Y.heap.size Y X2:=by rw[qM];exact((sZ.out.trans (z2.below.mono sZ.out.size)).setCell tB.out _).setCell tB.out _
   have nV:p<X2.heap.size:=(agS hD).1;have tZ:=Xi hD;have pZ:=Xa pY;clear qM hD pY tY rJ pX qL KM qK;have tC:=Xa (Xc.first (KC.out X2));go_upto_region 15 with (go_at_call 149;refine tC.out.mono ?_;rintro e w' ⟨rfl,y3,rfl⟩)
   have rK:Below Y.heap.size Y y3.val:=pZ.out.trans (y3.below.mono pZ.out.size);have pD:=rH.out.below rK;have hO:=rI.out.more rK;have nA:=pD.cells;have sC:=hO.bel.size;obtain⟨n,hn⟩:∃n,n=msF a:=⟨_,rfl⟩
   obtain⟨Lk,rL⟩:∃L,L=Jg S Q k:=⟨_,rfl⟩
   rw[<-rL] at hO rG;rw[<-hn] at rG ⊢;have qB:=Xa (show Lk.length=k by rw[rL];exact tV.out);have rM:=Xa pD;have pE:=Xa hO;have sX:188≠3:=by decide
   have hC:3≠188:=by decide
   clear rK pD hO hn rL tZ HF tA KC tC;go_wp2_with (at_builtin;refine Hid.out ?_)
   refine Lib.hid ?_;refine wpList_append_own _ rfl _ _ 30 rfl w1.heap.size 3 i0 _ 1 8 Tryz.underlying30 HI.out.1 HI.out.2.1 HI.out.2.2.1 HI.out.2.2.2 rfl (by decide) _ _ _ rfl (pE.out.own.alloc _) ⟨y3.val.heap.size,0,none⟩ 1 1 (Xj n) rfl rfl (World.news_of_block (heap_alloc_new y3.val _)) (λu hu=>by simp[Xj] at hu;subst hu;rfl) (by rw[qB.out];unfold maxLen;omega) (by rw[qB.out];omega) (by simp;omega) ?_;intro v' w4 hJ pF _;have hP:=rM.out.grown sX pE.out.own (brf.alloc nr _) pF;have pG:=pE.out.append (ls:=[n]) (brf.alloc nr _) hJ pF
   have HN:=Xa (pG.setOther nr (Zk.ne pG hP hC) 2 v');have nB:=Xa (hP.put v');have nC:=hP.cells;have nW:=nC.2.2.2 2;obtain⟨vA,vn,vc,rfl⟩:∃A n c,v'=.slice A n c:=by
    rcases hJ.2 with ⟨hv,_⟩|⟨g,cap,cur,hv,_⟩
    ·exact⟨_,_,_,hv⟩
    ·exact⟨_,_,_,hv⟩
   clear hJ pF hP pG;go_wp2_with fail;exact⟨⟨k+1,.slice vA vn vc,by go_num,by omega,nB,Xa (by rw[rG.out];exact HN.out),Xa (λh0=>absurd h0 (by omega))⟩,by simp[intOf];omega⟩
  ·have nD:k=ql.length:=by omega
   subst nD
   obtain⟨⟨lA,lc,ll⟩,rfl,hN,hE⟩:=pB.out.rowIn (λh0=>hz.out (by
    have:=congrArg List.length h0;rw[J2 S Q ql.length (by rw[pL.out];omega)] at this
    simpa using this))
   simp only at hN hE;have tD:ll.length=ql.length:=by rw[hN,J2 S Q ql.length (by rw[pL.out];omega)]
   have tG:=Xa (KS.out ⟨lA,lc,ll⟩ tD wr pC hE.slAt);simp only at tG;have rN:=Xa hN;have rO:=Xa hE;have nE:=Xa pO.out;have tH:=Xa pC;clear pB pO hz hN hE KL tD;go_upto_region 20 with (go_at_call 150;refine tG.out.mono ?_;rintro e w5 ⟨qN,⟨sA,sc,sl⟩,rfl,rP,hT⟩;replace rP:=Xa rP;have hK:=nE.out.below qN;have qC:=hK.cells;have nF:=qC.2.2.2 1)
   obtain⟨X,hX⟩:∃X,X=w5.setCell ⟨w1.heap.size,1,none⟩ (.slice sA sl.length sc):=⟨_,rfl⟩
   rw[<-hX];have hC:188≠3:=by decide
   have qO:X.heap[w1.heap.size]? =some (.cells #[.slice RA rn Rc,.slice sA sl.length sc,.slice lA ll.length lc] 188 (0,0)):=by
    rw[hX,Xx hK];rfl
   have tI:Below W.heap.size W w5:=tH.out.trans (qN.mono tH.out.size);have rQ:=tM.out ⟨w5,tI⟩;simp only at rQ;have nG:=sP.out;have hU:X.heap[w.heap.size+1+1]? =some (.cells #[.slice none 0 0,.slice none 0 0,.slice none 0 0] 188 (0,0)):=by
    rw[hX,RowKit.Below.heap_setCell _ _ _ _ (show w.heap.size+1+1≠w1.heap.size by omega)];exact rQ
   have tJ:Y9 X ⟨sA,sc,sl⟩:=by rw[hX];exact hT.setOther hK hC 1 _
   have tK:Y9 X ⟨lA,lc,ll⟩:=by rw[hX];exact(rO.out.below qN).setOther hK hC 1 _
   have nH:Below W.heap.size W X:=by rw[hX];exact tI.setCell (p:=⟨w1.heap.size,1,none⟩) nG _
   obtain⟨X',qD⟩:∃Z,Z=((X.setCell ⟨w.heap.size+1+1,0,none⟩ (.slice RA rn Rc)).setCell ⟨w.heap.size+1+1,1,none⟩ (.slice sA sl.length sc)).setCell ⟨w.heap.size+1+1,2,none⟩ (.slice lA ll.length lc):=⟨_,rfl⟩
   have qP:=Xx hU (i:=0) (.slice RA rn Rc);have hH:=Xx qP (i:=1) (.slice sA sl.length sc);have hD:=Xx hH (i:=2) (.slice lA ll.length lc);rw[<-qD] at hD
   have HR:=Xa (show Y9 X' ⟨sA,sc,sl⟩/\Y9 X' ⟨lA,lc,ll⟩ by
    rw[qD]
    exact⟨((tJ.setOther hU hC 0 _).setOther qP hC 1 _).setOther hH hC 2 _,((tK.setOther hU hC 0 _).setOther qP hC 1 _).setOther hH hC 2 _⟩)
   have qL:=Xa (show Below w.heap.size w X' by
    rw[qD]
    exact(((tL.out ⟨X,nH⟩).setCell (p:=⟨w.heap.size+1+1,0,none⟩) (by show w.heap.size<=w.heap.size+1+1;omega) _).setCell (p:=⟨w.heap.size+1+1,1,none⟩) (by show w.heap.size<=w.heap.size+1+1;omega) _).setCell (p:=⟨w.heap.size+1+1,2,none⟩) (by show w.heap.size<=w.heap.size+1+1;omega) _)
   have c0:X'.cell? ⟨w.heap.size+1+1,0,none⟩=some (.slice RA rn Rc):=by rw[Lib.cell_of_heap hD];rfl
   have c1:X'.cell? ⟨w.heap.size+1+1,1,none⟩=some (.slice sA sl.length sc):=by rw[Lib.cell_of_heap hD];rfl
   have c2:X'.cell? ⟨w.heap.size+1+1,2,none⟩=some (.slice lA ll.length lc):=by rw[Lib.cell_of_heap hD];rfl
   have p0:X.cell? ⟨w1.heap.size,0,none⟩=some (.slice RA rn Rc):=by rw[Lib.cell_of_heap qO];rfl
   have p1:X.cell? ⟨w1.heap.size,1,none⟩=some (.slice sA sl.length sc):=by rw[Lib.cell_of_heap qO];rfl
   have p2:X.cell? ⟨w1.heap.size,2,none⟩=some (.slice lA ll.length lc):=by rw[Lib.cell_of_heap qO];rfl
   have q0:X.cell? ⟨w.heap.size+1+1,0,none⟩=some (.slice none 0 0):=by rw[Lib.cell_of_heap hU];rfl
   have q1:X.cell? ⟨w.heap.size+1+1,1,none⟩=some (.slice none 0 0):=by rw[Lib.cell_of_heap hU];rfl
   have q2:X.cell? ⟨w.heap.size+1+1,2,none⟩=some (.slice none 0 0):=by rw[Lib.cell_of_heap hU];rfl
   have fz:=λi=>Xe (i:=i) hU;have nI:=Xa qD;obtain⟨E2,rR⟩:∃n,n=(XI Q ll G.l).2:=⟨_,rfl⟩
   rw[<-rR];have nJ:=Xa rR;clear hX qO rQ hU tJ tK qD qP hH hD hK qC nF hT qN rR;go_wp2_with fail;rw[<-nI.out];clear p0 p1 p2 q0 q1 q2 fz;refine bodyPost_ret (v:=.tuple #[.agg #[.slice RA rn Rc,.slice sA sl.length sc,.slice lA ll.length lc],.int .i64 E2]) (by simp[results,Tryz.results93,go_sem,c0,c1,c2]) rfl ?_;rw[<-rN.out];exact⟨qL.out,_,_,_,⟨sA,sc,sl⟩,⟨lA,lc,ll⟩,by rw[nJ.out],rP.out,rfl,HR.out.1,HR.out.2⟩
end Go.Proofs.YtdcahhbipeaggaaGreatDoor
namespace Go.Proofs.YtdcahhbipeaggaaGreatDoor
open Go.RowKit
theorem XeQ{Q:List XW}{L G:List Int}(h:(XI Q L G).2=0):(XI Q L G).1=Qb Q L G Q.length/\L.all Xah=true/\G.all Xah=true:=by
 unfold XI at h ⊢;split at h
 ·rename_i h1
  rw[if_pos h1];split at h
  ·rename_i h2
   rw[if_pos h2];rw[bae] at h2;exact⟨rfl,h2⟩
  ·simp at h
 ·simp at h
def XeE(st L:List Int):List Int:=(st.zip L).map λx=>x.1+x.2
def Xuf(E:List Int×Int)(w:World)(e:Ending)(w':World):Prop:=
 Below w.heap.size w w'/\∃r:Sl Int,e=.returned (.tuple #[.slice r.A r.l.length r.cap,.int .i64 E.2])/\r.l=E.1/\Y9 w' r
def Xqp(Q:List XW)(L G:List Int):List Int×Int:=if (XI Q L G).2=0 then(XeE (XI Q L G).1 L,0) else([],(XI Q L G).2)
theorem Xef{α β:Type}{l:List α}{m:List β}{k:Nat}{x:α}{y:β}(h1:l[k]? =some x)(h2:m[k]? =some y):(l.zip m).take (k+1)=(l.zip m).take k++[(x,y)]:=by
 have h:(l.zip m)[k]? =some (x,y):=by rw[List.getElem?_zip_eq_some];exact⟨h1,h2⟩
 rw[List.take_add_one,h];rfl
structure Xaw where
 cue:ByteArray
 at_:Int
def Xaw.cells(x:Xaw):List Value:=[.string x.cue,.int .i64 x.at_]
theorem Xmv(x:Xaw):x.cells.length=2:=rfl
theorem Xvk:(Tryz.prog.info? 118).map (λi=>(i.zero,i.size,i.bytes))=some (some (.agg #[.string ⟨#[]⟩,.int .i64 0]),2,24):=by kernel_rfl
def XhO(Q:List XW)(st:List Int):List Xaw:=(Q.zip st).map λx=>⟨x.1.name,x.2⟩
def Xsk(Q:List XW)(L G:List Int):List Xaw×Int:=if (XI Q L G).2=0 then(XhO Q (XI Q L G).1,0) else([],(XI Q L G).2)
def Xuk(E:List Xaw×Int)(w:World)(e:Ending)(w':World):Prop:=
 Below w.heap.size w w'/\∃r:Sl Xaw,e=.returned (.tuple #[.slice r.A r.l.length r.cap,.int .i64 E.2])/\r.l=E.1/\XA w' w'.heap.size 2 Xaw.cells r
theorem XtN(h:Xf)(pH:h.ok)(s:Xq)(sok:s.ok)(pI:∀q∈s.aC.l,q.aD.l.length<=1000000)(hv:Y5 h.pl s.pl=true)(G:Sl Int)(w:World)(pJ:Xf.at_ w w.heap.size h)(sat:Xq.at_ w w.heap.size s)(Gat:XA w w.heap.size 1 Xj G):
 Calls Tryz.prog 41 #[.agg #[.string h.name,.int .i64 h.aH,.slice h.aA.A h.aA.l.length h.aA.cap,.slice h.aB.A h.aB.l.length h.aB.cap],.agg #[.slice s.aC.A s.aC.l.length s.aC.cap,.slice s.apart.A s.apart.l.length s.apart.cap],.slice G.A G.l.length G.cap] w (Xuf (Xqp s.pl.aC (Jg h.pl.aA s.pl.aC s.aC.l.length) G.l) w):=by
 have hW:=Jd hv;obtain⟨W1,pK,pL,hH,pM⟩:=bxhs w h;obtain⟨W,pN,qB,hK,hX⟩:=bxsh W1 s;have hb:Below w.heap.size w W:=hH.trans (hK.mono (by omega));have hN:=(hK.block _ (by omega)).trans pM;rw[pL] at hX;have qC:=And.intro (Xf.boxed hN (by omega) (Xb.refl W.heap.size W)) (Xq.boxed hX (by omega) (Xb.refl W.heap.size W));simp only[Xb.refl] at qC
 have hO:w.heap.size<=W.heap.size:=by omega
 have KM:=Xa (Xnl h pH s sok pI hv G W (pJ.to hb hO) (sat.to hb hO) (Gat.to hb hO));have HW:=Xa (show(w.alloc (.cells #[.string h.name,.int .i64 h.aH,.slice h.aA.A h.aA.l.length h.aA.cap,.slice h.aB.A h.aB.l.length h.aB.cap] 25)).alloc (.cells #[.slice s.aC.A s.aC.l.length s.aC.cap,.slice s.apart.A s.apart.l.length s.apart.cap] 29)=W by rw[<-pK,<-pN]);have HB:=Xa hb
 have pO:=Xa (show ∀q∈s.pl.aC,0<=q.aL/\q.aL<=2147483648 from λq hq=>by
  obtain⟨i,hi⟩:=List.getElem?_of_mem hq
  exact Xz.1 ((Xa7 hW).name i q hi).2.2)
 have hT:=Xa (show s.pl.aC.length=s.aC.l.length by simp[Xq.pl]);have hY:=Xa (J2 h.pl.aA s.pl.aC s.aC.l.length (by rw[hT.out];omega));have qD:s.aC.l.length<=60:=by simpa[Xq.pl] using hW.few
 obtain⟨i0,hi,pP,pQ,pR⟩:=ZW;have HI:=Xa (And.intro hi (And.intro pP (And.intro pQ pR)));clear pK pN pL qB hH hK pM hX hN hb pJ sat Gat pH sok pI hv hW hi pP pQ pR;obtain⟨L,hL⟩:∃L,L=Jg h.pl.aA s.pl.aC s.aC.l.length:=⟨_,rfl⟩
 obtain⟨Q,hQ⟩:∃Q,Q=s.pl.aC:=⟨_,rfl⟩
 rw[<-hL] at KM hY;rw[<-hQ] at KM hT pO;rw[<-hL,<-hQ];clear hL hQ;have hE:Xqp Q L G.l=if (XI Q L G.l).2=0 then(XeE (XI Q L G.l).1 L,0) else([],(XI Q L G.l).2):=rfl;by_cases h0:(XI Q L G.l).2=0
 ·obtain⟨e1,e2,e3⟩:=XeQ h0;have hZ:=Xdn pO.out (Xbc e2) (Xbc e3) Q.length;have pA:=Qs Q L G.l Q.length;rw[if_pos h0] at hE;rw[hE];unfold XdU at KM;rw[h0] at KM;obtain⟨st,hD⟩:∃st,st=(XI Q L G.l).1:=⟨_,rfl⟩
  rw[<-hD] at KM e1 ⊢;rw[<-e1] at hZ pA;have qE:=Xa hZ;have qF:=Xa (Xbc e2);have pB:=Xa (pA.trans hT.out);clear h0 e1 e2 e3 hZ pA hD hE;go_enter Tryz.func41,Tryz.ntmps41;go_upto_region 1 with fail;rw[HW.out];go_upto_region 2 with (go_at_call 93;refine KM.out.mono ?_;rintro e w1 ⟨hH,TA,tn,tc,⟨sA,sc,sl⟩,⟨lA,lc,ll⟩,rfl,pS,pT,pU,pV⟩;simp only at pS pT;subst pS;subst pT)
  obtain⟨U,hU,qG,hV,pC⟩:=boxed w1 (.cells #[.slice TA tn tc,.slice sA sl.length sc,.slice lA ll.length lc] 188);have pW:=λy:Xb U.heap.size U=>And.intro (y.cells pC (by omega) 1 _ rfl) (y.cells pC (by omega) 2 _ rfl);have pD:=pW (Xb.refl _ _);simp only[Xb.refl] at pD;have HS:=Xa (pU.below hV).slAt;have HL:=Xa (pV.below hV).slAt;have qS:sl.length<=sc:=HS.out.1;have qT:sc<=9223372036854775807:=HS.out.2.1;have qU:ll.length<=lc:=HL.out.1;have qV:lc<=9223372036854775807:=HL.out.2.1;have pX:=Xa (hH.trans (hV.mono hH.size));have HU:=Xa hU;have qH:sl.length<=60:=by rw[pB.out];exact qD
  have qW:sl.length<=ll.length:=by rw[pB.out,hY.out];exact Nat.le_refl _
  have qX:=Xa (show ll.length=sl.length by rw[pB.out,hY.out]);clear hU qG hV pC hH pU pV;rw[<-HU.out];go_wp2_with fail;go_loopw [10,26] (λv10 v wr=>∃k:Nat,v=.int .i64 k/\k<=sl.length/\Hid (X7 3 1 Xj U v10 (((sl.zip ll).take k).map λx=>x.1+x.2) wr)/\Hid (k=0->v10=.slice none 0 0)) (λ_ v _=>sl.length-(intOf v).toNat)
  case atStart=>exact⟨0,rfl,Nat.zero_le _,Xa (X7.start _ _ _ brf),Xa (λ_=>rfl)⟩
  case round=>
   obtain⟨k,rfl,hk,hD,hz⟩:=hrel;by_cases qI:k<sl.length
   ·obtain⟨b,off,hA,hb,hG⟩:=HS.out.2.2 (show 0<sl.length by omega);obtain⟨b2,off2,pY,hK,hC⟩:=HL.out.2.2 (show 0<ll.length by omega);simp only at hA pY hG hC;subst hA;subst pY;obtain⟨x,hx⟩:∃x,sl[k]? =some x:=⟨_,lgE qI⟩
    obtain⟨y,hy⟩:∃x,ll[k]? =some x:=⟨_,lgE (show k<ll.length by omega)⟩
    have qJ:=(hD.out.bel.cell (p:=⟨b,off+(k*1+0),none⟩) hb).trans (hG k x hx 0 _ rfl);have qK:=(hD.out.bel.cell (p:=⟨b2,off2+(k*1+0),none⟩) hK).trans (hC k y hy 0 _ rfl);simp only[Nat.mul_one,Nat.add_zero] at qJ qK;have qL:=pW ⟨wr,hD.out.bel⟩;simp only at qL;have pE:((sl.zip ll).take (k+1)).map (λx=>x.1+x.2)=((sl.zip ll).take k).map (λx=>x.1+x.2)++[x+y]:=by rw[Xef hx hy,List.map_append];rfl
    have hlen:(((sl.zip ll).take k).map λx=>x.1+x.2).length=k:=by simp;omega
    obtain⟨M,hM⟩:∃M,M=((sl.zip ll).take k).map λx=>x.1+x.2:=⟨_,rfl⟩
    rw[<-hM] at hD pE hlen;have qM:=qE.out x (lmg hx);have qY:=qF.out y (lmg hy);have qN:(4294967296*((Q.length:Int)+1))<=300000000000:=by rw[hT.out];omega
    have qZ:0<=x/\x<=300000000000:=by omega
    have rB:(0:Int)<=(k:Int)/\(k:Int)<(sl.length:Int)/\(k:Int)<(ll.length:Int):=by omega
    have qO:=Xa pE;have hP:=Xa hlen;have qP:=hD.out.bel.size;have pZ:=Xa hD.out;clear hG hC hx hy pE hlen hM hD hz qM qN;go_wp2_with (at_builtin;refine Hid.out ?_)
    refine Lib.hid ?_;refine wpList_append_own _ rfl _ _ 30 rfl U.heap.size 3 i0 _ 1 8 Tryz.underlying30 HI.out.1 HI.out.2.1 HI.out.2.2.1 HI.out.2.2.2 rfl (by decide) _ _ _ rfl (pZ.out.own.alloc _) ⟨wr.heap.size,0,none⟩ 1 1 (Xj (x+y)) rfl rfl (World.news_of_block (heap_alloc_new wr _)) (λu hu=>by simp[Xj] at hu;subst hu;rfl) (by rw[hP.out];unfold maxLen;omega) (by rw[hP.out];omega) (by simp;omega) ?_;intro v' w4 hI hR _;have HN:=Xa (pZ.out.append (ls:=[x+y]) (brf.alloc nr _) hI hR);clear hI hR;go_wp2_with fail;exact⟨⟨k+1,by go_num,by omega,Xa (by rw[qO.out];exact HN.out),Xa (λh0=>absurd h0 (by omega))⟩,by simp[intOf];omega⟩
   ·have qA:(sl.zip ll).take k=sl.zip ll:=List.take_of_length_le (by rw[List.length_zip];omega);rw[qA] at hD
    obtain⟨⟨rA,rc,rl⟩,rfl,pF,hJ⟩:=hD.out.rowIn (λh1=>hz.out (by
     have h2:=congrArg List.length h1;rw[List.length_map,List.length_zip,List.length_nil] at h2
     omega))
    simp only at pF hJ;have qQ:=Xa pF;have pG:=Xa hJ;have qR:=Xa (HB.out.trans ((pX.out.trans (hD.out.bel.mono pX.out.size)).mono hO));clear hD hz pF hJ qA;go_wp2_with fail;go_ret2;exact⟨qR.out,⟨rA,rc,rl⟩,rfl,qQ.out,pG.out⟩
 ·rw[if_neg h0] at hE;rw[hE];obtain⟨n,hn⟩:∃n,n=(XI Q L G.l).2:=⟨_,rfl⟩
  have rC:(n==0)=false:=by rw[hn];exact beq_false_of_ne h0
  have rD:(n !=0)=true:=by rw[hn];simpa using h0
  have rE:¬n=0:=by rw[hn];exact h0
  unfold XdU at KM;rw[<-hn] at KM ⊢;clear hn h0 hE;go_enter Tryz.func41,Tryz.ntmps41;go_upto_region 1 with fail;rw[HW.out];go_wp2_with (go_at_call 93;refine KM.out.mono ?_;rintro e w1 ⟨hH,TA,tn,tc,⟨sA,sc,sl⟩,⟨lA,lc,ll⟩,rfl,-,-,-,-⟩)
  go_ret2;exact⟨HB.out.trans ((hH.alloc hH.size _).mono hO),⟨none,0,[]⟩,rfl,rfl,Or.inl ⟨rfl,rfl,rfl⟩⟩
theorem XpI(h:Xf)(pJ:h.ok)(s:Xq)(sok:s.ok)(pK:∀q∈s.aC.l,q.aD.l.length<=1000000)(hv:Y5 h.pl s.pl=true)(G:Sl Int)(w:World)(pL:Xf.at_ w w.heap.size h)(sat:Xq.at_ w w.heap.size s)(Gat:XA w w.heap.size 1 Xj G):
 Calls Tryz.prog 40 #[.agg #[.string h.name,.int .i64 h.aH,.slice h.aA.A h.aA.l.length h.aA.cap,.slice h.aB.A h.aB.l.length h.aB.cap],.agg #[.slice s.aC.A s.aC.l.length s.aC.cap,.slice s.apart.A s.apart.l.length s.apart.cap],.slice G.A G.l.length G.cap] w (Xuk (Xsk s.pl.aC (Jg h.pl.aA s.pl.aC s.aC.l.length) G.l) w):=by
 have hZ:=Jd hv;obtain⟨W1,pM,pN,hH,pO⟩:=bxhs w h;obtain⟨W,pP,qH,hO,hW⟩:=bxsh W1 s;have hb:Below w.heap.size w W:=hH.trans (hO.mono (by omega));have hP:=(hO.block _ (by omega)).trans pO;rw[pN] at hW;have qI:=And.intro (Xf.boxed hP (by omega) (Xb.refl W.heap.size W)) (Xq.boxed hW (by omega) (Xb.refl W.heap.size W));simp only[Xb.refl] at qI
 have hK:w.heap.size<=W.heap.size:=by omega
 have KM:=Xa (Xnl h pJ s sok pK hv G W (pL.to hb hK) (sat.to hb hK) (Gat.to hb hK));have HW:=Xa (show(w.alloc (.cells #[.string h.name,.int .i64 h.aH,.slice h.aA.A h.aA.l.length h.aA.cap,.slice h.aB.A h.aB.l.length h.aB.cap] 25)).alloc (.cells #[.slice s.aC.A s.aC.l.length s.aC.cap,.slice s.apart.A s.apart.l.length s.apart.cap] 29)=W by rw[<-pM,<-pP]);have HB:=Xa hb
 have pQ:=Xa (show ∀q∈s.pl.aC,0<=q.aL/\q.aL<=2147483648 from λq hq=>by
  obtain⟨i,hi⟩:=List.getElem?_of_mem hq
  exact Xz.1 ((Xa7 hZ).name i q hi).2.2)
 have hR:=Xa (show s.pl.aC.length=s.aC.l.length by simp[Xq.pl]);have qJ:=Xa (J2 h.pl.aA s.pl.aC s.aC.l.length (by rw[hR.out];omega));have qV:s.aC.l.length<=60:=by simpa[Xq.pl] using hZ.few
 obtain⟨i0,hi,pR,pS,pT⟩:=info_parts Xvk;have hJ:=Xa (sat.to hb hK).aC;have pU:=Xa (show s.pl.aC=s.aC.l.map Xn.pl from rfl);have qK:=λy:Xb W.heap.size W=>Xq.boxed hW (by omega) y;have HI:=Xa (And.intro hi (And.intro pR (And.intro pS pT)));clear pM pP pN qH hH hO pO hW hP hb pL sat Gat pJ sok pK hv hZ hi pR pS pT;obtain⟨L,hL⟩:∃L,L=Jg h.pl.aA s.pl.aC s.aC.l.length:=⟨_,rfl⟩
 obtain⟨Q,hQ⟩:∃Q,Q=s.pl.aC:=⟨_,rfl⟩
 rw[<-hL] at KM qJ;rw[<-hQ] at KM hR pQ pU;rw[<-hL,<-hQ];clear hL hQ;have hE:Xsk Q L G.l=if (XI Q L G.l).2=0 then(XhO Q (XI Q L G.l).1,0) else([],(XI Q L G.l).2):=rfl;by_cases h0:(XI Q L G.l).2=0
 ·obtain⟨e1,e2,e3⟩:=XeQ h0;have pB:=Xdn pQ.out (Xbc e2) (Xbc e3) Q.length;have pC:=Qs Q L G.l Q.length;rw[if_pos h0] at hE;rw[hE];unfold XdU at KM;rw[h0] at KM;obtain⟨st,hC⟩:∃st,st=(XI Q L G.l).1:=⟨_,rfl⟩
  rw[<-hC] at KM e1 ⊢;rw[<-e1] at pB pC;have qW:=Xa pB;have qX:=Xa (Xbc e2);have qL:=Xa (pC.trans hR.out);clear h0 e1 e2 e3 pB pC hC hE;go_enter Tryz.func40,Tryz.ntmps40;go_upto_region 1 with fail;rw[HW.out];go_upto_region 2 with (go_at_call 93;refine KM.out.mono ?_;rintro e w1 ⟨hH,TA,tn,tc,⟨sA,sc,sl⟩,⟨lA,lc,ll⟩,rfl,pV,pW,pX,qM⟩;simp only at pV pW;subst pV;subst pW)
  obtain⟨U,hU,qN,pD,pE⟩:=boxed w1 (.cells #[.slice TA tn tc,.slice sA sl.length sc,.slice lA ll.length lc] 188);have pY:=λy:Xb U.heap.size U=>And.intro (y.cells pE (by omega) 1 _ rfl) (y.cells pE (by omega) 2 _ rfl);have pF:Below W.heap.size W U:=hH.trans (pD.mono hH.size);have pG:=And.intro (pY (Xb.refl _ _)) (qK ⟨U,pF⟩);simp only[Xb.refl] at pG;have HS:=Xa (pX.below pD).slAt;have qY:sl.length<=sc:=HS.out.1;have qZ:sc<=9223372036854775807:=HS.out.2.1;have pZ:=Xa pF;have HU:=Xa hU;have rA:w1.heap.size<U.heap.size:=by omega
  clear hU qN pD pE hH pX qM pF;rw[<-HU.out];obtain⟨⟨qA,qcap,ql⟩,⟨pA,pcap,pl⟩⟩:=s;simp only at*;have rB:ql.length<=qcap:=hJ.out.1;have rC:qcap<=9223372036854775807:=hJ.out.2.1;have rD:ql.length<=sl.length:=by rw[qL.out];exact Nat.le_refl _
  go_wp2_with fail;go_loopw [10,26] (λv10 v wr=>∃k:Nat,v=.int .i64 k/\k<=ql.length/\Hid (X7 118 2 Xaw.cells U v10 (((Q.zip sl).take k).map λx=>⟨x.1.name,x.2⟩) wr)/\Hid (k=0->v10=.slice none 0 0)) (λ_ v _=>ql.length-(intOf v).toNat)
  case atStart=>exact⟨0,rfl,Nat.zero_le _,Xa (X7.start _ _ _ brf),Xa (λ_=>rfl)⟩
  case round=>
   obtain⟨k,rfl,hk,hC,hz⟩:=hrel;have hX:Below W.heap.size W wr:=pZ.out.trans (hC.out.bel.mono pZ.out.size);by_cases qO:k<ql.length
   ·obtain⟨b,off,hA,hb,hD⟩:=HS.out.2.2 (show 0<sl.length by omega);obtain⟨b2,off2,qB,hO,hG⟩:=hJ.out.2.2 (show 0<ql.length by omega);simp only at hA qB hD;subst hA;subst qB;obtain⟨x,hx⟩:∃x,sl[k]? =some x:=⟨_,lgE (show k<sl.length by omega)⟩
    obtain⟨q,hq⟩:∃q,ql[k]? =some q:=⟨_,lgE qO⟩
    have qC:Q[k]? =some q.pl:=by rw[pU.out,List.getElem?_map,hq];rfl
    have he:=Xn.elem hq hO hG ⟨wr,hX⟩;simp only at he;obtain⟨Y,hY,qP,pH,qD⟩:=bxcu wr q;have hN:Below U.heap.size U Y:=hC.out.bel.trans (pH.mono hC.out.bel.size);have qQ:=λy:Xb Y.heap.size Y=>And.intro (Xn.boxed qD (by omega) y) (And.intro (pY ⟨y.val,hN.trans (y.below.mono hN.size)⟩) ((Xb.cell (x:=⟨y.val,hN.trans (y.below.mono hN.size)⟩) (hD k x hx 0 _ rfl) hb)));simp only[Nat.mul_one,Nat.add_zero] at qQ
    have pI:((Q.zip sl).take (k+1)).map (λx=>(⟨x.1.name,x.2⟩:Xaw))=((Q.zip sl).take k).map (λx=>(⟨x.1.name,x.2⟩:Xaw))++[⟨q.name,x⟩]:=by rw[Xef qC hx,List.map_append];rfl
    have hlen:(((Q.zip sl).take k).map λx=>(⟨x.1.name,x.2⟩:Xaw)).length=k:=by simp;have:=hR.out;omega
    obtain⟨M,hM⟩:∃M,M=((Q.zip sl).take k).map λx=>(⟨x.1.name,x.2⟩:Xaw):=⟨_,rfl⟩
    rw[<-hM] at hC pI hlen;have rE:(0:Int)<=(k:Int)/\(k:Int)<(sl.length:Int)/\(k:Int)<(ql.length:Int):=by omega
    have qR:=Xa pI;have hT:=Xa hlen;have qE:=Xa (hC.out.more pH);have qS:=hN.size;have HY:=Xa hY;clear hD hG hx hq qC pI hlen hM hC hz pH qD qP hN hY hX;go_upto_region 8 with fail;rw[<-HY.out];refine Xcn Y.heap.size 9 (Operand.tmp 10) (by kernel_rfl) (by kernel_rfl) rfl rfl (λ_ _ _ _ h=>h) ?_;simp only[List.take_succ_cons,List.take_zero,List.drop_succ_cons,List.drop_zero];go_simp
    repeat (go_big_quiet_step (fail))
    refine wpQuiet_nil ?_;intro z;have hsz:=z.size;go_wp2_with (at_builtin;refine Hid.out ?_)
    refine Lib.hid ?_;refine wpList_append_own _ rfl _ _ 112 rfl U.heap.size 118 i0 _ 2 24 Tryz.underlying112 HI.out.1 HI.out.2.1 HI.out.2.2.1 HI.out.2.2.2 rfl (by decide) _ _ _ rfl ((qE.out.more z.below).own.alloc _) ⟨z.val.heap.size,0,none⟩ 1 1 (Xaw.cells ⟨q.name,x⟩) rfl rfl (World.news_of_block (heap_alloc_new z.val _)) (λu hu=>by simp[Xaw.cells] at hu;rcases hu with rfl|rfl<;>rfl) (by rw[hT.out];unfold maxLen;omega) (by rw[hT.out];omega) (by simp;omega) ?_;intro v' w4 hI hV _;have HN:=Xa ((qE.out.more z.below).append (ls:=[⟨q.name,x⟩]) (brf.alloc nr _) hI hV)
    clear hI hV;go_wp2_with fail;exact⟨⟨k+1,by go_num,by omega,Xa (by rw[qR.out];exact HN.out),Xa (λh0=>absurd h0 (by omega))⟩,by simp[intOf];omega⟩
   ·have qF:(Q.zip sl).take k=Q.zip sl:=List.take_of_length_le (by rw[List.length_zip];have:=hR.out;omega);rw[qF] at hC;obtain⟨A9,c9,rfl,qG⟩:=hC.out.slAt Xmv;have qT:=Xa (HB.out.trans (hX.mono hK));have qU:=Xa qG;clear hC hz qF qG hX;go_wp2_with fail;go_ret2;exact⟨qT.out,⟨A9,c9,_⟩,rfl,rfl,qU.out⟩
 ·rw[if_neg h0] at hE;rw[hE];obtain⟨n,hn⟩:∃n,n=(XI Q L G.l).2:=⟨_,rfl⟩
  have rF:(n==0)=false:=by rw[hn];exact beq_false_of_ne h0
  have rG:(n !=0)=true:=by rw[hn];simpa using h0
  have rH:¬n=0:=by rw[hn];exact h0
  unfold XdU at KM;rw[<-hn] at KM ⊢;clear hn h0 hE;go_enter Tryz.func40,Tryz.ntmps40;go_upto_region 1 with fail;rw[HW.out];go_wp2_with (go_at_call 93;refine KM.out.mono ?_;rintro e w1 ⟨hH,TA,tn,tc,⟨sA,sc,sl⟩,⟨lA,lc,ll⟩,rfl,-,-,-,-⟩)
  go_ret2;exact⟨HB.out.trans ((hH.alloc hH.size _).mono hK),⟨none,0,[]⟩,rfl,rfl,Nat.zero_le _,Nat.zero_le _,λh=>absurd h (by simp)⟩
end Go.Proofs.YtdcahhbipeaggaaGreatDoor
namespace Go.Proofs.YtdcahhbipeaggaaGreatDoor
open Go.RowKit
def Ql(l:List Xaw)(k:Nat):Int:=(l.map (·.at_)).getD k 0
theorem Xn3{l:List Xaw}{k:Nat}{x:Xaw}(h:l[k]? =some x):Ql l k=x.at_:=by simp[Ql,h]
structure XpT(w:World)(hb b off cap:Nat)(l:List Xaw):Prop where
 row:w.cell? ⟨hb,0,none⟩=some (.slice (some ⟨b,off,none⟩) l.length cap)
 cells:∀k,k<l.length->w.cell? ⟨b,off+k*2+1,none⟩=some (.int .i64 (Ql l k))
theorem Xj0:∀args w,(callFunc 43 args).run Tryz.prog w=.ok (.enter 43 args) w:=XZ Tryz.func43 (by kernel_rfl) rfl
theorem Xow{l:List Xaw}(hz:∀k,0<=Ql l k/\Ql l k<=300000000000){hb b off cap i k:Nat}(hi:i<l.length)(hk:k<l.length)(w:World)(h:XpT w hb b off cap l):
 Calls Tryz.prog 43 #[.int .i64 (i:Int),.int .i64 (k:Int),.pointer (some ⟨hb,0,none⟩)] w λe w'=>e=.returned (.int .i64 (Ql l i-Ql l k))/\∃q,w'=w.drewN q:=by
 obtain⟨a0,a1⟩:=hz i;obtain⟨b0,b1⟩:=hz k;have c0:=h.row;have c1:=h.cells i hi;have c2:=h.cells k hk;have i0:(0:Int)<=(i:Int):=by omega
 have i1:(i:Int)<(l.length:Int):=by omega
 have k0:(0:Int)<=(k:Int):=by omega
 have k1:(k:Int)<(l.length:Int):=by omega
 have hC:IntKind.i64.wrap (Ql l i-Ql l k)=Ql l i-Ql l k:=by rw[IntKind.wrap_i64];omega
 clear h hz;generalize Ql l i=x at*;generalize Ql l k=y at*;go_enter Tryz.func43,Tryz.ntmps43;go_wp2_with fail;go_quiet (fail);go_wp2;go_ret;exact⟨rfl,_,rfl⟩
def Zg(l:List UInt8):ByteArray:=⟨l.toArray⟩
def Xbk(l:List Xaw)(en:List Int)(i:Nat):List ZD:=
 match l[i]?,en[i]? with
 |some x,some y=>[.str (Zg [99,117,101]),.str x.cue,.str (Zg [102,114,111,109]),.num x.at_,.str (Zg [116,111]),.num y]
 |_,_=>[]
def JI(l:List Xaw)(en:List Int)(os:List Nat):List UInt8:=(os.map λi=>Xaz (Xbk l en i)).flatten
theorem Xj6{l:List Xaw}{en:List Int}{os:List Nat}{k i:Nat}(h:os[k]? =some i):JI l en (os.take (k+1))=JI l en (os.take k)++Xaz (Xbk l en i):=by
 unfold JI;rw[List.take_add_one,h,Option.toList_some,List.map_append,List.flatten_append];simp
theorem Xhq{l:List Xaw}{en:List Int}(h1:∀x∈l,x.cue.size<=1000/\0<=x.at_/\x.at_<=300000000000)(h2:∀x∈en,0<=x/\x<=400000000000)(i:Nat):(∀y∈Xbk l en i,y.ok)/\(Xbk l en i).length<=6:=by
 unfold Xbk;split
 ·rename_i x y hx hy
  have a:=h1 x (lmg hx);have b:=h2 y (lmg hy);refine⟨λz hz=> ?_,Nat.le_refl _⟩;simp only[List.mem_cons,List.not_mem_nil,or_false] at hz;rcases hz with rfl|rfl|rfl|rfl|rfl|rfl
  ·show(3:Nat)<=1000;decide
  ·exact a.1
  ·show(4:Nat)<=1000;decide
  ·show I64 x.at_;unfold I64;omega
  ·show(2:Nat)<=1000;decide
  ·show I64 y;unfold I64;omega
 ·exact⟨λz hz=>by simp at hz,Nat.zero_le _⟩
theorem Xgc{l:List Xaw}{en:List Int}(h1:∀x∈l,x.cue.size<=1000/\0<=x.at_/\x.at_<=300000000000)(h2:∀x∈en,0<=x/\x<=400000000000):∀os:List Nat,(JI l en os).length<=10000*os.length
 |[]=>Nat.le_refl _
 |i::os=>by
  have ih:=Xgc h1 h2 os;obtain⟨a,b⟩:=Xhq h1 h2 i;have c:=Xd7 a;unfold JI at ih ⊢;rw[List.map_cons,List.flatten_cons,List.length_append,List.length_cons];omega
def Jc(Q:List XW)(L G:List Int):List UInt8×Int:=
 if (XI Q L G).2=0 then(JI (XhO Q (XI Q L G).1) (XeE (XI Q L G).1 L) (ZJ (Ql (XhO Q (XI Q L G).1)) Q.length),0) else([],(XI Q L G).2)
theorem Xa4{s:ByteArray}(h:XF s=true):s.size<=20:=by
 rcases Nat.lt_or_ge 20 s.size with h1|h1
 ·rw[Xhe (by omega)] at h;cases h
 ·exact h1
theorem Xtk(m:Nat):((List.range (m+1)).map XiI).flatMap Xj=(Ze (m+1)).map XdE:=by
 have h:∀l:List Int,l.flatMap Xj=l.map (Value.int .i64):=λl=>by
  induction l with
  |nil=>rfl
  |cons a l ih=>rw[List.flatMap_cons,ih];rfl
 rw[h,<-XeY,List.map_map,List.map_map];rfl
theorem Xfu(h:Xf)(pV:h.ok)(s:Xq)(sok:s.ok)(pW:∀q∈s.aC.l,q.aD.l.length<=1000000)(hn:s.aC.l.length<=20)(hv:Y5 h.pl s.pl=true)(G:Sl Int)(w:World)(ht:J9 w)(qL:Xf.at_ w w.heap.size h)(sat:Xq.at_ w w.heap.size s)(Gat:XA w w.heap.size 1 Xj G):
 Calls Tryz.prog 13 #[.agg #[.string h.name,.int .i64 h.aH,.slice h.aA.A h.aA.l.length h.aA.cap,.slice h.aB.A h.aB.l.length h.aB.cap],.agg #[.slice s.aC.A s.aC.l.length s.aC.cap,.slice s.apart.A s.apart.l.length s.apart.cap],.slice G.A G.l.length G.cap] w (Xc w (.tuple #[.string ⟨(Jc s.pl.aC (Jg h.pl.aA s.pl.aC s.aC.l.length) G.l).1.toArray⟩,.int .i64 (Jc s.pl.aC (Jg h.pl.aA s.pl.aC s.aC.l.length) G.l).2])):=by
 have pX:=Jd hv;obtain⟨W1,qM,qN,hM,qO⟩:=bxhs w h;obtain⟨W,qP,pY,hP,pZ⟩:=bxsh W1 s;have hb:Below w.heap.size w W:=hM.trans (hP.mono (by omega));have pG:=(hP.block _ (by omega)).trans qO;rw[qN] at pZ;have qQ:=λy:Xb W.heap.size W=>And.intro (Xf.boxed pG (by omega) y) (Xq.boxed pZ (by omega) y);have rT:=qQ (Xb.refl W.heap.size W)
 simp only[Xb.refl] at rT;have pH:w.heap.size<=W.heap.size:=by omega
 have hY:=qL.to hb pH;have satW:=sat.to hb pH;have GatW:=Gat.to hb pH;have KB:=Xa (XpI h pV s sok pW hv G W hY satW GatW);have KE:=Xa (λ(y:World) (hy:Below W.heap.size W y)=>XtN h pV s sok pW hv G y (hY.to hy hy.size) (satW.to hy hy.size) (GatW.to hy hy.size));have HW:=Xa (show(w.alloc (.cells #[.string h.name,.int .i64 h.aH,.slice h.aA.A h.aA.l.length h.aA.cap,.slice h.aB.A h.aB.l.length h.aB.cap] 25)).alloc (.cells #[.slice s.aC.A s.aC.l.length s.aC.cap,.slice s.apart.A s.apart.l.length s.apart.cap] 29)=W by rw[<-qM,<-qP]);have HB:=Xa hb
 have HT:=Xa (ht.below hb)
 have qR:=Xa (show ∀q∈s.pl.aC,0<=q.aL/\q.aL<=2147483648 from λq hq=>by
  obtain⟨i,hi⟩:=List.getElem?_of_mem hq
  exact Xz.1 ((Xa7 pX).name i q hi).2.2)
 have qS:=Xa (show ∀q∈s.pl.aC,XF q.name=true from λq hq=>by
  obtain⟨i,hi⟩:=List.getElem?_of_mem hq
  exact((Xa7 pX).name i q hi).1)
 have hW:=Xa (show s.pl.aC.length=s.aC.l.length by simp[Xq.pl]);have qT:=Xa (J2 h.pl.aA s.pl.aC s.aC.l.length (by rw[hW.out];omega));obtain⟨i0,hi,qU,qV,qW⟩:=ZW;have HI:=Xa (And.intro hi (And.intro qU (And.intro qV qW)));clear qM qP qN pY hM hP qO pZ pG hb qL sat Gat hY satW GatW pV sok pW hv pX hi qU qV qW ht;obtain⟨L,hL⟩:∃L,L=Jg h.pl.aA s.pl.aC s.aC.l.length:=⟨_,rfl⟩
 obtain⟨Q,hQ⟩:∃Q,Q=s.pl.aC:=⟨_,rfl⟩
 rw[<-hL] at KB KE qT;rw[<-hQ] at KB KE hW qR qS;rw[<-hL,<-hQ];clear hL hQ;by_cases h0:(XI Q L G.l).2=0
 ·obtain⟨e1,e2,e3⟩:=XeQ h0;have hJ:=Xdn qR.out (Xbc e2) (Xbc e3) Q.length;have pI:=Qs Q L G.l Q.length;rw[<-e1] at hJ pI;have hR:Jc Q L G.l=(JI (XhO Q (XI Q L G.l).1) (XeE (XI Q L G.l).1 L) (ZJ (Ql (XhO Q (XI Q L G.l).1)) Q.length),0):=by unfold Jc;rw[if_pos h0]
  have qX:Xsk Q L G.l=(XhO Q (XI Q L G.l).1,0):=by unfold Xsk;rw[if_pos h0]
  have qY:Xqp Q L G.l=(XeE (XI Q L G.l).1 L,0):=by unfold Xqp;rw[if_pos h0]
  rw[qX] at KB;rw[qY] at KE;rw[hR];obtain⟨st,hE⟩:∃st,st=(XI Q L G.l).1:=⟨_,rfl⟩
  rw[<-hE] at KB KE hJ pI ⊢;have hZ:(XhO Q st).length=s.aC.l.length:=by unfold XhO;rw[List.length_map,List.length_zip,pI,hW.out];omega
  have pA:(XeE st L).length=s.aC.l.length:=by unfold XeE;rw[List.length_map,List.length_zip,pI,hW.out,qT.out];omega
  have pO:∀x∈XhO Q st,x.cue.size<=1000/\0<=x.at_/\x.at_<=300000000000:=λx hx=>by
   unfold XhO at hx;obtain⟨y,hy,rfl⟩:=List.mem_map.1 hx;have h1:=List.of_mem_zip hy;have h2:=hJ y.2 h1.2;have h3:(4294967296*((Q.length:Int)+1))<=300000000000:=by rw[hW.out];omega
   exact⟨by have:=Xa4 (qS.out y.1 h1.1);show y.1.name.size<=1000;omega,h2.1,Int.le_trans h2.2 h3⟩
  have qA:∀x∈XeE st L,0<=x/\x<=400000000000:=λx hx=>by
   unfold XeE at hx;obtain⟨y,hy,rfl⟩:=List.mem_map.1 hx;have h1:=List.of_mem_zip hy;have h2:=hJ y.1 h1.1;have h3:(4294967296*((Q.length:Int)+1))<=300000000000:=by rw[hW.out];omega
   have h4:=Xbc e2 y.2 h1.2;show 0<=y.1+y.2/\y.1+y.2<=_;omega
  obtain⟨BL,qZ⟩:∃BL,BL=XhO Q st:=⟨_,rfl⟩
  obtain⟨EL,rB⟩:∃BL,BL=XeE st L:=⟨_,rfl⟩
  rw[<-qZ] at KB hZ pO ⊢;rw[<-rB] at KE pA qA ⊢;obtain⟨n,pP⟩:∃n,n=Q.length:=⟨_,rfl⟩
  rw[<-pP];rw[<-hW.out,<-pP] at hZ pA;have rU:n<=20:=by rw[pP,hW.out];exact hn
  have hz:∀k,0<=Ql BL k/\Ql BL k<=300000000000:=λk=>by
   cases e:BL[k]? with
   |none=>simp[Ql,e]
   |some x=>rw[Xn3 e];exact(pO x (lmg e)).2
  have HZ:=Xa hz;have rC:=Xa pO;have rD:=Xa qA;have pQ:=Xa hZ;have rV:=Xa pA;clear h0 e1 e2 e3 hJ pI hR qX qY hE qZ rB pP hz pO qA hZ pA;go_enter Tryz.func13,Tryz.ntmps13;go_upto_region 1 with fail;rw[HW.out];go_upto_region 2 with (go_at_call 40;refine KB.out.mono ?_;rintro e w1 ⟨hM,⟨bA,bc,bl⟩,rfl,hZ,pJ⟩;simp only at hZ pJ;subst hZ)
  obtain⟨U,hU,rW,qB,rE⟩:=boxed w1 (.cells #[.slice bA bl.length bc] 112);have pR:=λy:Xb U.heap.size U=>y.cells rE (by omega) 0 _ rfl;have pS:Below W.heap.size W U:=hM.trans (qB.mono hM.size);have rF:=And.intro (pR (Xb.refl _ _)) (qQ ⟨U,pS⟩);simp only[Xb.refl] at rF;have rG:=Xa (pJ.to qB (show w1.heap.size<=U.heap.size by omega));have rX:=Xa (KE.out U pS);have HU:=Xa hU;have pT:=Xa pS;have rY:w1.heap.size<U.heap.size:=by omega
  have sR:bl.length<=bc:=pJ.1;have sS:bc<=9223372036854775807:=pJ.2.1;clear hU rW qB rE hM pJ KE pS;rw[<-HU.out];go_upto_region 5 with (go_at_call 41;refine rX.out.mono ?_;rintro e w2 ⟨hP,⟨eA,ec,el⟩,rfl,pA,pK⟩;simp only at pA pK;subst pA)
  have rH:=pR ⟨w2,hP⟩;simp only at rH;have rZ:=Xa pK;have pU:=Xa hP;have sT:el.length<=ec:=pK.slAt.1;have sU:ec<=9223372036854775807:=pK.slAt.2.1;clear pK hP rF;go_wp2_with fail;go_loopw [11,38] (λv11 v wr=>∃k:Nat,v=.int .i64 k/\k<=bl.length/\Hid (X7 3 1 Xj w2 v11 ((List.range k).map XiI) wr)/\Hid (k=0->v11=.slice none 0 0)) (λ_ v _=>bl.length-(intOf v).toNat)
  case atStart=>exact⟨0,rfl,Nat.zero_le _,Xa (X7.start _ _ _ brf),Xa (λ_=>rfl)⟩
  case round=>
   obtain⟨k,rfl,hk,hE,hz⟩:=hrel;by_cases rI:k<bl.length
   ·have hI:=Xa (Xdr k);have rJ:=Xa hE.out;have sA:=hE.out.bel.size;have sV:k<=20:=by have:=pQ.out;omega
    clear hE hz;go_wp2_with (at_builtin;refine Hid.out ?_)
    refine Lib.hid ?_;refine wpList_append_own _ rfl _ _ 30 rfl w2.heap.size 3 i0 _ 1 8 Tryz.underlying30 HI.out.1 HI.out.2.1 HI.out.2.2.1 HI.out.2.2.2 rfl (by decide) _ _ _ rfl (rJ.out.own.alloc _) ⟨wr.heap.size,0,none⟩ 1 1 (Xj k) rfl rfl (World.news_of_block (heap_alloc_new wr _)) (λu hu=>by simp[Xj] at hu;subst hu;rfl) (by rw[hI.out];unfold maxLen;omega) (by rw[hI.out];omega) (by simp;omega) ?_;intro v' w4 hX pL _;have HN:=Xa (rJ.out.append (ls:=[(k:Int)]) (brf.alloc nr _) hX pL);clear hX pL;go_wp2_with fail;exact⟨⟨k+1,by go_num,by omega,Xa (by rw[XkI];exact HN.out),Xa (λh0=>absurd h0 (by omega))⟩,by simp[intOf];omega⟩
   ·have rK:k=n:=by have:=pQ.out;omega
    have sB:=Xa pQ.out;have rL:bl.length=k:=by have:=pQ.out;omega
    have pY:=hE.out.bel.size;have pB:=pU.out.size;obtain⟨A,c,e11,rM,rN,KS⟩:∃A c,u11=.slice A k c/\k<=c/\c<=maxLen/\Calls Tryz.prog 42 #[.slice A k c,.func (.func 43) #[] #[.pointer (some ⟨w1.heap.size,0,none⟩)]] wr (Xbr (λw'=>Below w2.heap.size w2 w'/\(0<k->∃g,A=some ⟨g,0,none⟩/\XbS w' g (ZJ (Ql bl) k)))):=by
     rcases Nat.eq_zero_or_pos k with h0|h0
     ·subst h0;refine⟨none,0,hz.out rfl,Nat.le_refl _,Nat.zero_le _,?_⟩;exact Xcs 0 (by omega) _ _ wr _ ⟨_,_,rfl⟩ ((Xny none 0 wr _).mono λe w' ⟨he,sC⟩=>⟨he,hE.out.bel.trans (sC.mono pY),λh=>absurd h (by omega)⟩)
     ·obtain⟨m,hm⟩:∃m,k=m+1:=⟨k-1,by omega⟩
      subst hm;have pC:=hE.out.own;rw[Xdr,Xtk] at pC;have sD:u11≠ .slice none 0 0:=λe=>by
       have:=hE.out.len;rw[e,Xdr] at this;simp[Xfr] at this
      have qC:=pC.2;obtain⟨g,gcap,rfl,sE,sW,rM,rN,_,hH⟩:=Lib.holds_of_ownsRow pC sD;obtain⟨cur,hg⟩:∃cur,wr.heap[g]? =some (.cells cur 3 (0,0)):=by
       rcases qC with ⟨h1,_⟩|⟨g',c',cur,h1,_,h2,_⟩
       ·cases h1
       ·injection h1 with h1;injection h1 with h1;injection h1 with h1;subst h1;exact⟨cur,h2⟩
      obtain⟨b,off,hA,hb,hC⟩:=rG.out.2.2 (show 0<bl.length by omega);simp only at hA hC;subst hA;have hK:Below U.heap.size U wr:=pU.out.trans (hE.out.bel.mono pB)
      have hD:XpT wr w1.heap.size b off bc bl:=⟨pR ⟨wr,hK⟩,λj hj=>by
       have hx:bl[j]? =some bl[j]:=lgE hj;rw[Xn3 hx];have:=(hK.cell (p:=⟨b,off+(j*2+1),none⟩) hb).trans (hC j _ hx 1 _ rfl)
       rwa [<-Nat.add_assoc] at this⟩
      refine⟨_,gcap,rfl,rM,rN,?_⟩
      refine(Xoq m (by omega) (Ql bl) 43 #[.pointer (some ⟨w1.heap.size,0,none⟩)] Xj0 (λw'=>XpT w' w1.heap.size b off bc bl) g gcap wr (λw' rO=>⟨(rO ⟨w1.heap.size,0,none⟩ (by show w1.heap.size≠g;omega) (by show w1.heap.size<wr.heap.size;omega)).trans hD.row,λj hj=>(rO ⟨b,off+j*2+1,none⟩ (by show b≠g;omega) (by show b<wr.heap.size;omega)).trans (hD.cells j hj)⟩)
       (λw' i j hR hi hj=>Xow HZ.out (by omega) (by omega) w' hR) hg hH).mono ?_
      rintro e w' ⟨he,sF,hN⟩;exact⟨he,hE.out.bel.trans (sF.mono sE),λ_=>⟨g,rfl,hN⟩⟩
    subst e11;have sG:=Xa KS;have qD:=Xa rL;have sH:=Xa rK;have hI:=Xa (show(ZJ (Ql bl) k).length=k from Xad _ _);have sJ:k<=20:=by omega
    have sX:=Xa (pT.out.trans ((pU.out.trans (hE.out.bel.mono pB)).mono pT.out.size));have qE:=Xa (show el.length=k by have:=rV.out;omega);clear hE hz rK rL sB KS;go_upto_region 15 with (go_at_call 42;refine sG.out.mono ?_;rintro e w5 ⟨rfl,qF,hN⟩)
    obtain⟨V,hV⟩:∃V,V=w5.alloc (.cells #[.pointer none,.slice none 0 0,.int .i64 0] 102):=⟨_,rfl⟩
    have pM:QX w5 w5.heap.size [] V:=by rw[hV];exact BSt.fresh 102 [.int .i64 0] w5 w5 brf
    have qG:Below U.heap.size U w5:=pU.out.trans (qF.mono pB);have qH:Below W.heap.size W w5:=pT.out.trans (qG.mono pT.out.size);have sK:=Xa (HT.out.below qH);have qI:=Xa pM;have rP:=Xa (HB.out.trans (qH.mono pH));have pN:=Xa qF;have rQ:=Xa qG;have HN:=Xa hN;rw[<-hV];clear hV pM qF qG qH hN rH;obtain⟨O,hO⟩:∃O,O=ZJ (Ql bl) k:=⟨_,rfl⟩
    have qJ:=Xa (λ(i:Nat) (hi:i∈O)=>XkE (Ql bl) (hO▸hi));rw[<-hO] at HN hI;have HO:=Xa hO;clear hO;go_wp2_with fail;go_loopw [51] (λv wr=>∃j:Nat,v=.int .i64 j/\j<=k/\Hid (QX w5 w5.heap.size (JI bl el (O.take j)) wr)) (λv _=>k-(intOf v).toNat)
    case atStart=>exact⟨0,rfl,Nat.zero_le _,qI⟩
    case round=>
     obtain⟨j,rfl,hj,hE⟩:=hrel;have hJ:Below w5.heap.size w5 wr:=hE.out.bel;by_cases rI:j<k
     ·obtain⟨g,sL,pD⟩:=HN.out (by omega);subst sL;obtain⟨i,hi⟩:∃i,O[j]? =some i:=⟨_,lgE (by rw[hI.out];exact rI)⟩
      have rR:=qJ.out i (lmg hi);have sY:=(hJ.cell (p:=⟨g,j,none⟩) pD.lt).trans (pD.cell hi);obtain⟨x,hx⟩:∃x,bl[i]? =some x:=⟨_,lgE (by rw[qD.out];exact rR)⟩
      obtain⟨y,hy⟩:∃x,el[i]? =some x:=⟨_,lgE (by rw[qE.out];exact rR)⟩
      obtain⟨b,off,hA,hb,hC⟩:=rG.out.2.2 (show 0<bl.length by rw[qD.out];omega);obtain⟨b2,off2,rS,hP,hG⟩:=rZ.out.slAt.2.2 (show 0<el.length by rw[qE.out];omega);simp only at hA rS hC hG;subst hA;subst rS;have hK:Below U.heap.size U wr:=rQ.out.trans (hJ.mono rQ.out.size);have qK:Below w2.heap.size w2 wr:=pN.out.trans (hJ.mono pN.out.size);have sM:=λz:Xb wr.heap.size wr=>And.intro (pR ⟨z.val,hK.trans (z.below.mono hK.size)⟩) (And.intro (Xb.cell (x:=⟨z.val,hK.trans (z.below.mono hK.size)⟩) (hC i x hx 0 _ rfl) hb) (And.intro (Xb.cell (x:=⟨z.val,hK.trans (z.below.mono hK.size)⟩) (hC i x hx 1 _ rfl) hb) (Xb.cell (x:=⟨z.val,qK.trans (z.below.mono qK.size)⟩) (hG i y hy 0 _ rfl) hP)))
      simp only[Nat.mul_one,Nat.add_zero,<-Nat.add_assoc] at sM;have pE:=Xa (Xj6 (l:=bl) (en:=el) hi);obtain⟨pF,sN⟩:=Xhq rC.out rD.out i;have hw:Xbk bl el i=[.str (Zg [99,117,101]),.str x.cue,.str (Zg [102,114,111,109]),.num x.at_,.str (Zg [116,111]),.num y]:=by unfold Xbk;rw[hx,hy]
      obtain⟨T,hT⟩:∃T,T=JI bl el (O.take j):=⟨_,rfl⟩
      have sO:T.length<=1000000000:=by
       have h1:=Xgc rC.out rD.out (O.take j);rw[<-hT,List.length_take] at h1;omega
      rw[<-hT] at hE pE;rw[hw] at pF pE;have KP:=Xa (λz:Xb wr.heap.size wr=>QP ((hE.out.more z.below).more (brf.alloc nr (.cells (([.str (Zg [99,117,101]),.str x.cue,.str (Zg [102,114,111,109]),.num x.at_,.str (Zg [116,111]),.num y]:List ZD).map ZD.val).toArray 20))) sK.out (g:=z.val.heap.size) _ pF (heap_alloc_new z.val _) (by simp) sO);have sZ:(0:Int)<=(j:Int)/\(j:Int)<(k:Int):=by omega
      have tA:(0:Int)<=(i:Int)/\(i:Int)<(bl.length:Int)/\(i:Int)<(el.length:Int):=by have:=qD.out;have:=qE.out;omega
      clear hi hx hy hw pF sN hT hE hC hG pD hJ hK qK;go_upto_region 18 with fail;refine XH wr.heap.size 20 (by kernel_rfl) (by kernel_rfl) ?_;simp only[List.take_succ_cons,List.take_zero,List.drop_succ_cons,List.drop_zero]
      repeat (go_big_quiet_step (fail))
      refine wpQuiet_nil ?_;intro z;go_wp2_with (go_at_call 35;refine(KP.out z).mono ?_;rintro e w7 ⟨rfl,st2,-⟩)
      exact⟨⟨j+1,by go_num,by omega,Xa (by rw[pE.out];exact st2)⟩,by simp[intOf];omega⟩
     ·have sP:j=k:=by omega
      subst sP;have KT:=Xa (XbL hE.out);rw[List.take_of_length_le (by rw[hI.out];exact Nat.le_refl _)] at KT;clear hE;go_wp2_with (go_at_call 39;refine KT.out.mono ?_;rintro e w7 ⟨rfl,sQ⟩)
      go_ret2;exact Xc.mk (by rw[<-sH.out,<-HO.out];rfl) (rP.out.trans (sQ.mono rP.out.size))
 ·have e1:Jc Q L G.l=([],(XI Q L G.l).2):=by unfold Jc;rw[if_neg h0]
  have e2:Xsk Q L G.l=([],(XI Q L G.l).2):=by unfold Xsk;rw[if_neg h0]
  rw[e2] at KB;rw[e1];obtain⟨n,hn⟩:∃n,n=(XI Q L G.l).2:=⟨_,rfl⟩
  have tB:(n==0)=false:=by rw[hn];exact beq_false_of_ne h0
  have tC:(n !=0)=true:=by rw[hn];simpa using h0
  have tD:¬n=0:=by rw[hn];exact h0
  rw[<-hn] at KB ⊢;clear hn h0 e1 e2 KE;go_enter Tryz.func13,Tryz.ntmps13;go_upto_region 1 with fail;rw[HW.out];go_wp2_with (go_at_call 40;refine KB.out.mono ?_;rintro e w1 ⟨hM,⟨rA,rc,rl⟩,rfl,-,-⟩)
  go_ret2;exact Xc.mk rfl (HB.out.trans ((hM.alloc hM.size _).mono pH))
end Go.Proofs.YtdcahhbipeaggaaGreatDoor
