/- Lemmas for TopPrinted: HouseLoads. -/
import Derived.Test.YtdcahhbipeaggaaGreatDoorArborW
set_option maxRecDepth 100000
set_option maxHeartbeats 16000000
namespace Go.Proofs.YtdcahhbipeaggaaGreatDoor
open Go.RowKit
def Xih(s:Xd):Int:=X9 s+s.aN+Yp s.aE.l
def Zf(l:List Xd):List (Int×Int):=l.map λs=>(s.depth,Xih s)
def Xck(h:Xf)(w:World)(e:Ending)(w':World):Prop:=
 if (∀s∈h.aA.l,Xih s<=67108864) then Jn h.aB.l (Zf h.aA.l) w e w' else Below w.heap.size w w'/\e=.returned (.tuple #[.slice none 0 0,.int .i64 5])
theorem XfZ{h:Xf}(hh:Xv h=true):∀s∈h.aA.l,X0 s=true:=λs hs=>by
 obtain⟨i,hi,e⟩:=List.getElem_of_mem hs;rw[Xv,bae] at hh;have:=XJ.1 hh.2 i s (by rw[lgE hi,e]);rw[setAt,bae,bae] at this;exact this.1.1
theorem Xey{h:Xf}(hh:Xv h=true):Y6 h.aB.l=true:=by
 rw[Xv,bae] at hh;exact(Zj.1 hh.1).2.2.2.2
theorem XhU{s:Xd}(h:X0 s=true):(0<=X9 s/\X9 s<=1200000000)/\(0<=s.aN/\s.aN<=1048576)/\(0<=Yp s.aE.l/\Yp s.aE.l<=600000000)/\0<=s.depth/\s.depth<=1048576:=by
 obtain⟨-,-,w1,w2,-⟩:=QE h;obtain⟨-,-,a,-,-,-,b1,-,b2⟩:=ZN h;have b3:=QC _ b2;simp only[X0,Ju,Xg,bae,decide_eq_true_eq] at h;exact⟨⟨w1,w2⟩,a,⟨b3.1,by omega⟩,by omega,by omega⟩
theorem Xlu{s:Xd}(h:X0 s=true):Yb s.aE.l=true:=by
 rw[X0,bae] at h;exact h.2
theorem XjD(x:Int×Int):(ZA x).length=2:=rfl
theorem Xl0(x:Int):(Xj x).length=1:=rfl
theorem Xtt:(Tryz.prog.info? 185).map (λi=>(i.zero,i.size,i.bytes))=some (some (.agg #[.int .i64 0,.int .i64 0]),2,16):=by kernel_rfl
theorem XrJ:(Tryz.prog.info? 3).map (λi=>(i.zero,i.size,i.bytes))=some (some (.int .i64 0),1,8):=by kernel_rfl
theorem XiV(h:Xf)(pQ:h.ok)(hh:Xv h=true)(qX:h.aA.l.length<=40)(w:World)(B:Nat)(hB:B<=w.heap.size)(hL:Xf.at_ w B h):
 Calls Tryz.prog 38 #[.agg #[.string h.name,.int .i64 h.aH,.slice h.aA.A h.aA.l.length h.aA.cap,.slice h.aB.A h.aB.l.length h.aB.cap]] w (Xck h w):=by
 obtain⟨W,hW,qY,pR,qG⟩:∃V:World,w.alloc (.cells #[.string h.name,.int .i64 h.aH,.slice h.aA.A h.aA.l.length h.aA.cap,.slice h.aB.A h.aB.l.length h.aB.cap] 25)=V/\V.heap.size=w.heap.size+1/\Below w.heap.size w V/\V.heap[w.heap.size]? =some (.cells #[.string h.name,.int .i64 h.aH,.slice h.aA.A h.aA.l.length h.aA.cap,.slice h.aB.A h.aB.l.length h.aB.cap] 25 (0,0)):=by
  obtain⟨A,hA,pA,pB,pC⟩:=bxhs w h;exact⟨A,hA.symm,pA,pB,pC⟩
 have hc:=λy:Xb W.heap.size W=>Xf.boxed qG (by omega) y;have qZ:=hc (Xb.refl _ _);simp only[Xb.refl] at qZ;have hR:Xf.at_ W W.heap.size h:=hL.to (pR.mono hB) (by omega);have KV:=Xa (Xc.first (Yf h pQ W W.heap.size nr hR));rw[hh] at KV;have qH:=Xa (XfZ hh);have rA:=Xa (Xey hh);have pS:=Xa pQ;have pT:=Xa hR;have pJ:=Xa pR;obtain⟨i0,hi,qI,qJ,qK⟩:=info_parts Xtt;obtain⟨j0,hj,qL,qM,qN⟩:=info_parts XrJ;have HI:=Xa (And.intro hi (And.intro qI (And.intro qJ qK)));have HJ:=Xa (And.intro hj (And.intro qL (And.intro qM qN)))
 have hm:h.aA.cap<=9223372036854775807:=hL.aA.2.1;have rV:h.aA.l.length<=h.aA.cap:=hL.aA.1;clear qG hL hR pQ hh hi qI qJ qK hj qL qM qN pR qY;obtain⟨qO,pK,⟨SA,scap,sl⟩,⟨RA,rcap,rl⟩⟩:=h;simp only at*;go_enter Tryz.func38,Tryz.ntmps38;go_upto_region 5 with (go_at_call 22;refine KV.out.mono ?_;rintro e w' ⟨rfl,x,rfl⟩;have rW:=hc x)
 go_loopw [4,20] (λv4 v wr=>∃k:Nat,v=.int .i64 k/\k<=sl.length/\Hid (X7 185 2 ZA x.val v4 (Zf (sl.take k)) wr)/\Hid (∀j s,j<k->sl[j]? =some s->Xih s<=67108864)) (λ_ v _=>sl.length-(intOf v).toNat)
 case atStart=>exact⟨0,rfl,Nat.zero_le _,Xa (X7.start _ _ _ brf),Xa (λj s hj=>absurd hj (by omega))⟩
 case round=>
  obtain⟨k,rfl,hk,hK,pD⟩:=hrel;have hN:Below W.heap.size W wr:=x.below.trans (hK.out.bel.mono x.size);by_cases rB:k<sl.length
  ·obtain⟨b,off,hA,hb,hE⟩:=pT.out.aA.2.2 (show 0<sl.length by omega);simp only at hA hE;subst hA;obtain⟨s,hs⟩:∃s,sl[k]? =some s:=⟨_,lgE rB⟩
   have hG:=lmg hs;have hL:=pT.out.each s hG;have hH:=qH.out s hG;have he:=Xd.elem hs hb hE ⟨wr,hN⟩;simp only at he;obtain⟨Y,hY,rC,pL,qP⟩:∃V:World,wr.alloc (.cells #[.string s.name,.int .i64 s.depth,.int .i64 s.low,.int .i64 s.high,.int .i64 s.length,.slice s.aG.A s.aG.l.length s.aG.cap,.int .i64 s.aM,.int .i64 s.aN,.int .i64 s.aI,.int .i64 s.most,.int .i64 s.aJ,.slice s.aF.A s.aF.l.length s.aF.cap,.slice s.aE.A s.aE.l.length s.aE.cap] 57)=V/\V.heap.size=wr.heap.size+1/\Below wr.heap.size wr V/\V.heap[wr.heap.size]? =some (.cells #[.string s.name,.int .i64 s.depth,.int .i64 s.low,.int .i64 s.high,.int .i64 s.length,.slice s.aG.A s.aG.l.length s.aG.cap,.int .i64 s.aM,.int .i64 s.aN,.int .i64 s.aI,.int .i64 s.most,.int .i64 s.aJ,.slice s.aF.A s.aF.l.length s.aF.cap,.slice s.aE.A s.aE.l.length s.aE.cap] 57 (0,0)):=by
    obtain⟨A,hA,pA,pB,pC⟩:=bxst wr s;exact⟨A,hA.symm,pA,pB,pC⟩
   have pM:Below W.heap.size W Y:=hN.trans (pL.mono hN.size);have hT:Xd.at_ Y W.heap.size s:=hL.to pM nr;have pN:=λy:Xb Y.heap.size Y=>Xd.boxed qP (by omega) y;have pE:=pN (Xb.refl _ _);simp only[Xb.refl] at pE;have KW:=Xa (Xc.first (YO hH (X9 s)▸J8 s (pS.out.aA s hG) Y W.heap.size pM.size hT));obtain⟨⟨wn0,wn1⟩,⟨an0,an1⟩,⟨bn0,bn1⟩,rX,rY⟩:=XhU hH;have pF:Xih s=X9 s+s.aN+Yp s.aE.l:=rfl;have pU:Zf (sl.take (k+1))=Zf (sl.take k)++[(s.depth,Xih s)]:=by
    unfold Zf;rw[List.take_add_one,hs,List.map_append];rfl
   have hlen:(Zf (sl.take k)).length=k:=by simp[Zf];omega
   obtain⟨M,hM⟩:∃M,M=Zf (sl.take k):=⟨_,rfl⟩
   rw[<-hM] at hK pU hlen;obtain⟨wn,qQ⟩:∃n,n=X9 s:=⟨_,rfl⟩
   obtain⟨bn,pV⟩:∃n,n=Yp s.aE.l:=⟨_,rfl⟩
   rw[<-qQ] at KW wn0 wn1 pF;rw[<-pV] at bn0 bn1 pF;have rZ:(0:Int)<=(k:Int)/\(k:Int)<(sl.length:Int):=by omega
   obtain⟨m1,pW⟩:∃n,n=wn+s.aN:=⟨_,rfl⟩
   obtain⟨sm,pX⟩:∃n,n=m1+bn:=⟨_,rfl⟩
   have sA:IntKind.i64.wrap (wn+s.aN)=m1:=by rw[pW];exact Xcm (by omega)
   have sB:IntKind.i64.wrap (m1+bn)=sm:=by rw[pX];exact Xcm (by omega)
   rw[<-pW,<-pX] at pF;have rD:0<=sm:=by omega
   have rE:=Xa pV;have rF:=Xa pU;have pG:=Xa hlen;have pY:=Xa pF;have qR:=Xa hs;have pZ:=Xa hH;have rG:=Xa (hK.out.more pL);have pO:=Xa pM;have qS:=Xa hT;have sC:=Xa (hK.out.bel.trans (pL.mono hK.out.bel.size));have rH:wr.heap.size<Y.heap.size:=by omega
   have sD:s.aE.l.length<=8:=(ZN hH).2.2.2.2.2.2.1;have sE:s.aE.cap<=9223372036854775807:=hL.aE.2.1;have rI:s.aE.l.length<=s.aE.cap:=hL.aE.1;have qA:=Xa (pS.out.aA s hG);clear pW pX hE hs hG hL hH qP rC pL pM hT hN hK qQ pV pU hlen hM pF;obtain⟨sname,sdepth,slow,shigh,slen,sli,spipe,sarb,spur,smost,sbr,sit,⟨BA,bcap,bl⟩⟩:=s;simp only at*;go_upto_region 12 with (go_at_call 36;refine KW.out.mono ?_;rintro e w' ⟨rfl,y,rfl⟩;have sF:=pN y)
   go_loopw [9,35] (λv9 v wr=>∃j:Nat,v=.int .i64 j/\j<=bl.length/\Hid (X7 3 1 Xj y.val v9 ((bl.take j).map (·.count)) wr)) (λ_ v _=>bl.length-(intOf v).toNat)
   case atStart=>exact⟨0,rfl,Nat.zero_le _,Xa (X7.start _ _ _ brf)⟩
   case round=>
    obtain⟨j,rfl,hj,hq⟩:=hrel;have hO:Below Y.heap.size Y wr:=y.below.trans (hq.out.bel.mono y.size);have pH:=pO.out.size;by_cases qB:j<bl.length
    ·obtain⟨bb,boff,hA,sG,hD⟩:=qS.out.aE.2.2 (show 0<bl.length by omega);simp only at hA hD;subst hA;obtain⟨r,hr⟩:∃r,bl[j]? =some r:=⟨_,lgE qB⟩
     have rJ:=Xo.elem hr (show bb<Y.heap.size by omega) hD ⟨wr,hO⟩;simp only at rJ;obtain⟨Z,hZ,rK,qT,qU⟩:∃V:World,wr.alloc (.cells #[.string r.name,.int .i64 r.weight,.int .i64 r.count] 88)=V/\V.heap.size=wr.heap.size+1/\Below wr.heap.size wr V/\V.heap[wr.heap.size]? =some (.cells #[.string r.name,.int .i64 r.weight,.int .i64 r.count] 88 (0,0)):=by
      obtain⟨A,hA,pA,pB,pC⟩:=bxbk wr r;exact⟨A,hA.symm,pA,pB,pC⟩
     have rL:=Xo.boxed qU (by omega) (Xb.refl Z.heap.size Z);simp only[Xb.refl] at rL;have pI:(bl.take (j+1)).map (·.count)=(bl.take j).map (·.count)++[r.count]:=by rw[List.take_add_one,hr,List.map_append];rfl
     have hlen2:((bl.take j).map (·.count)).length=j:=by simp;omega
     have qC:=Xa pI;have hP:=Xa hlen2;have HQ:=Xa (hq.out.more qT);have sH:y.val.heap.size<=Z.heap.size:=Nat.le_trans hq.out.bel.size (by omega);have sJ:(0:Int)<=(j:Int)/\(j:Int)<(bl.length:Int):=by omega
     clear hD hr pI hlen2 hq qU qT hO;go_wp2_with (at_builtin;refine Hid.out ?_)
     refine Lib.hid ?_;refine wpList_append_own _ rfl _ _ 30 rfl y.val.heap.size 3 j0 _ 1 8 Tryz.underlying30 HJ.out.1 HJ.out.2.1 HJ.out.2.2.1 HJ.out.2.2.2 rfl (by decide) _ _ _ rfl (HQ.out.own.alloc _) ⟨wr.heap.size+1,0,none⟩ 1 1 (Xj r.count) rfl rfl (by rw[<-rK];exact World.news_of_block (heap_alloc_new Z _)) (λu hu=>by simp[Xj] at hu;subst hu;rfl) (by rw[hP.out];unfold maxLen;omega) (by rw[hP.out];omega) (by simp;omega) ?_;intro v' w4 hC hI _;have HN:=Xa (HQ.out.append (ls:=[r.count]) (brf.alloc nr _) hC hI);clear hC hI;go_wp2_with fail;exact⟨⟨j+1,by go_num,by omega,Xa (by rw[qC.out];exact HN.out)⟩,by simp[intOf];omega⟩
    ·have qV:(bl.take j).map (·.count)=bl.map (·.count):=by rw[List.take_of_length_le (by omega)]
     obtain⟨CL,qD⟩:∃l,l=bl.map (·.count):=⟨_,rfl⟩
     rw[qV,<-qD] at hq;have rM:=hq.out.bel;obtain⟨A9,c9,rfl,hV⟩:=hq.out.slAt Xl0;have qW:Below W.heap.size W wr:=pO.out.trans (hO.mono pH);have KA:=Xa (Xc.first (Xjh BA bcap bl qA.out.aE (Xlu pZ.out) ⟨A9,c9,CL⟩ qD wr (qS.out.aE.to (hO.mono pH) qW.size) hV));rw[<-rE.out] at KA;simp only at KA;have hU:=Xa (rG.out.more hO);have pP:=Xa hO;have qE:=pN ⟨wr,hO⟩;simp only at qE;have qF:=λz:Xb wr.heap.size wr=>pN ⟨z.val,pP.out.trans (z.below.mono pP.out.size)⟩;simp only at qF;clear qD hq qV hV rM hO qW pE;by_cases rN:67108864<sm
     ·go_wp2_with (go_at_call 91;refine KA.out.mono ?_;rintro e w' ⟨rfl,z,rfl⟩;have rO:=qF z)
      go_ret2;unfold Xck;rw[if_neg λh=>absurd (h _ (lmg qR.out)) (by rw[pY.out];omega)];have rP:=pP.out.trans (z.below.mono pP.out.size);exact⟨pJ.out.trans ((pO.out.trans (rP.mono pO.out.size)).mono pJ.out.size),rfl⟩
     ·go_wp2_with (first
       |(go_at_call 91;refine KA.out.mono ?_;rintro e w' ⟨rfl,z,rfl⟩;have rO:=qF z)
       |(at_builtin;refine Hid.out ?_))
      have sK:x.val.heap.size<=z.val.heap.size:=Nat.le_trans hU.out.bel.size z.size;refine Lib.hid ?_;refine wpList_append_own _ rfl _ _ 182 rfl x.val.heap.size 185 i0 _ 2 16 Tryz.underlying182 HI.out.1 HI.out.2.1 HI.out.2.2.1 HI.out.2.2.2 rfl (by decide) _ _ _ rfl ((hU.out.more z.below).own.alloc _) ⟨z.val.heap.size,0,none⟩ 1 1 (ZA (sdepth,sm)) rfl rfl (World.news_of_block (heap_alloc_new z.val _)) (λu hu=>by simp[ZA] at hu;rcases hu with rfl|rfl<;>rfl) (by rw[pG.out];unfold maxLen;omega) (by rw[pG.out];omega) (by simp;omega) ?_;intro v' w4 hC hI _;have HN:=Xa ((hU.out.more z.below).append (ls:=[(sdepth,sm)]) (brf.alloc nr _) hC hI)
      clear hC hI;go_wp2_with fail;refine⟨⟨k+1,by go_num,by omega,Xa (by rw[rF.out,pY.out];exact HN.out),Xa (λj s hj hs=> ?_)⟩,by simp[intOf];omega⟩;by_cases rQ:j=k
      ·subst rQ;rw[qR.out] at hs;cases hs
       rw[pY.out];omega
      ·exact pD.out j s (by omega) hs
  ·have rR:sl.take k=sl:=List.take_of_length_le (by omega);rw[rR] at hK;have hJ:∀s∈sl,Xih s<=67108864:=λs hs=>by
    obtain⟨i,hi⟩:=List.getElem?_of_mem hs;exact pD.out i s (by have:=(lgS hi).1;omega) hi
   obtain⟨A9,c9,rfl,hV⟩:=hK.out.slAt XjD;obtain⟨LL,hX⟩:∃l,l=Zf sl:=⟨_,rfl⟩
   rw[<-hX] at hV hK;have hQ:∀y∈LL,YS y=true:=λy hy=>by
    rw[hX] at hy;obtain⟨s,hs,rfl⟩:=List.mem_map.1 hy;obtain⟨⟨a,b⟩,⟨c,d⟩,⟨e,f⟩,g1,g2⟩:=XhU (qH.out s hs);have h2:=hJ s hs;have h3:Xih s=X9 s+s.aN+Yp s.aE.l:=rfl;simp only[YS,Xg,bae,decide_eq_true_eq];omega
   have KL:=Xa (XjT RA A9 rcap c9 rl LL pS.out.aB rA.out (by rw[hX];simpa[Zf] using qX) hQ wr (pT.out.aB.to hN hN.size) hV);have qE:=hc ⟨wr,hN⟩;simp only at qE;have rS:=Xa hN;have rT:=Xa hJ;rw[show(Zf sl).length=LL.length by rw[hX]];have rU:=Xa hX;clear hK hV hQ hX hN hJ;go_wp2_with (go_at_call 92;refine KL.out.mono ?_;rintro e w' hp;obtain⟨a,b,he⟩:=hp.tuple;subst he)
   refine bodyPost_ret (results_tmp2 (t:=2) (u:=3) rfl _ _ _) rfl ?_;unfold Xck;rw[if_pos rT.out,<-rU.out];exact hp.mono (pJ.out.trans (rS.out.mono pJ.out.size))
end Go.Proofs.YtdcahhbipeaggaaGreatDoor
