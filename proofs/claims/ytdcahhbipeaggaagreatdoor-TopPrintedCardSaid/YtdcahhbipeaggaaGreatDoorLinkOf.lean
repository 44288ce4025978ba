/- Lemmas for TopPrinted: Linked, LinkOf. -/
import Derived.Test.YtdcahhbipeaggaaGreatDoorLinks
set_option maxRecDepth 100000
set_option maxHeartbeats 16000000
namespace Go.Proofs.YtdcahhbipeaggaaGreatDoor
open Go.RowKit
theorem Xja:∀args w,(callFunc 220 args).run Tryz.prog w=.ok (.enter 220 args) w:=XZ Tryz.func220 (by kernel_rfl) rfl
theorem Xo9(s:Xq)(x:ByteArray×ByteArray)(h1:Xm x.1 x.2=false)(h2:0<=XN (s.aC.l.map Xn.pl) x.1)(h3:0<=XN (s.aC.l.map Xn.pl) x.2)(sb:Nat)(w:World)(hK:sb<w.heap.size)(sat:XA w w.heap.size 7 Xn.cells s.aC)(hc:w.heap[sb]? =some (.cells #[.slice s.aC.A s.aC.l.length s.aC.cap,.slice s.apart.A s.apart.l.length s.apart.cap] 29 (0,0))):
 Calls Tryz.prog 220 #[Z3 x,.pointer (some ⟨sb,0,none⟩)] w (Xc w (.bool false)):=by
 obtain⟨W,hW,hL,hC,hH⟩:=boxed w (.cells #[.string x.1,.string x.2] 73);have hI:=λy:Xb W.heap.size W=>Xi ((y.below.block w.heap.size (by omega)).trans hH);have hJ:=λy:Xb W.heap.size W=>Xq.boxed ((hC.block sb hK).trans hc) (by omega) y;have satW:=sat.to hC (show w.heap.size<=W.heap.size by omega);have KF:=Xa (λ(nm:ByteArray) (y:Xb W.heap.size W)=>Xc.after (x:=y) nr (XaI s nm y.val W.heap.size y.size (satW.to y.below nr)));obtain⟨F1,hD⟩:∃F,F=XN (s.aC.l.map Xn.pl) x.1:=⟨_,rfl⟩
 obtain⟨F2,hE⟩:∃F,F=XN (s.aC.l.map Xn.pl) x.2:=⟨_,rfl⟩
 have K1:=Xa (λy=>hD▸KF.out x.1 y);have K2:=Xa (λy=>hE▸KF.out x.2 y);rw[<-hD] at h2;rw[<-hE] at h3;have n2:decide (F1<0)=false:=by simpa using h2
 have n3:decide (F2<0)=false:=by simpa using h3
 have n1:(x.1.toList==x.2.toList)=false:=h1;have n1':x.1≠x.2:=λe=>by rw[Qq.2 e] at h1;cases h1
 have HW:=Xa hW;have hG:=And.intro (hI (Xb.refl _ _)) (hJ (Xb.refl _ _));simp only[Xb.refl] at hG;have HB:=Xa (λy:Xb W.heap.size W=>hC.trans (y.below.mono (show w.heap.size<=W.heap.size by omega)));clear hW hL hC hH satW sat hc hD hE KF h1;simp only[Z3];go_enter Tryz.func220,Tryz.ntmps220;go_upto_region 1 with fail;rw[<-HW.out]
 go_wp2_with (first
  |(go_at_call 199;refine(K1.out (Xb.refl _ _)).mono ?_;rintro e w' ⟨rfl,y,rfl⟩;have hM:=And.intro (hI y) (hJ y))
  |(go_at_call 199;refine(K2.out y).mono ?_;rintro e w' ⟨rfl,y2,rfl⟩))
 all_goals
  go_ret;exact Xc.mk rfl (HB.out _)
structure Xh1(Q:List XW)(ps:List (ByteArray×ByteArray)):Prop where
 few:Q.length<=60
 pairs:ps.length<=1000
 name:∀(i:Nat) (q:XW),Q[i]? =some q->XF q.name=true/\XN Q q.name=(i:Int)/\Xg q.aL 0 2147483648=true
 link:∀(i:Nat) (q:XW),Q[i]? =some q->(q.link=1/\q.after=⟨#[]⟩)\/((q.link=2\/q.link=3)/\∃j:Nat,XN Q q.after=(j:Int)/\j<i)
 apart:∀x∈ps,Xm x.1 x.2=false/\0<=XN Q x.1/\0<=XN Q x.2
theorem Xo8(s:Xq)(sok:s.ok)(hL:Xh1 (s.aC.l.map Xn.pl) s.apart.l)(w:World)(sat:Xq.at_ w w.heap.size s):
 Calls Tryz.prog 195 #[.agg #[.slice s.aC.A s.aC.l.length s.aC.cap,.slice s.apart.A s.apart.l.length s.apart.cap]] w (Xc w (.bool true)):=by
 obtain⟨W,hW,pB,hH,hI⟩:=bxsh w s;have hJ:=λy:Xb W.heap.size W=>Xq.boxed hI (by omega) y;have satW:=sat.to hH (show w.heap.size<=W.heap.size by omega);have pC:w.heap.size<=W.heap.size:=by omega
 have KF:=Xa (λ(nm:ByteArray) (y:World) (hy:Below W.heap.size W y)=>XaI s nm y W.heap.size hy.size (satW.aC.to hy nr))
 have KC:=Xa (λy:Xb W.heap.size W=>Xc.after (x:=y) nr (Xcc s.apart.A s.apart.cap s.apart.l (λ_=>false) 220 #[.pointer (some ⟨w.heap.size,0,none⟩)] Xja y.val W.heap.size y.size (satW.apart.to y.below nr) (λz e he=>by
  rw[XcA];have hz:Below W.heap.size W z.val:=y.below.trans (z.below.mono y.size);obtain⟨a1,a2,a3⟩:=hL.apart e he
  exact Xo9 s e a1 a2 a3 w.heap.size z.val (Nat.lt_of_lt_of_le (by omega) hz.size) (satW.aC.to hz hz.size) ((hz.block _ (by omega)).trans hI))))
 rw[show s.apart.l.any (λ_=>false)=false by simp] at KC;have HW:=Xa hW;have HB:=Xa hH;have SATW:=Xa satW;have HL:=Xa hL;have SOK:=Xa sok.aC;have pD:=hJ (Xb.refl _ _);simp only[Xb.refl] at pD;clear hW pB hH hI sat satW sok hL;obtain⟨⟨qA,qcap,ql⟩,⟨pA,pcap,pl⟩⟩:=s;simp only at*;have pG:ql.length<=qcap:=SATW.out.aC.1;have pH:qcap<=9223372036854775807:=SATW.out.aC.2.1;have pI:pl.length<=pcap:=SATW.out.apart.1;have pJ:pcap<=9223372036854775807:=SATW.out.apart.2.1;have pK:ql.length<=60:=by simpa using HL.out.few
 have pL:pl.length<=1000:=HL.out.pairs;obtain⟨Q,hQ⟩:∃Q,Q=ql.map Xn.pl:=⟨_,rfl⟩
 rw[<-hQ] at KF HL;have HQ:=Xa hQ;clear hQ;go_enter Tryz.func195,Tryz.ntmps195;go_upto_region 1 with fail;rw[<-HW.out];go_wp2_with fail;go_loopw [19] (λv wr=>∃k:Nat,v=.int .i64 k/\k<=ql.length/\∃x:Xb W.heap.size W,wr=x.val) (λv _=>ql.length-(intOf v).toNat)
 case atStart=>exact⟨0,rfl,Nat.zero_le _,Xb.refl _ _,rfl⟩
 case round=>
  obtain⟨k,rfl,hk,x,rfl⟩:=hrel;by_cases hT:k<ql.length
  ·obtain⟨b,off,hA,hb,hD⟩:=SATW.out.aC.2.2 (show 0<ql.length by omega);simp only at hA;subst hA;have hx:ql[k]? =some ql[k]:=lgE hT;have hG:=SOK.out ql[k] (List.getElem_mem hT);obtain⟨q,hq⟩:∃q,q=ql[k]:=⟨_,rfl⟩
   rw[<-hq] at hx hG;have he:=Xn.elem hx hb hD x;have hK:Q[k]? =some q.pl:=by rw[HQ.out,List.getElem?_map,hx];rfl
   obtain⟨n1,n2,n3⟩:=HL.out.name k _ hK;have pE:=HL.out.link k _ hK;obtain⟨Y,hY,pM,hU,hV⟩:=bxcu x.val q;have hC:Below W.heap.size W Y:=x.below.trans (hU.mono x.size);have hE:=λy:Xb Y.heap.size Y=>And.intro (Xn.boxed hV (by omega) y) (hJ ⟨y.val,hC.trans (y.below.mono hC.size)⟩);simp only at hE;have hM:=hE (Xb.refl _ _);simp only[Xb.refl] at hM;have pN:(0:Int)<=(k:Int)/\(k:Int)<(ql.length:Int):=by omega
   have K1:=Xa (Xc.first (n1▸XK q.name Y hG.name));have K2:=Xa (λy:Xb Y.heap.size Y=>Xc.after (x:=y) nr (n2▸KF.out q.name y.val (hC.trans (y.below.mono hC.size))));have K3:=Xa (λy:Xb Y.heap.size Y=>Xc.after (x:=y) nr (n3▸XfJ q.aL y.val));have HY:=Xa hY;have hX:∀y:Xb Y.heap.size Y,∃x':Xb W.heap.size W,y.val=x'.val:=λy=>⟨⟨y.val,hC.trans (y.below.mono hC.size)⟩,rfl⟩
   have hZ:=Xa hX;have hN:=Xa (λy:Xb Y.heap.size Y=>KF.out q.after y.val (hC.trans (y.below.mono hC.size)));clear hD hx hq hK n1 n2 n3 hY hV hU hC hX hG;go_upto_region 6 with fail;rw[<-HY.out];clear he;rcases pE with ⟨h1,h2⟩|⟨h1,j,h2,h3⟩
   ·have h1:q.link=1:=h1;have h2:q.after=⟨#[]⟩:=h2;have l1:(q.link==1)=true:=by simp[h1]
    have l2:q.after.toList.isEmpty=true:=by rw[h2];unfold ByteArray.toList ByteArray.toList.loop;rfl
    clear h1 h2
    go_wp2_with (first
     |(go_at_call 61;refine K1.out.mono ?_;rintro e w' ⟨rfl,y,rfl⟩;have pF:=hE y)
     |(go_at_call 199;refine(K2.out y).mono ?_;rintro e w' ⟨rfl,y2,rfl⟩;have hO:=hE y2)
     |(go_at_call 197;refine(K3.out y2).mono ?_;rintro e w' ⟨rfl,y3,rfl⟩;have hP:=hE y3))
    obtain⟨x',hR⟩:=hZ.out y3;exact⟨⟨k+1,by go_num,by omega,x',hR⟩,by simp[intOf];omega⟩
   ·have h1:q.link=2\/q.link=3:=h1;have h2:XN Q q.after=(j:Int):=h2;rw[h2] at hN;have K4:=Xa (λy:Xb Y.heap.size Y=>Xc.after (x:=y) nr (hN.out y));have hj:¬((j:Int)<0)/\¬(j:Int)=(k:Int):=by omega
    have pO:decide ((j:Int)<0)=false/\((j:Int)==(k:Int))=false:=by simp;omega
    have l1:(q.link==1)=false/\((q.link==2)=true\/(q.link==2)=false/\(q.link==3)=true):=by rcases h1 with e|e<;>simp[e]
    obtain⟨l1,l2⟩:=l1;clear h1 h2 hN;rcases l2 with l2|⟨l2,l3⟩
    all_goals
     go_wp2_with (first
      |(go_at_call 61;refine K1.out.mono ?_;rintro e w' ⟨rfl,y,rfl⟩;have pF:=hE y)
      |(go_at_call 199;refine(K2.out y).mono ?_;rintro e w' ⟨rfl,y2,rfl⟩;have hO:=hE y2)
      |(go_at_call 197;refine(K3.out y2).mono ?_;rintro e w' ⟨rfl,y3,rfl⟩;have hP:=hE y3)
      |(go_at_call 199;refine(K4.out y3).mono ?_;rintro e w' ⟨rfl,y4,rfl⟩))
     obtain⟨x',hR⟩:=hZ.out y4;exact⟨⟨k+1,by go_num,by omega,x',hR⟩,by simp[intOf];omega⟩
  ·have pP:=hJ x;go_wp2_with (go_at_call 73;refine(KC.out x).mono ?_;rintro e w' ⟨rfl,y,rfl⟩)
   go_ret;exact Xc.mk rfl (HB.out.trans (y.below.mono pC))
end Go.Proofs.YtdcahhbipeaggaaGreatDoor
namespace Go.Proofs.YtdcahhbipeaggaaGreatDoor
open Go
theorem XjC{s:ByteArray}(h:s.toList=[]):s=⟨#[]⟩:=Qq.1 (by
 rw[Xm,h]
 unfold ByteArray.toList ByteArray.toList.loop;rfl)
theorem Xmc{l:List XW}{i:Nat}{nm:ByteArray}(h:0<=XN (l.take i) nm):∃j:Nat,XN l nm=(j:Int)/\j<i:=by
 rcases XkX (λq:XW=>Xm q.name nm) (l.take i) with ⟨e,-⟩|⟨j,x,e,hx,hp,hn⟩
 ·rw[XN,e] at h;omega
 ·have hj:=(lgS hx).1;rw[List.length_take] at hj;rw[List.getElem?_take_of_lt (by omega)] at hx;refine⟨j,QU hx hp λk y hk hy=>hn k y hk (by rw[List.getElem?_take_of_lt (by omega)];exact hy),by omega⟩
theorem XeC{l:List XW}{nm:ByteArray}(h:Xc6 l nm=true):0<=XN l nm:=by
 have:=Zh (λx:XW=>Xm x.name nm) l;rw[show l.any (λx:XW=>Xm x.name nm)=true from h] at this;exact of_decide_eq_true this
theorem Xa7{h:Xl}{c:Xp}(hs:Xgk h c):Xh1 c.aC c.apart:=by
 have hC:=hs.apart;simp only[XbQ,bae,decide_eq_true_eq,XJ] at hC;refine⟨hs.few,hC.1,λi q hq=> ?_,λi q hq=> ?_,λx hx=> ?_⟩
 ·obtain⟨⟨r1,r2,r3,r4,r5⟩,r6⟩:=Q3.1 (hs.right q (lmg hq));exact⟨r1,hs.uniq i q hq,r3⟩
 ·obtain⟨⟨r1,r2,r3,r4,r5⟩,r6⟩:=Q3.1 (hs.right q (lmg hq));have hl:=hs.link i q hq;simp only[Xe1,bae,beq_iff_eq,Bool.or_eq_true,decide_eq_true_eq] at hl;obtain⟨l1,l2⟩:=hl;by_cases h1:q.link=1
  ·have:(q.after.toList==[])=true:=by rw[<-l1,h1];rfl
   exact Or.inl ⟨h1,XjC (by simpa using this)⟩
  ·refine Or.inr ⟨by omega,Xmc ?_⟩;rcases l2 with l2|l2
   ·exact absurd l2 h1
   ·exact l2
 ·obtain⟨i,hi,e⟩:=List.getElem_of_mem hx;have hp:=hC.2 i x (by rw[lgE hi,e]);simp only[XeX,bae] at hp;obtain⟨⟨⟨-,p2⟩,p3⟩,p4⟩:=hp;have f3:=XeC p3;have f4:=XeC p4;have p2:Xm (QR x).1 (QR x).2=false:=by simpa using p2
  unfold QR at p2 f3 f4;split at p2
  ·rename_i hc
   rw[if_pos hc] at f3 f4;refine⟨?_,f4,f3⟩;cases hD:Xm x.1 x.2
   ·rfl
   ·rw[Qq.1 hD,Qq.2 rfl] at p2;cases p2
  ·rename_i hc
   rw[if_neg hc] at f3 f4;exact⟨p2,f3,f4⟩
end Go.Proofs.YtdcahhbipeaggaaGreatDoor
