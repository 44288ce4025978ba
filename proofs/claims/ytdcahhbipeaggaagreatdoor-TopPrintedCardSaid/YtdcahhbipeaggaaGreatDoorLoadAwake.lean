/- Lemmas for TopPrinted: Verify, JobTurn, LoadAwake. -/
import Derived.Test.YtdcahhbipeaggaaGreatDoorLatProves
import Derived.Shelf.Strings.Repeat
import Derived.Lib.SliceRun
import Derived.Test.YtdcahhbipeaggaaGreatDoorPaper
set_option maxRecDepth 100000
set_option maxHeartbeats 16000000
namespace Go.Proofs.YtdcahhbipeaggaaGreatDoor
open Go Go.RowKit Go.Maps Go.Deep
theorem XlW(x:Yu):x.cells.length=3:=rfl
theorem Xr0{w:World}{b1 o1 c b2 o2 d:Nat}(l:List Int)(hl:l.length<=9223372036854775807)(h1:∀j,j<l.length->w.cell? ⟨b1,o1+j,none⟩=some (.int .i64 (l.getD j 0)))(h2:∀j,j<l.length->w.cell? ⟨b2,o2+j,none⟩=some (.int .i64 (l.getD j 0))):
 Calls Tryz.prog 20 #[.slice (some ⟨b1,o1,none⟩) l.length c,.slice (some ⟨b2,o2,none⟩) l.length d] w (Xc w (.bool true)):=by
 refine(Tryz.slices_Equal_int b1 o1 l.length c b2 o2 l.length d l l w nr nr hl hl h1 h2).mono ?_;rintro e w' ⟨he,q,rfl⟩;rw[beq_self_eq_true] at he;exact⟨he,⟨rfl,rfl,rfl,Nat.le_refl _,λ_ _=>rfl⟩⟩
end Go.Proofs.YtdcahhbipeaggaaGreatDoor
namespace Go.Proofs.YtdcahhbipeaggaaGreatDoor
open Go.RowKit
theorem Xwi{w wr:World}{g:Option Nat}(h:w.grownBy wr g):w.grownBy wr.drew g:=⟨h.os,h.tape,h.output,h.size,h.block⟩
end Go.Proofs.YtdcahhbipeaggaaGreatDoor
namespace Go.Proofs.YtdcahhbipeaggaaGreatDoor
open Go Go.RowKit Go.Maps Go.Deep
def Xs(n:Nat):Xd:={name:=⟨#[115]⟩,depth:=0,low:=0,high:=8000,length:=1000,aG:=⟨some ⟨n+1,0,none⟩,2,[0,1000]⟩,aM:=60,aN:=40,aI:=1,most:=100,aJ:=10,aF:=⟨none,0,[]⟩,aE:=⟨some ⟨n+2,0,none⟩,1,[{name:=⟨#[98]⟩,weight:=7,count:=2}]⟩}
theorem Xi7(n:Nat):(Xs n).ok:=by
 constructor
 case aG=>
  intro n hn;simp[Xs] at hn;rcases hn with rfl|rfl<;>simp[I64]
 case aF=>intro i hi;simp[Xs] at hi
 case aE=>
  intro b hb;simp[Xs] at hb;subst hb;constructor<;>simp[I64,maxLen,ByteArray.size]
 all_goals simp[Xs,I64,maxLen,ByteArray.size]
theorem Xhk(n:Nat):X0 (Xs n)=true:=by kernel_rfl
theorem XrW(n:Nat):XaM (Xs n)=6:=by kernel_rfl
theorem Xlo(w:World)(o0 o1 o2:Obj):(((w.alloc o0).alloc o1).alloc o2).heap[w.heap.size+1]? =some o1/\(((w.alloc o0).alloc o1).alloc o2).heap[w.heap.size+2]? =some o2/\(((w.alloc o0).alloc o1).alloc o2).heap.size=w.heap.size+3/\Below w.heap.size w (((w.alloc o0).alloc o1).alloc o2):=by
 obtain⟨W1,e1,s1,b1,h1⟩:=boxed w o0;rw[<-e1];obtain⟨W2,e2,s2,b2,h2⟩:=boxed W1 o1;rw[<-e2];obtain⟨W3,e3,s3,b3,h3⟩:=boxed W2 o2;rw[<-e3];refine⟨?_,?_,by omega,b1.trans ((b2.mono (by omega)).trans (b3.mono (by omega)))⟩
 ·rw[<-s1,b3.block _ (by omega)];exact h2
 ·rw[show w.heap.size+2=W2.heap.size by omega];exact h3
theorem XgG(w:World):Calls Tryz.prog 18 #[] w λe w'=>e=.returned (.agg #[.string (Xs w.heap.size).name,.int .i64 (Xs w.heap.size).depth,.int .i64 (Xs w.heap.size).low,.int .i64 (Xs w.heap.size).high,.int .i64 (Xs w.heap.size).length,.slice (Xs w.heap.size).aG.A (Xs w.heap.size).aG.l.length (Xs w.heap.size).aG.cap,.int .i64 (Xs w.heap.size).aM,.int .i64 (Xs w.heap.size).aN,.int .i64 (Xs w.heap.size).aI,.int .i64 (Xs w.heap.size).most,.int .i64 (Xs w.heap.size).aJ,.slice (Xs w.heap.size).aF.A (Xs w.heap.size).aF.l.length (Xs w.heap.size).aF.cap,.slice (Xs w.heap.size).aE.A (Xs w.heap.size).aE.l.length (Xs w.heap.size).aE.cap])/\Below w.heap.size w w'/\Xd.at_ w' w'.heap.size (Xs w.heap.size):=by
 go_enter Tryz.func18,Tryz.ntmps18;go_wp2;obtain⟨h1,h2,hs,hb⟩:=Xlo w (.cells #[.string ⟨#[115]⟩,.int .i64 0,.int .i64 0,.int .i64 8000,.int .i64 1000,.slice (some ⟨w.heap.size+1,0,none⟩) 2 2,.int .i64 60,.int .i64 40,.int .i64 1,.int .i64 100,.int .i64 10,.slice none 0 0,.slice (some ⟨w.heap.size+1+1,0,none⟩) 1 1] 57)
  (.cells #[.int .i64 0,.int .i64 1000] 3) (.cells #[.string ⟨#[98]⟩,.int .i64 7,.int .i64 2] 88)
 refine bodyPost_ret (v:=.agg #[.string (Xs w.heap.size).name,.int .i64 (Xs w.heap.size).depth,.int .i64 (Xs w.heap.size).low,.int .i64 (Xs w.heap.size).high,.int .i64 (Xs w.heap.size).length,.slice (Xs w.heap.size).aG.A (Xs w.heap.size).aG.l.length (Xs w.heap.size).aG.cap,.int .i64 (Xs w.heap.size).aM,.int .i64 (Xs w.heap.size).aN,.int .i64 (Xs w.heap.size).aI,.int .i64 (Xs w.heap.size).most,.int .i64 (Xs w.heap.size).aJ,.slice (Xs w.heap.size).aF.A (Xs w.heap.size).aF.l.length (Xs w.heap.size).aF.cap,.slice (Xs w.heap.size).aE.A (Xs w.heap.size).aE.l.length (Xs w.heap.size).aE.cap]) (by simp[results,Tryz.results18,go_sem,Xs]) rfl ⟨rfl,hb,?_⟩
 exact⟨XA.whole (λ_=>rfl) h1 rfl (by omega) (show 2<=maxLen by decide),XA.nil,XA.whole (λ_=>rfl) h2 rfl (by omega) (show 1<=maxLen by decide)⟩
def XbO:List Yu:=[⟨⟨#[97]⟩,false,16⟩,⟨⟨#[98]⟩,true,18⟩]
theorem XrY:∀x∈XbO,x.ok:=by
 intro x hx;simp[XbO] at hx;rcases hx with rfl|rfl<;>exact⟨by simp[maxLen,ByteArray.size],by simp[I64]⟩
theorem Xme:Y3 XbO=true:=by kernel_rfl
theorem XtL(n:Nat):(ZK (Xs n) XbO 0=true/\ZK (Xs n) XbO 1=true)/\ZK (Xs n) XbO 2=false/\ZK (Xs n) XbO 3=true:=⟨⟨by kernel_rfl,by kernel_rfl⟩,by kernel_rfl,by kernel_rfl⟩
theorem XvK{H:Nat->Bool}(h:(H 0=true/\H 1=true)/\H 2=false/\H 3=true):Lds H 2 0:=
 Lds.step (i:=0) h.1.1 (by decide) (by decide) (Lds.step (st:=1) (i:=1) h.1.2 (by decide) (by decide) (Lds.whole (n:=2) h.2.2))
theorem Xu3{H:Nat->Bool}(h:(H 0=true/\H 1=true)/\H 2=false/\H 3=true){o:List Nat}(hs:XhQ H 2 0 o):o=[0,1]:=by
 obtain⟨z,hz⟩:∃z,z=0:=⟨_,rfl⟩
 rw[<-hz] at hs;cases hs with
 |nil=>exact absurd hz (by decide)
 | @cons _ i l hi hb hh hl=>
  subst hz;have hD:i=0:=by
   have:i=0\/i=1:=by omega
   rcases this with e|e
   ·exact e
   ·subst e;rw[show 0+2^1=2 from rfl,h.2.1] at hh;cases hh
  subst hD;obtain⟨z,hz⟩:∃z,z=0+2^0:=⟨_,rfl⟩
  rw[<-hz] at hl;cases hl with
  |nil=>exact absurd hz (by decide)
  | @cons _ j l hj hE hI hC=>
   subst hz;have hG:j=1:=by
    have:j=0\/j=1:=by omega
    rcases this with e|e
    ·subst e;exact absurd hE (by decide)
    ·exact e
   subst hG;obtain⟨z,hz⟩:∃z,z=0+2^0+2^1:=⟨_,rfl⟩
   rw[<-hz] at hC;cases hC with
   |nil=>rfl
   | @cons _ k l hk hH hJ hK=>
    subst hz;have:k=0\/k=1:=by omega
    rcases this with e|e<;>subst e<;>exact absurd hH (by decide)
def X1(n sb:Nat):Xf:={name:=⟨#[104]⟩,aH:=8000,aA:=⟨some ⟨sb,0,none⟩,1,[Xs n]⟩,aB:=⟨none,0,[]⟩}
theorem XjX(n sb:Nat):(X1 n sb).ok:=by
 refine⟨by simp[X1,maxLen,ByteArray.size],by simp[X1,I64],λs hs=> ?_,λr hr=>by simp[X1] at hr⟩;simp only[X1,List.mem_singleton] at hs;subst hs;exact Xi7 n
theorem XgH(n sb:Nat):Xv (X1 n sb)=true:=by kernel_rfl
def Xbz:Xq:=⟨⟨none,0,[]⟩,⟨none,0,[]⟩⟩
theorem XoV:Xbz.ok:=⟨λq hq=>by simp[Xbz] at hq,λp hp=>by simp[Xbz] at hp⟩
theorem Xrg:Jr Xbz=true:=by kernel_rfl
theorem Xpw(n sb:Nat):Xg2 (Xai (X1 n sb).pl Xbz.pl)=.tuple #[.string ⟨#[104,111,117,115,101,32,104,32,56,48,48,48,10,115,101,116,32,115,32,48,32,48,32,56,48,48,48,32,49,48,48,48,32,54,48,32,52,48,32,49,32,49,48,48,32,49,48,32,48,32,49,48,48,48,10,98,114,105,99,107,32,98,32,55,32,50,10]⟩,.int .i64 0]:=by kernel_rfl
theorem XrZ(n:Nat)(w:World)(hC:Xd.at_ w w.heap.size (Xs n)):Calls Tryz.prog 17 #[.agg #[.string (Xs n).name,.int .i64 (Xs n).depth,.int .i64 (Xs n).low,.int .i64 (Xs n).high,.int .i64 (Xs n).length,.slice (Xs n).aG.A (Xs n).aG.l.length (Xs n).aG.cap,.int .i64 (Xs n).aM,.int .i64 (Xs n).aN,.int .i64 (Xs n).aI,.int .i64 (Xs n).most,.int .i64 (Xs n).aJ,.slice (Xs n).aF.A (Xs n).aF.l.length (Xs n).aF.cap,.slice (Xs n).aE.A (Xs n).aE.l.length (Xs n).aE.cap]] w (Xc w (.tuple #[.int .i64 6,.int .i64 0])):=by
 have h:=XbG (Xs n) (Xi7 n) w w.heap.size nr hC;rw[YO (Xhk n),XrW] at h;exact h
def Xwb(w:World)(e:Ending)(w':World):Prop:=Below w.heap.size w w'/\∃b off cap,e=.returned (.tuple #[.slice (some ⟨b,off,none⟩) 2 cap,.int .i64 0])/\2<=cap/\cap<=maxLen/\∀j,j<[(0:Int),1].length->w'.cell? ⟨b,off+j,none⟩=some (.int .i64 ([(0:Int),1].getD j 0))
theorem XrX(n jb:Nat)(w:World)(hD:Xd.at_ w w.heap.size (Xs n))(hj:XA w w.heap.size 3 Yu.cells ⟨some ⟨jb,0,none⟩,2,XbO⟩):
 Calls Tryz.prog 19 #[.agg #[.string (Xs n).name,.int .i64 (Xs n).depth,.int .i64 (Xs n).low,.int .i64 (Xs n).high,.int .i64 (Xs n).length,.slice (Xs n).aG.A (Xs n).aG.l.length (Xs n).aG.cap,.int .i64 (Xs n).aM,.int .i64 (Xs n).aN,.int .i64 (Xs n).aI,.int .i64 (Xs n).most,.int .i64 (Xs n).aJ,.slice (Xs n).aF.A (Xs n).aF.l.length (Xs n).aF.cap,.slice (Xs n).aE.A (Xs n).aE.l.length (Xs n).aE.cap],.slice (some ⟨jb,0,none⟩) 2 2] w (Xwb w):=by
 have h:=XoP (Xs n) (Xi7 n) (some ⟨jb,0,none⟩) 2 XbO XrY w w.heap.size nr hD hj (by decide);refine h.mono ?_;rintro e w' ⟨hb,S,k,rfl,hS,hk⟩;rcases hk with ⟨rfl,-,-,o,ho,hs,-⟩|⟨rfl,-,-,-,hE⟩|⟨rfl,hC,-⟩
 ·have e1:=Xu3 (XtL n) hs;subst e1;obtain⟨A,cap,l⟩:=S;have hl:l=[0,1]:=ho;subst hl;obtain⟨b,off,hA,-,-⟩:=hS.2.2 (by simp);have hA:A=some ⟨b,off,none⟩:=hA;subst hA;exact⟨hb,b,off,cap,rfl,hS.1,hS.2.1,XqX hS (by simp)⟩
 ·exact absurd (XvK (XtL n)) hE
 ·rw[Xhk,Xme] at hC;cases hC
theorem Xpx(n sb:Nat)(w:World)(ht:J9 w)(hC:Xf.at_ w w.heap.size (X1 n sb)):
 Calls Tryz.prog 8 #[.agg #[.string (X1 n sb).name,.int .i64 (X1 n sb).aH,.slice (X1 n sb).aA.A (X1 n sb).aA.l.length (X1 n sb).aA.cap,.slice (X1 n sb).aB.A (X1 n sb).aB.l.length (X1 n sb).aB.cap],.agg #[.slice none 0 0,.slice none 0 0]] w (Xc w (.tuple #[.string ⟨#[104,111,117,115,101,32,104,32,56,48,48,48,10,115,101,116,32,115,32,48,32,48,32,56,48,48,48,32,49,48,48,48,32,54,48,32,52,48,32,49,32,49,48,48,32,49,48,32,48,32,49,48,48,48,10,98,114,105,99,107,32,98,32,55,32,50,10]⟩,.int .i64 0])):=by
 have h:=XmJ (X1 n sb) Xbz (XjX n sb) XoV (XgH n sb) Xrg (λq hq=>by simp[Xbz] at hq) w ht w.heap.size nr hC ⟨XA.nil,λq hq=>by simp[Xbz] at hq,XA.nil⟩ 67 (by decide) (by kernel_rfl);rw[Xpw] at h;exact h
theorem Xt6(w:World)(ht:J9 w):Calls Tryz.prog 4 #[] w (Xc w (.bool true)):=by
 have HT:=Xa ht;clear ht;go_enter Tryz.func4,Tryz.ntmps4;go_upto_region 1 with fail
 go_upto_region 2 with (first
  |(go_at_call 18;refine(XgG w).mono ?_;rintro e w1 ⟨rfl,hT,hI⟩)
  |(go_at_call 17;refine(Xc.first (XrZ _ w1 hI)).mono ?_;rintro e w' ⟨rfl,y1,rfl⟩))
 have hZ:=Xa (show Below w.heap.size w y1.val from hT.trans (y1.below.mono hT.size));obtain⟨Y,hY,pJ,pA,pB⟩:=boxed y1.val (.cells #[.string ⟨#[97]⟩,.bool false,.int .i64 16,.string ⟨#[98]⟩,.bool true,.int .i64 18] 60 (0,0));have pC:=Xa (show Below w.heap.size w Y from hZ.out.trans (pA.mono hZ.out.size));have HJ:=Xa (λ(x:World) (hb:Below Y.heap.size Y x)=>(show XA x x.heap.size 3 Yu.cells ⟨some ⟨y1.val.heap.size,0,none⟩,2,XbO⟩ from XA.whole XlW ((hb.block _ (by omega)).trans pB) rfl (by have:=hb.size;omega) (show 2<=maxLen by decide)));have HY:=Xa hY;clear hT hI hY pJ pA pB
 go_upto_region 3 with fail;rw[<-HY.out]
 go_upto_region 4 with (first
  |(go_at_call 18;refine(XgG Y).mono ?_;rintro e w2 ⟨rfl,hP,hJ⟩)
  |(go_at_call 19;refine(XrX _ _ w2 hJ (HJ.out w2 hP)).mono ?_;rintro e w3 ⟨pD,ob,oo,oc,rfl,pK,pL,hV⟩))
 have hQ:=Xa (show Below w.heap.size w w3 from pC.out.trans ((hP.trans (pD.mono hP.size)).mono pC.out.size));have pM:ob<w3.heap.size:=by
  have h:=hV 0 (by simp);rcases Nat.lt_or_ge ob w3.heap.size with h2|h2
  ·exact h2
  ·unfold World.cell? at h;simp only[Array.getElem?_eq_none h2] at h;cases h
 clear hP hJ pD;go_upto_region 5 with (go_at_call 18;refine(XgG w3).mono ?_;rintro e w4 ⟨rfl,hR,hK⟩)
 have hW:=hR.size;obtain⟨Z1,pE,hL,hC,hM⟩:=boxed w4 (.cells #[.string (Xs w3.heap.size).name,.int .i64 (Xs w3.heap.size).depth,.int .i64 (Xs w3.heap.size).low,.int .i64 (Xs w3.heap.size).high,.int .i64 (Xs w3.heap.size).length,.slice (Xs w3.heap.size).aG.A (Xs w3.heap.size).aG.l.length (Xs w3.heap.size).aG.cap,.int .i64 (Xs w3.heap.size).aM,.int .i64 (Xs w3.heap.size).aN,.int .i64 (Xs w3.heap.size).aI,.int .i64 (Xs w3.heap.size).most,.int .i64 (Xs w3.heap.size).aJ,.slice (Xs w3.heap.size).aF.A (Xs w3.heap.size).aF.l.length (Xs w3.heap.size).aF.cap,.slice (Xs w3.heap.size).aE.A (Xs w3.heap.size).aE.l.length (Xs w3.heap.size).aE.cap] 57)
 obtain⟨Z2,pF,hX,hD,hE⟩:=boxed Z1 (.cells #[.string ⟨#[104]⟩,.int .i64 8000,.slice (some ⟨w4.heap.size,0,none⟩) 1 1,.slice none 0 0] 25);have hH:Below w3.heap.size w3 Z2:=hR.trans ((hC.trans (hD.mono hC.size)).mono hR.size);have pG:Xf.at_ Z2 Z2.heap.size (X1 w3.heap.size w4.heap.size):=by
  refine⟨XA.whole (λ_=>rfl) ((hD.block _ (by omega)).trans hM) rfl (by omega) (show 1<=maxLen by decide),λs hs=> ?_,XA.nil⟩;simp only[X1,List.mem_singleton] at hs;subst hs;exact hK.to (hC.trans (hD.mono hC.size)) (by have:=hC.size;have:=hD.size;omega)
 have hN:(Z2.cell? ⟨w4.heap.size+1,0,none⟩=some (.string ⟨#[104]⟩)/\Z2.cell? ⟨w4.heap.size+1,0+1,none⟩=some (.int .i64 8000))/\Z2.cell? ⟨w4.heap.size+1,0+2,none⟩=some (.slice (some ⟨w4.heap.size,0,none⟩) 1 1)/\Z2.cell? ⟨w4.heap.size+1,0+3,none⟩=some (.slice none 0 0):=by
  rw[<-hL];exact⟨⟨Joins.cell_of_block hE 0,Joins.cell_of_block hE 1⟩,Joins.cell_of_block hE 2,Joins.cell_of_block hE 3⟩
 have KT:=Xa (Xc.first (Xpx w3.heap.size w4.heap.size Z2 (HT.out.below (hQ.out.trans (hH.mono hQ.out.size))) pG));have HZ:=Xa (show(w4.alloc (.cells #[.string (Xs w3.heap.size).name,.int .i64 (Xs w3.heap.size).depth,.int .i64 (Xs w3.heap.size).low,.int .i64 (Xs w3.heap.size).high,.int .i64 (Xs w3.heap.size).length,.slice (Xs w3.heap.size).aG.A (Xs w3.heap.size).aG.l.length (Xs w3.heap.size).aG.cap,.int .i64 (Xs w3.heap.size).aM,.int .i64 (Xs w3.heap.size).aN,.int .i64 (Xs w3.heap.size).aI,.int .i64 (Xs w3.heap.size).most,.int .i64 (Xs w3.heap.size).aJ,.slice (Xs w3.heap.size).aF.A (Xs w3.heap.size).aF.l.length (Xs w3.heap.size).aF.cap,.slice (Xs w3.heap.size).aE.A (Xs w3.heap.size).aE.l.length (Xs w3.heap.size).aE.cap] 57)).alloc (.cells #[.string ⟨#[104]⟩,.int .i64 8000,.slice (some ⟨w4.heap.size,0,none⟩) 1 1,.slice none 0 0] 25)=Z2 by rw[<-pE,<-pF])
 have hO:=Xa hH;clear pE hL hC hM pF hX hD hE pG hR hK hH hW;rw[HZ.out];go_upto_region 6 with (go_at_call 8;refine KT.out.mono ?_;rintro e w' ⟨rfl,y5,rfl⟩)
 obtain⟨U,hU,pN,pH,pI⟩:=boxed y5.val (.cells #[.int .i64 0,.int .i64 1] 3 (0,0));have hG:Below w3.heap.size w3 U:=hO.out.trans ((y5.below.trans (pH.mono y5.size)).mono hO.out.size)
 have KE:=Xa (Xc.first (Xr0 (w:=U) (b1:=ob) (o1:=oo) (c:=oc) (b2:=y5.val.heap.size) (o2:=0) (d:=2) [(0:Int),1] (by simp) (λj hj=>(hG.cell pM).trans (hV j hj)) (λj hj=>by
  rw[Nat.zero_add,Joins.cell_of_block pI];have:j=0\/j=1:=by simp at hj;omega
  rcases this with rfl|rfl<;>rfl)))
 simp only[List.length_cons,List.length_nil,Nat.zero_add,Nat.reduceAdd] at KE;have HE:=Xa (λz:Xb U.heap.size U=>(show Below w.heap.size w z.val from hQ.out.trans ((hG.trans (z.below.mono hG.size)).mono hQ.out.size)));have HU:=Xa hU;clear hU pN pH pI hG hN hV;go_wp2_with (go_at_call 20;rw[<-HU.out];refine KE.out.mono ?_;rintro e w' ⟨rfl,z,rfl⟩)
 go_ret;exact Xc.mk rfl (HE.out z)
end Go.Proofs.YtdcahhbipeaggaaGreatDoor
