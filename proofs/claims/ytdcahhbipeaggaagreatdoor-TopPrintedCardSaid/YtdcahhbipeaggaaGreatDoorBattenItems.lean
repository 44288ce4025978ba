/- Lemmas for TopPrinted: BattenItems. -/
import Derived.Test.YtdcahhbipeaggaaGreatDoorTwice
import Derived.Test.YtdcahhbipeaggaaGreatDoorRefItems
set_option maxRecDepth 100000
set_option maxHeartbeats 16000000
namespace Go.Proofs.YtdcahhbipeaggaaGreatDoor
open Go.RowKit
theorem Xhu(x y:Xu):XbR x y=XbR y x:=by unfold XbR;rw[Bool.or_comm]
def Xb5(l:List Xu):Bool:=X8 (λi x=> !(l.take i).any (λy=>Xm y.name x.name)) l
theorem Xnv{l:List Xu}{len:Int}(h:Xb5 l=false):YK l len=false:=by
 cases ha:YK l len with
 |false=>rfl
 |true=>
  rw[YK,bae] at ha;rw[Xb5,Bool.eq_false_iff] at h;refine absurd (XJ.2 λj y hy=> ?_) h;have h1:=XJ.1 ha.2 j y hy;rw[JE,bae] at h1;rw[Bool.not_eq_true',List.any_eq_false] at*;intro z hz;have h2:=List.any_eq_false.1 (by simpa using h1.2) z hz;simp only[Xb6,Bool.or_eq_true,not_or] at h2;exact h2.1
theorem Xle{l:List Xu}{k:Nat}{x:Xu}(hn:Xb5 l=true)(hx:l[k]? =some x):(l.take k).any (Xb6 x)=(l.take k).any (λy=> !XbR x y):=by
 have h1:=XJ.1 hn k x hx;rw[Bool.not_eq_true',List.any_eq_false] at h1;rw[Bool.eq_iff_iff,List.any_eq_true,List.any_eq_true];constructor
 ·rintro⟨y,hy,hc⟩;refine⟨y,hy,?_⟩;have h2:=h1 y hy;rw[Xb6,Bool.or_eq_true] at hc;rcases hc with hc|hc
  ·exact absurd hc h2
  ·rw[Xhu];exact hc
 ·rintro⟨y,hy,hc⟩;refine⟨y,hy,?_⟩;rw[Xb6,Xhu,hc,Bool.or_true]
theorem Xs0{α:Type}{l:List α}{k:Nat}{e:α}(h:e∈l.take k):∃j,j<k/\l[j]? =some e:=by
 obtain⟨j,hj,e1⟩:=List.getElem_of_mem h;rw[List.length_take] at hj;exact⟨j,by omega,by rw[<-e1,List.getElem_take,lgE]⟩
theorem Xj3:∀args w,(callFunc 165 args).run Tryz.prog w=.ok (.enter 165 args) w:=XZ Tryz.func165 (by kernel_rfl) rfl
theorem Xpl(y x:Xu)(hy:Xfe y)(hx:Xfe x)(nb:Nat)(w:World)(hn:nb<w.heap.size)(hc:w.cell? ⟨nb,0,none⟩=some (.string x.name)/\w.cell? ⟨nb,1,none⟩=some (.int .i64 x.place)/\w.cell? ⟨nb,2,none⟩=some (.int .i64 x.width)/\w.cell? ⟨nb,3,none⟩=some (.int .i64 x.weight)/\w.cell? ⟨nb,4,none⟩=some (.int .i64 x.hang)/\w.cell? ⟨nb,5,none⟩=some (.int .i64 x.front)/\w.cell? ⟨nb,6,none⟩=some (.int .i64 x.back)):
 Calls Tryz.prog 165 #[.agg #[.string y.name,.int .i64 y.place,.int .i64 y.width,.int .i64 y.weight,.int .i64 y.hang,.int .i64 y.front,.int .i64 y.back],.pointer (some ⟨nb,0,none⟩)] w (Xc w (.bool (!XbR x y))):=by
 obtain⟨W,hW,hE,hC,hG⟩:=bxit w y;have hk:∀j,W.cell? ⟨nb,j,none⟩=w.cell? ⟨nb,j,none⟩:=λj=>hC.cell (p:=⟨nb,j,none⟩) hn;have hH:W.cell? ⟨nb,0,none⟩=some (.string x.name)/\W.cell? ⟨nb,1,none⟩=some (.int .i64 x.place)/\W.cell? ⟨nb,2,none⟩=some (.int .i64 x.width)/\W.cell? ⟨nb,3,none⟩=some (.int .i64 x.weight)/\W.cell? ⟨nb,4,none⟩=some (.int .i64 x.hang)/\W.cell? ⟨nb,5,none⟩=some (.int .i64 x.front)/\W.cell? ⟨nb,6,none⟩=some (.int .i64 x.back):=by
  simp only[hk];exact hc
 rw[hW] at hH;have HW:=Xa hW;have hD:=Xa hC;clear hW hE hG hk hC hc;go_enter Tryz.func165,Tryz.ntmps165;go_wp2_with fail;rw[<-HW.out];refine(Xc.first (Xsm x y hx hy W)).mono ?_;rintro e w' ⟨rfl,z,rfl⟩;go_wp2;go_ret;exact Xc.mk rfl (hD.out.trans (z.below.mono hD.out.size))
theorem XrE(A:Option Addr)(cap:Nat)(l:List Xu)(len:Int)(hV:0<=len)(hK:len<=1048576)(hO:∀r∈l,r.ok)(w:World)(B:Nat)(hB:B<=w.heap.size)(hs:XA w B 7 Xu.cells ⟨A,cap,l⟩):
 Calls Tryz.prog 116 #[.slice A l.length cap,.int .i64 len] w (Xc w (.bool (YK l len))):=by
 have hm:cap<=9223372036854775807:=hs.2.1;have pK:l.length<=cap:=hs.1;have hP:=Xjq A cap l hO w B hB hs;have hQ:=Xhn l (λx:Xu=>x.name);rw[show X8 (λi x=> !(l.take i).any (λy:Xu=>Xm y.name x.name)) l=Xb5 l from rfl] at hQ;rw[hQ] at hP;have hX:=Xa hP;have HS:=Xa hs;have pB:=Xa hO;clear hs hO hQ hP;by_cases hlen:40<(l.length:Int)
 ·have hR:=Xa (XlY (l:=l) (len:=len) hlen);go_enter Tryz.func116,Tryz.ntmps116;go_wp2;go_ret;exact Xc.mk (congrArg Value.bool hR.out.symm) brf
 ·cases hE:Xb5 l
  ·have hR:=Xa (Xnv (len:=len) hE);go_enter Tryz.func116,Tryz.ntmps116;go_wp2_with (go_at_call 161;refine(Xc.first hX.out).mono ?_;rintro e w' ⟨rfl,x,rfl⟩)
   go_ret;exact Xc.mk (congrArg Value.bool hR.out.symm) (Xb.below _)
  ·go_enter Tryz.func116,Tryz.ntmps116;go_wp2_with (go_at_call 161;refine(Xc.first hX.out).mono ?_;rintro e w' ⟨rfl,x,rfl⟩)
   go_loopw [16] (λv wr=>∃k:Nat,v=.int .i64 k/\k<=l.length/\Hid (YA (JE l len) l k)/\∃x:Xb w.heap.size w,wr=x.val) (λv _=>l.length-(intOf v).toNat)
   case atStart=>exact⟨0,rfl,Nat.zero_le _,YA.zero _ _,_,rfl⟩
   case round=>
    obtain⟨k,rfl,hk,hG,x,rfl⟩:=hrel;by_cases hY:k<l.length
    ·obtain⟨b,off,hA,hb,hD⟩:=HS.out.2.2 (show 0<l.length by omega);simp only at hA;subst hA;have hx:l[k]? =some l[k]:=lgE hY;have hT:=(pB.out l[k] (List.getElem_mem hY)).name;have he:=λx:Xb w.heap.size w=>Xu.elem hx (show b<w.heap.size by omega) hD x;have HX:=Xa hx;clear hD hx;obtain⟨W,hW,pC,pD,hZ⟩:=boxed x.val (.cells #[.string l[k].name,.int .i64 l[k].place,.int .i64 l[k].width,.int .i64 l[k].weight,.int .i64 l[k].hang,.int .i64 l[k].front,.int .i64 l[k].back] 86);have hc:=λy:Xb W.heap.size W=>Xu.boxed hZ (by omega) y;have hL:∀y:Xb W.heap.size W,Below w.heap.size w y.val:=λy=>x.below.trans ((pD.mono x.size).trans (y.below.mono (by have:=x.size;omega)))
     have hH:∀y:Xb W.heap.size W,x.val.heap.size<y.val.heap.size:=λy=>by have:=y.size;omega
     have hI:∀y:Xb W.heap.size W,∀z:Xb y.val.heap.size y.val,z.val.cell? ⟨x.val.heap.size,0,none⟩=some (.string l[k].name)/\z.val.cell? ⟨x.val.heap.size,1,none⟩=some (.int .i64 l[k].place)/\z.val.cell? ⟨x.val.heap.size,2,none⟩=some (.int .i64 l[k].width)/\z.val.cell? ⟨x.val.heap.size,3,none⟩=some (.int .i64 l[k].weight)/\z.val.cell? ⟨x.val.heap.size,4,none⟩=some (.int .i64 l[k].hang)/\z.val.cell? ⟨x.val.heap.size,5,none⟩=some (.int .i64 l[k].front)/\z.val.cell? ⟨x.val.heap.size,6,none⟩=some (.int .i64 l[k].back):=λy z=>by
      have hk:∀j,z.val.cell? ⟨x.val.heap.size,j,none⟩=y.val.cell? ⟨x.val.heap.size,j,none⟩:=λj=>z.below.cell (p:=⟨x.val.heap.size,j,none⟩) (hH y);simp only[hk];exact hc y
     have pA:∀y:Xb W.heap.size W,XA y.val y.val.heap.size 7 Xu.cells ⟨some ⟨b,off,none⟩,cap,l.take k⟩:=λy=>(HS.out.to ((hL y).mono hB) (Nat.le_trans hB (hL y).size)).take k;have hC:∀e∈l.take k,Xfe e:=λe he=>by
      obtain⟨j,hj,pE⟩:=Xs0 he;have:=hG.out j e hj pE;rw[JE,bae] at this;exact Xc4 this.1 hK
     have HW:=Xa hW;have hU:=Xa hI;have pF:=Xa hH;have pG:=Xa pA;have hM:=Xa hL;have pH:=Xa hC;clear hW pC hZ hI hH pA hL hC;cases hJ:Xb7 l[k]
     ·go_wp2_with (first
       |(go_at_call 163;rw[<-HW.out];refine(Xc.first (XgU _ hT _)).mono ?_;rintro e w' ⟨rfl,y,rfl⟩))
      go_ret;exact Xc.mk (congrArg Value.bool (Xe3 HX.out (by rw[JE,Qj,hJ];rfl)).symm) (hM.out _)
     ·cases hN:Qi l[k] len
      ·go_wp2_with (first
        |(go_at_call 163;rw[<-HW.out];refine(Xc.first (XgU _ hT _)).mono ?_;rintro e w' ⟨rfl,y,rfl⟩)
        |(go_at_call 164;refine(Xc.after nr (XiR _ _ hV hK _)).mono ?_;rintro e w' ⟨rfl,y,rfl⟩))
       go_ret;exact Xc.mk (congrArg Value.bool (Xe3 HX.out (by rw[JE,Qj,hJ,hN];rfl)).symm) (hM.out _)
      ·have pI:Xfe l[k]:=Xc4 (show Qj l[k] len=true by rw[Qj,hJ,hN];rfl) hK;cases hd:(l.take k).any (λy=> !XbR l[k] y)
       all_goals
        go_wp2_with (first
         |(go_at_call 163;rw[<-HW.out];refine(Xc.first (XgU _ hT _)).mono ?_;rintro e w' ⟨rfl,y,rfl⟩)
         |(go_at_call 164;refine(Xc.after nr (XiR _ _ hV hK _)).mono ?_;rintro e w' ⟨rfl,y,rfl⟩)
         |(go_at_call 97
           have c:=Xcd (some ⟨b,off,none⟩) cap (l.take k) (λy=> !XbR l[k] y) 165 #[.pointer (some ⟨x.val.heap.size,0,none⟩)] Xj3 y.val y.val.heap.size nr (pG.out y)
            (λz e pJ=>by rw[XcA];exact Xpl e l[k] (pH.out e pJ) pI _ z.val (Nat.lt_of_lt_of_le (pF.out y) z.size) (hU.out y z))
           rw[show(l.take k).length=k by rw[List.length_take];omega] at c;refine(Xc.after nr c).mono ?_;clear c
           rintro e w' ⟨rfl,y,rfl⟩))
       ·exact⟨⟨k+1,by go_num,by omega,hG.out.next HX.out (by rw[JE,Qj,hJ,hN,Xle hE HX.out,hd];rfl),⟨_,hM.out _⟩,rfl⟩,by simp[intOf];omega⟩
       ·go_ret;exact Xc.mk (congrArg Value.bool (Xe3 HX.out (by rw[JE,Qj,hJ,hN,Xle hE HX.out,hd];rfl)).symm) (hM.out _)
    ·go_wp2;go_ret;exact Xc.mk (congrArg Value.bool (Xnu (by omega) (by have:k=l.length:=(by omega);subst this;exact hG.out)).symm) x.below
end Go.Proofs.YtdcahhbipeaggaaGreatDoor
