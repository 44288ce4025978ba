/- Lemmas for TopPrinted: Draw. -/
import Derived.Test.YtdcahhbipeaggaaGreatDoorTabsP
set_option maxRecDepth 100000
set_option maxHeartbeats 16000000
namespace Go.Proofs.YtdcahhbipeaggaaGreatDoor
open Go.RowKit
theorem XlD{h:Xf}(hh:Xv h=true):∀s∈h.aA.l,Xud s:=λs hs i hi=>by
 have h2:=Xks hh hs;obtain⟨_,_,_,l1⟩:=Xaj hh s hs;rw[X0] at h2;simp only[bae] at h2;have h3:=h2.1.2;rw[YK,bae] at h3;obtain⟨j,hj,e⟩:=List.getElem_of_mem hi;have h4:=XJ.1 h3.2 j i (by rw[lgE hj,e]);rw[JE,bae] at h4;have:=Xdx h4.1 l1;omega
theorem Xpq:∀(m:Int),0<=m->m<=3->∀w,(Instr.index 9 (.string ⟨#[46,45,35,111]⟩) (.int .u8 m)).run Tryz.prog w=.ok (.int .u8 ((XiK m).toNat:Int)) w:=by
 intro m h0 h3 w;obtain rfl|rfl|rfl|rfl:m=0\/m=1\/m=2\/m=3:=by omega
 all_goals kernel_rfl
theorem Xr3(h:Xf)(pO:h.ok)(scale:Int)(h0:Yo h scale=0)(R C:Nat)(hR:ZI h.aA.l scale=(R:Int))(hC:ZZ h.aA.l scale=(C:Int))(rD:R<=400)(qH:C<=400)(w:World)(B:Nat)(hB:B<=w.heap.size)(pA:Xf.at_ w B h):
 Calls Tryz.prog 14 #[.agg #[.string h.name,.int .i64 h.aH,.slice h.aA.A h.aA.l.length h.aA.cap,.slice h.aB.A h.aB.l.length h.aB.cap],.int .i64 scale] w (Xc w (.tuple #[.string ⟨(Yy h.aA.l scale C R).toArray⟩,.int .i64 0])):=by
 obtain⟨hh,pE,pP⟩:=Qk h0;have hz:=Xaj hh;have hp:=XlD hh;obtain⟨W,hW,qI,pF,pQ⟩:=bxhs w h;have hc:=λy:Xb W.heap.size W=>Xf.boxed pQ (by omega) y;have pR:∀v:World,Below W.heap.size W v->Below w.heap.size w v:=λv hv=>pF.trans (hv.mono (by omega));have hD:Xf.at_ W W.heap.size h:=pA.to (pF.mono hB) (by omega);have hg:=XgE h pO scale W W.heap.size nr hD;rw[h0] at hg;have hsz:∀y:Xb W.heap.size W,Calls Tryz.prog 45 #[.agg #[.string h.name,.int .i64 h.aH,.slice h.aA.A h.aA.l.length h.aA.cap,.slice h.aB.A h.aB.l.length h.aB.cap],.int .i64 scale] y.val λe w''=>e=.returned (.tuple #[.int .i64 (R:Int),.int .i64 (C:Int)])/\∃z:Xb W.heap.size W,w''=z.val:=λy=>by
  have:=Xc.after nr (XmQ h hz scale pE pP y.val W.heap.size y.size (hD.to y.below nr));rw[hR,hC] at this;exact this
 have hH:∀s∈h.aA.l,∀v:World,Below W.heap.size W v->∀c:Nat,c<=400->Calls Tryz.prog 46 #[.agg #[.string s.name,.int .i64 s.depth,.int .i64 s.low,.int .i64 s.high,.int .i64 s.length,.slice s.aG.A s.aG.l.length s.aG.cap,.int .i64 s.aM,.int .i64 s.aN,.int .i64 s.aI,.int .i64 s.most,.int .i64 s.aJ,.slice s.aF.A s.aF.l.length s.aF.cap,.slice s.aE.A s.aE.l.length s.aE.cap],.int .i64 scale,.int .i64 (c:Int)] v (Xc v (.int .i64 (Xek s ((c:Int)*scale) (((c:Int)+1)*scale)))):=λs hs v hv c hc=>
  XsM s (hp s hs) scale c pE pP (by omega) (by omega) v W.heap.size hv.size ((hD.each s hs).to hv nr)
 have hQ:∀s∈h.aA.l,∃q:Nat,s.depth/scale=(q:Int)/\q<R:=λs hs=>by
  have h1:=XoB scale hs;obtain⟨d0,d1,_,_⟩:=hz s hs;obtain⟨q0,_⟩:=Zs d0 d1 pE;exact⟨(s.depth/scale).toNat,by omega,by omega⟩
 have qJ:=λv:World=>run_make_row' (P:=Tryz.prog) 123 78 (.slice none 0 0) 24 Tryz.underlying123 Xtp rfl .i64 .i64 R (by omega) (by omega) v;have qK:=λv:World=>run_make_row' (P:=Tryz.prog) 78 5 (.int .u8 0) 1 Tryz.underlying78 XrL rfl .i64 .i64 C (by omega) (by omega) v;have rE:h.aA.l.length<=h.aA.cap:=pA.aA.1;have hm:h.aA.cap<=9223372036854775807:=pA.aA.2.1;have qL:=Xa hD.aA;have HG:=Xa hg;have HS:=Xa hsz;have HK:=Xa hH;have HQ:=Xa hQ;have HZ:=Xa hz;have HW:=Xa hW;have qM:=Xa pR;clear hW qI pQ pF pR pA hD pO hg hsz hH hQ hp hz hh h0 hR hC
 obtain⟨name,aH,⟨A,cap,l⟩,aB⟩:=h;simp only at*;go_enter Tryz.func14,Tryz.ntmps14
 go_wp2_with (first
  |(go_at_call 44;rw[<-HW.out];refine(Xc.first HG.out).mono ?_;rintro e w' ⟨rfl,y,rfl⟩)
  |(go_at_call 45;refine(HS.out _).mono ?_;rintro e w' ⟨rfl,y,rfl⟩))
 obtain⟨n0,pG⟩:∃n0,n0=y.val.heap.size:=⟨_,rfl⟩
 have qN:=y.below;have qO:=y.size;have qP:W.heap.size<=n0:=by omega
 rw[<-pG];have HN:=Xa pG;clear pG;go_loopw [10,42] (λ_ v wr=>∃k:Nat,v=.int .i64 k/\k<=R/\XcW n0 R C k wr/\Below W.heap.size W wr) (λ_ v _=>R-(intOf v).toNat)
 case atStart=>exact⟨0,rfl,Nat.zero_le _,by rw[HN.out];exact XcW.start _ R C,qN.alloc qO _⟩
 case round=>
  obtain⟨k,rfl,hk,hM,hE⟩:=hrel;have hT:=hM.size;have rF:n0<wr.heap.size:=by omega
  clear hT;have HM:=Xa hM;have HB:=Xa hE;by_cases hN:k<R
  ·obtain⟨old,hold⟩:∃v,wr.cell? ⟨n0,k,none⟩=some v:=⟨_,hM.outer.cell hN⟩
   have rG:wr.frozen? ⟨n0,k,none⟩=false:=hM.outer.frozen k;clear hM hE;go_wp2;exact⟨⟨k+1,by go_num,by omega,HM.out.next,(HB.out.setCell (p:=⟨n0,k,none⟩) qP _).alloc (by have:=HB.out.size;simpa[World.setCell] using this) _⟩,by simp[intOf];omega⟩
  ·have ekR:R=k:=by omega
   subst ekR;have HP:=Xa hM.done;clear hM HM HB;obtain⟨x,rfl⟩:∃x:Xb W.heap.size W,wr=x.val:=Xb.exists_iff hE;clear hE;go_wp2;have qQ:=Xa (show QG n0 R C (λr c=>ZF (l.take 0) scale r c) x.val from HP.out);clear HP;have qR:Below W.heap.size W x.val:=x.below;generalize x.val=w0 at*;go_loopw [13,14,54] (λ_ _ v wr=>∃k:Nat,v=.int .i64 k/\k<=l.length/\QG n0 R C (λr c=>ZF (l.take k) scale r c) wr/\Below W.heap.size W wr) (λ_ _ v _=>l.length-(intOf v).toNat)
   case atStart=>exact⟨0,rfl,Nat.zero_le _,qQ.out,qR⟩
   case round=>
    obtain⟨k,rfl,hk,hP,hE⟩:=hrel;have HP:=Xa hP;by_cases hN:k<l.length
    ·obtain⟨x,rfl⟩:∃x:Xb W.heap.size W,wr=x.val:=Xb.exists_iff hE;clear hE;obtain⟨b,off,hA,hb,hJ⟩:=qL.out.2.2 (show 0<l.length by omega);simp only at hA;subst hA;have hx:l[k]? =some l[k]:=lgE hN;have he:=λx:Xb W.heap.size W=>Xd.elem hx hb hJ x;obtain⟨d0,d1,_,_⟩:=HZ.out l[k] (List.getElem_mem hN);obtain⟨q,hq,pB⟩:=HQ.out l[k] (List.getElem_mem hN);have HM:=Xa (λr c=>Xo5 scale r c hx);have qS:=Xa (HK.out l[k] (List.getElem_mem hN));have HX:=Xa hx;clear hJ hx;have pH:=hP.size;have rH:n0<x.val.heap.size:=by omega
     have rI:x.val.cell? ⟨n0,q,none⟩=some (.slice (some ⟨n0+1+q,0,none⟩) C C):=hP.outerCell pB;have rJ:(0:Int)<=(q:Int):=by omega
     have rK:(q:Int)<(R:Int):=by omega
     obtain⟨W',pS,pI,hL,hU⟩:=boxed x.val (.cells #[.string l[k].name,.int .i64 l[k].depth,.int .i64 l[k].low,.int .i64 l[k].high,.int .i64 l[k].length,.slice l[k].aG.A l[k].aG.l.length l[k].aG.cap,.int .i64 l[k].aM,.int .i64 l[k].aN,.int .i64 l[k].aI,.int .i64 l[k].most,.int .i64 l[k].aJ,.slice l[k].aF.A l[k].aF.l.length l[k].aF.cap,.slice l[k].aE.A l[k].aE.l.length l[k].aE.cap] 57);have pT:=Xa (show QG n0 R C (λr c=>if r=q/\c<0 then ZF (l.take (k+1)) scale r c else ZF (l.take k) scale r c) W'/\Below W.heap.size W W' from⟨(hP.below (hL.mono pH)).congr λr c _ _=>by simp,x.below.trans (hL.mono x.size)⟩)
     have qT:=Xa hU;have qU:=Xa pS;clear hP pS pI hL hU;go_wp2;rw[<-qU.out,hq];have pU:=Xa hq;clear hq;go_loopw [14,67] (λ_ v wr=>∃j:Nat,v=.int .i64 j/\j<=C/\QG n0 R C (λr c=>if r=q/\c<j then ZF (l.take (k+1)) scale r c else ZF (l.take k) scale r c) wr/\Below W.heap.size W wr/\wr.heap[x.val.heap.size]? =some (.cells #[.string l[k].name,.int .i64 l[k].depth,.int .i64 l[k].low,.int .i64 l[k].high,.int .i64 l[k].length,.slice l[k].aG.A l[k].aG.l.length l[k].aG.cap,.int .i64 l[k].aM,.int .i64 l[k].aN,.int .i64 l[k].aI,.int .i64 l[k].most,.int .i64 l[k].aJ,.slice l[k].aF.A l[k].aF.l.length l[k].aF.cap,.slice l[k].aE.A l[k].aE.l.length l[k].aE.cap] 57 (0,0))) (λ_ v _=>C-(intOf v).toNat)
     case atStart=>exact⟨0,rfl,Nat.zero_le _,pT.out.1,pT.out.2,qT.out⟩
     case round=>
      obtain⟨j,rfl,hj,hO,hV,hX⟩:=hrel;clear he;by_cases pJ:j<C
      ·have hK:x.val.heap.size<wr.heap.size:=(agS hX).1;have pK:=hO.size;have rL:wr.cell? ⟨x.val.heap.size,0,none⟩=some (.string l[k].name)/\wr.cell? ⟨x.val.heap.size,1,none⟩=some (.int .i64 l[k].depth)/\wr.cell? ⟨x.val.heap.size,2,none⟩=some (.int .i64 l[k].low)/\wr.cell? ⟨x.val.heap.size,3,none⟩=some (.int .i64 l[k].high)/\wr.cell? ⟨x.val.heap.size,4,none⟩=some (.int .i64 l[k].length)/\wr.cell? ⟨x.val.heap.size,5,none⟩=some (.slice l[k].aG.A l[k].aG.l.length l[k].aG.cap)/\wr.cell? ⟨x.val.heap.size,6,none⟩=some (.int .i64 l[k].aM)/\wr.cell? ⟨x.val.heap.size,7,none⟩=some (.int .i64 l[k].aN)/\wr.cell? ⟨x.val.heap.size,8,none⟩=some (.int .i64 l[k].aI)/\wr.cell? ⟨x.val.heap.size,9,none⟩=some (.int .i64 l[k].most)/\wr.cell? ⟨x.val.heap.size,10,none⟩=some (.int .i64 l[k].aJ)/\wr.cell? ⟨x.val.heap.size,11,none⟩=some (.slice l[k].aF.A l[k].aF.l.length l[k].aF.cap)/\wr.cell? ⟨x.val.heap.size,12,none⟩=some (.slice l[k].aE.A l[k].aE.l.length l[k].aE.cap):=Xd.boxed hX hK (Xb.refl _ wr)
       have rM:=λy:Xb wr.heap.size wr=>Xd.boxed hX hK y;have qV:wr.cell? ⟨n0+1+q,j,none⟩=some (.int .u8 (ZF (l.take k) scale q j)):=by have:=hO.cell pB pJ;simpa using this
       have qW:wr.frozen? ⟨n0+1+q,j,none⟩=false:=hO.frozen pB j;have rN:∀y:Xb wr.heap.size wr,y.val.cell? ⟨n0+1+q,j,none⟩=some (.int .u8 (ZF (l.take k) scale q j)):=λy=>(y.below.cell (by simp only;omega)).trans qV;have rO:∀y:Xb wr.heap.size wr,y.val.frozen? ⟨n0+1+q,j,none⟩=false:=λy=>(y.below.frozen (by simp only;omega)).trans qW;have pV:∀v:World,Below wr.heap.size wr v->Calls Tryz.prog 46 #[.agg #[.string l[k].name,.int .i64 l[k].depth,.int .i64 l[k].low,.int .i64 l[k].high,.int .i64 l[k].length,.slice l[k].aG.A l[k].aG.l.length l[k].aG.cap,.int .i64 l[k].aM,.int .i64 l[k].aN,.int .i64 l[k].aI,.int .i64 l[k].most,.int .i64 l[k].aJ,.slice l[k].aF.A l[k].aF.l.length l[k].aF.cap,.slice l[k].aE.A l[k].aE.l.length l[k].aE.cap],.int .i64 scale,.int .i64 (j:Int)] v λe w''=>e=.returned (.int .i64 (Xek l[k] ((j:Int)*scale) (((j:Int)+1)*scale)))/\∃y:Xb wr.heap.size wr,w''=y.val:=λv hv=>
        (Xc.after (x:=⟨v,hv⟩) nr (qS.out v (hV.trans (hv.mono hV.size)) j (by omega)))
       obtain⟨m0,m3⟩:=Xhd (l.take k) scale q j;obtain⟨r0,r3⟩:=Xg8 l[k] ((j:Int)*scale) (((j:Int)+1)*scale);have qX:=Xa (show ZF (l.take (k+1)) scale q j=max (ZF (l.take k) scale q j) (Xek l[k] ((j:Int)*scale) (((j:Int)+1)*scale)) by rw[HM.out,Jz,if_pos pU.out]);have qY:=Xa pV;have pW:=Xa hO;have pX:=Xa hV;have qZ:=Xa hX;clear pV hO hV hX pK;generalize ZF (l.take k) scale q j=mm at*;generalize Xek l[k] ((j:Int)*scale) (((j:Int)+1)*scale)=rr at*;go_wp2_with fail;go_region_with ((go_at_call 46;refine(qY.out _ (by first|exact brf.drew|exact Below.refl _ _)).mono ?_;rintro e w' ⟨rfl,y,rfl⟩))
       all_goals go_wp2
       all_goals
        refine⟨?_,by simp[intOf];omega⟩;refine⟨j+1,by go_num,by omega,((pW.out.below (y.below.mono pW.out.size)).set j pB _).congr λr c hr hc=> ?_,(pX.out.trans (y.below.mono pX.out.size)).setCell (by simp only;omega) _,?_⟩
        ·rw[<-qX.out];by_cases e1:r=q
         ·subst e1;by_cases e2:c=j
          ·subst e2;simp
          ·by_cases e3:c<j
           ·simp[e2,e3,show c<j+1 by omega]
           ·simp[e2,e3,show ¬c<j+1 by omega]
         ·simp[e1]
        ·rw[Below.heap_setCell _ _ _ _ (by simp only;omega),y.below.block _ hK];exact qZ.out
      ·have ejC:j=C:=by omega
       subst ejC;go_wp2;refine⟨⟨k+1,by go_num,by omega,hO.congr λr c _ hc=> ?_,hV⟩,by simp[intOf];omega⟩;by_cases e1:r=q
       ·simp[e1,hc]
       ·simp only[e1,false_and,if_false];rw[HM.out,Jz,if_neg (by rw[pU.out];omega)]
    ·have ekl:k=l.length:=by omega
     subst ekl;have pY:=Xa (show QG n0 R C (ZF l scale) wr by have:=HP.out;rwa [List.take_length] at this);have pH:=hP.size;clear hP HP;go_wp2;obtain⟨b,pL⟩:∃b,b=wr.heap.size:=⟨_,rfl⟩
     have pZ:Lib.IsBuilder 80 5 b b (Lib.byteCells (Yy l scale C 0)) (wr.alloc (.cells #[.pointer none,.slice none 0 0] 80)):=by rw[pL];exact Lib.fresh_isBuilder _ _ wr
     have pM:=Xa (And.intro pZ (show Below b wr (wr.alloc (.cells #[.pointer none,.slice none 0 0] 80)) from(Below.refl b wr).alloc (by omega) _));have pN:n0+1+R<=b:=by omega
     have qA:W.heap.size<=b:=by omega
     rw[<-pL];clear pZ pL pH;generalize wr.alloc (.cells #[.pointer none,.slice none 0 0] 80)=w1 at*;have qB:QG n0 R C (ZF l scale) w1:=pY.out.below (pM.out.2.mono pN);have qC:Below W.heap.size W w1:=hE.trans (pM.out.2.mono qA);have qD:=Xa qB;have rA:=Xa qC;clear pY hE qB qC;go_loopw [17,19,87] (λ_ _ v wr=>∃i:Nat,v=.int .i64 i/\i<=R/\Lib.IsBuilder 80 5 b b (Lib.byteCells (Yy l scale C i)) wr/\Below b w1 wr) (λ_ _ v _=>R-(intOf v).toNat)
     case atStart=>exact⟨0,rfl,Nat.zero_le _,pM.out.1,Below.refl _ _⟩
     case round=>
      obtain⟨i,rfl,hi,hI,pC⟩:=hrel;have HI:=Xa hI;have qE:=Xa pC;by_cases hit:i<R
      ·have rP:wr.cell? ⟨n0,i,none⟩=some (.slice (some ⟨n0+1+i,0,none⟩) C C):=(qD.out.below (pC.mono pN)).outerCell hit;clear hI pC;go_wp2;go_loopw [19,93] (λ_ v wr=>∃j:Nat,v=.int .i64 j/\j<=C/\Lib.IsBuilder 80 5 b b (Lib.byteCells (Yy l scale C i++Qr l scale i j)) wr/\Below b w1 wr) (λ_ v _=>C-(intOf v).toNat)
       case atStart=>exact⟨0,rfl,Nat.zero_le _,by simpa[Qr] using HI.out,qE.out⟩
       case round=>
        obtain⟨j,rfl,hj,pD,hG⟩:=hrel;have qF:=Xa pD;have hY:=Xa hG;have hlen:=Xiy l scale (C:=C) (i:=i) qH (by omega);have hlen2:=Xdi l scale i j;have hK:b<=wr.heap.size:=by
         rcases pD with h|h<;>exact Nat.le_of_lt h.lt
        have qG:=Xa (show(Lib.byteCells (Yy l scale C i++Qr l scale i j)).length+1<=140737488355328 by rw[Lib.byteCells_length,List.length_append];omega);clear hlen hlen2;by_cases pJ:j<C
        ·have rQ:wr.cell? ⟨n0+1+i,j,none⟩=some (.int .u8 (ZF l scale i j)):=(qD.out.below (hG.mono pN)).cell hit pJ;obtain⟨m0,m3⟩:=Xhd l scale i j;have rB:=Xpq (ZF l scale i j) m0 m3;have rC:=Xa (XlA l scale i j);clear pD hG;generalize ZF l scale i j=mm at*;go_wp2_with (go_at_call 47;refine(Xeg b b _ _ _ qF.out qG.out hK).mono ?_;rintro e w' ⟨rfl,hA,hZ⟩)
         exact⟨⟨j+1,by go_num,by omega,.inr (by rw[rC.out,<-List.append_assoc,Lib.byteCells_append];exact hA),hY.out.trans hZ⟩,by simp[intOf];omega⟩
        ·have ejC:j=C:=by omega
         subst ejC;clear pD hG;go_wp2_with (go_at_call 47;refine(Xeg b b _ _ _ qF.out qG.out hK).mono ?_;rintro e w' ⟨rfl,hA,hZ⟩)
         exact⟨⟨i+1,by go_num,by omega,.inr (by rw[Yy,Lib.byteCells_append];exact hA),hY.out.trans hZ⟩,by simp[intOf];omega⟩
      ·have eir:i=R:=by omega
       subst eir;have hK:b<=wr.heap.size:=by
        rcases hI with h|h<;>exact Nat.le_of_lt h.lt
       clear hI pC;go_wp2_with fail;refine(Xom b b _ _ HI.out hK).mono ?_;rintro e w' ⟨rfl,hZ⟩;go_wp2;go_ret2;exact Xc.mk rfl (qM.out _ (rA.out.trans ((qE.out.trans hZ).mono qA)))
theorem XtU(h:Xf)(hD:h.ok)(scale:Int)(h0:Yo h scale≠0)(w:World)(B:Nat)(hB:B<=w.heap.size)(hE:Xf.at_ w B h):
 Calls Tryz.prog 14 #[.agg #[.string h.name,.int .i64 h.aH,.slice h.aA.A h.aA.l.length h.aA.cap,.slice h.aB.A h.aB.l.length h.aB.cap],.int .i64 scale] w (Xc w (.tuple #[.string ⟨#[]⟩,.int .i64 (Yo h scale)])):=by
 obtain⟨W,hW,hI,hC,hG⟩:=bxhs w h;have hc:=λy:Xb W.heap.size W=>Xf.boxed hG (by omega) y;have hH:=bdo hC;have hg:=XgE h hD scale W W.heap.size nr (hE.to (hC.mono hB) (by omega));have HG:=Xa hg;have HW:=Xa hW;have hJ:=Xa hH;clear hW hI hG hC hH hE hD hg;have h1:(Yo h scale !=0)=true:=by rw[bne_iff_ne];exact h0
 clear h0;go_enter Tryz.func14,Tryz.ntmps14;go_wp2_with (go_at_call 44;rw[<-HW.out];refine(Xc.first HG.out).mono ?_;rintro e w' ⟨rfl,y,rfl⟩)
 go_ret2;exact Xc.mk rfl (hJ.out _)
theorem Xr4(h:Xf)(hE:h.ok)(scale:Int)(h0:Yo h scale=0)(hf:400<ZI h.aA.l scale\/400<ZZ h.aA.l scale)(w:World)(B:Nat)(hB:B<=w.heap.size)(hG:Xf.at_ w B h):
 Calls Tryz.prog 14 #[.agg #[.string h.name,.int .i64 h.aH,.slice h.aA.A h.aA.l.length h.aA.cap,.slice h.aB.A h.aB.l.length h.aB.cap],.int .i64 scale] w (Xc w (.tuple #[.string ⟨#[]⟩,.int .i64 4])):=by
 obtain⟨W,hW,hK,hD,hH⟩:=bxhs w h;have hc:=λy:Xb W.heap.size W=>Xf.boxed hH (by omega) y;have hI:=bdo hD;have hC:Xf.at_ W W.heap.size h:=hG.to (hD.mono hB) (by omega);have hg:=XgE h hE scale W W.heap.size nr hC;rw[h0] at hg;have hsz:∀y:Xb W.heap.size W,Calls Tryz.prog 45 #[.agg #[.string h.name,.int .i64 h.aH,.slice h.aA.A h.aA.l.length h.aA.cap,.slice h.aB.A h.aB.l.length h.aB.cap],.int .i64 scale] y.val λe w''=>e=.returned (.tuple #[.int .i64 (ZI h.aA.l scale),.int .i64 (ZZ h.aA.l scale)])/\∃z:Xb W.heap.size W,w''=z.val:=λy=>by
  obtain⟨a,b,c⟩:=Qk h0;exact Xc.after nr (XmQ h (Xaj a) scale b c y.val W.heap.size y.size (hC.to y.below nr))
 have HG:=Xa hg;have HS:=Xa hsz;have HW:=Xa hW;have hJ:=Xa hI;clear hW hK hH hD hI hG hC hE hg hsz h0;generalize ZI h.aA.l scale=r at*;generalize ZZ h.aA.l scale=c at*;by_cases h1:400<r
 ·clear hf;go_enter Tryz.func14,Tryz.ntmps14
  go_wp2_with (first
   |(go_at_call 44;rw[<-HW.out];refine(Xc.first HG.out).mono ?_;rintro e w' ⟨rfl,y,rfl⟩)
   |(go_at_call 45;refine(HS.out _).mono ?_;rintro e w' ⟨rfl,y,rfl⟩))
  go_ret2;exact Xc.mk rfl (hJ.out _)
 ·have h2:400<c:=by omega
  clear hf;go_enter Tryz.func14,Tryz.ntmps14
  go_wp2_with (first
   |(go_at_call 44;rw[<-HW.out];refine(Xc.first HG.out).mono ?_;rintro e w' ⟨rfl,y,rfl⟩)
   |(go_at_call 45;refine(HS.out _).mono ?_;rintro e w' ⟨rfl,y,rfl⟩))
  go_ret2;exact Xc.mk rfl (hJ.out _)
end Go.Proofs.YtdcahhbipeaggaaGreatDoor
