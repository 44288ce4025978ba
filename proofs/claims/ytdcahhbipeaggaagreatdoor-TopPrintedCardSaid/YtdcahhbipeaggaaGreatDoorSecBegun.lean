/- Lemmas for TopPrinted: SecBegun. -/
import Derived.Test.YtdcahhbipeaggaaGreatDoorSecNum
import Derived.RegionTactic
import Derived.BigRegion
set_option maxRecDepth 100000
set_option maxHeartbeats 16000000
namespace Go.Proofs.YtdcahhbipeaggaaGreatDoor
open Go.RowKit
def Z5(d scale:Int)(m:Int)(i:Xu):Int:=max m ((d+i.front)/scale)
def Xe9(scale:Int)(m:Int)(s:Xd):Int:=s.aF.l.foldl (Z5 s.depth scale) (max m (s.depth/scale))
def JH(l:List Xd)(scale:Int):Int:=l.foldl (Xe9 scale) 0
theorem Xpv{l:List Xd}{k:Nat}{s:Xd}(scale:Int)(h:l[k]? =some s):JH (l.take (k+1)) scale=Xe9 scale (JH (l.take k) scale) s:=by
 rw[List.take_add_one,h];simp[JH,List.foldl_append]
theorem XjW{l:List Xu}{k:Nat}{i:Xu}(d scale m:Int)(h:l[k]? =some i):(l.take (k+1)).foldl (Z5 d scale) m=Z5 d scale ((l.take k).foldl (Z5 d scale) m) i:=by
 rw[List.take_add_one,h];simp[List.foldl_append]
structure Xjm(s:Xd):Prop where
 d0:0<=s.depth
 d1:s.depth<=1048576
 low:0<=s.low
 high:s.high<=1048576
 aF:∀i∈s.aF.l,(0<=i.hang/\i.hang<=1048576)/\(0<=i.front/\i.front<=1048576)/\(0<=i.back/\i.back<=1048576)
theorem Xcx{h:Xf}(hh:Xv h=true):∀s∈h.aA.l,Xjm s:=λs hs=>by
 have h2:=Xks hh hs;obtain⟨d0,d1,_,_⟩:=Xaj hh s hs;rw[X0] at h2;simp only[bae] at h2;obtain⟨_,_,lo,hi,_,_⟩:=Xcw.1 h2.1.1.1.1;rw[Xz] at lo hi;refine⟨d0,d1,lo.1,hi.2,λi hC=> ?_⟩;have h3:=h2.1.2;rw[YK,bae] at h3;obtain⟨j,hj,e⟩:=List.getElem_of_mem hC;have h4:=XJ.1 h3.2 j i (by rw[lgE hj,e]);rw[JE,bae] at h4;obtain⟨_,_,_,_,a,b,c⟩:=XaK.1 h4.1;rw[Xz] at a b c;exact⟨a,b,c⟩
theorem Xbg{d scale:Int}(hC:0<=d)(hD:d<=1048576)(hs:1<=scale):∀(l:List Xu) (m:Int),(∀i∈l,0<=i.front/\i.front<=1048576)->0<=m->m<=2097152->0<=l.foldl (Z5 d scale) m/\l.foldl (Z5 d scale) m<=2097152
 |[],m,_,a,b=>⟨a,b⟩
 |i::l,m,h,a,b=>by
  rw[List.foldl_cons];have hf:=h i (List.mem_cons_self ..);have q0:0<=(d+i.front)/scale:=Int.ediv_nonneg (by omega) (by omega);have q1:(d+i.front)/scale<=d+i.front:=Int.ediv_le_self _ (by omega);exact Xbg hC hD hs l _ (λi hi=>h i (List.mem_cons_of_mem _ hi)) (by unfold Z5;omega) (by unfold Z5;omega)
theorem Xmd{scale m:Int}{s:Xd}(hz:Xjm s)(hs:1<=scale)(a:0<=m)(b:m<=2097152):0<=Xe9 scale m s/\Xe9 scale m s<=2097152:=by
 have q0:0<=s.depth/scale:=Int.ediv_nonneg hz.d0 (by omega);have q1:s.depth/scale<=s.depth:=Int.ediv_le_self _ hz.d0;have:=hz.d1;exact Xbg hz.d0 hz.d1 hs _ _ (λi hi=>(hz.aF i hi).2.1) (by omega) (by omega)
theorem XeD{scale:Int}(hs:1<=scale):∀(l:List Xd) (m:Int),(∀s∈l,Xjm s)->0<=m->m<=2097152->0<=l.foldl (Xe9 scale) m/\l.foldl (Xe9 scale) m<=2097152
 |[],m,_,a,b=>⟨a,b⟩
 |s::l,m,h,a,b=>by
  obtain⟨c,d⟩:=Xmd (h s (List.mem_cons_self ..)) hs a b;exact XeD hs l _ (λt ht=>h t (List.mem_cons_of_mem _ ht)) c d
theorem Xhj{l:List Xd}{scale:Int}(hz:∀s∈l,Xjm s)(hs:1<=scale):0<=JH l scale/\JH l scale<=2097152:=XeD hs l 0 hz (by omega) (by omega)
theorem XjV{l:List Xd}{scale:Int}(hz:∀s∈l,Xjm s)(hs:1<=scale)(k:Nat):0<=JH (l.take k) scale/\JH (l.take k) scale<=2097152:=Xhj (λs h=>hz s (List.mem_of_mem_take h)) hs
def XL(pb:Nat)(scale R C:Int)(cs:Value)(w:World):Prop:=w.heap[pb]? =some (.cells #[.int .i64 scale,.int .i64 R,.int .i64 C,cs] 133 (0,0))
section
variable {pb:Nat} {scale R C:Int} {cs:Value} {w w':World} {B:Nat}
theorem XL.lt(h:XL pb scale R C cs w):pb<w.heap.size:=(agS h).1
theorem XL.below(h:XL pb scale R C cs w)(hb:Below B w w')(hB:pb<B):XL pb scale R C cs w':=(hb.block pb hB).trans h
theorem XL.of_block(h:XL pb scale R C cs w)(e:w'.heap[pb]? =w.heap[pb]?):XL pb scale R C cs w':=e.trans h
theorem XL.alloc(h:XL pb scale R C cs w)(o:Obj):XL pb scale R C cs (w.alloc o):=(Lib.alloc_old w o pb h.lt).trans h
theorem XL.cell0(h:XL pb scale R C cs w):w.cell? ⟨pb,0,none⟩=some (.int .i64 scale):=by rw[Lib.cell_of_heap h];rfl
theorem XL.cell1(h:XL pb scale R C cs w):w.cell? ⟨pb,1,none⟩=some (.int .i64 R):=by rw[Lib.cell_of_heap h];rfl
theorem XL.cell2(h:XL pb scale R C cs w):w.cell? ⟨pb,2,none⟩=some (.int .i64 C):=by rw[Lib.cell_of_heap h];rfl
theorem XL.cell3(h:XL pb scale R C cs w):w.cell? ⟨pb,3,none⟩=some cs:=by rw[Lib.cell_of_heap h];rfl
theorem XL.frozen(h:XL pb scale R C cs w)(j:Nat):w.frozen? ⟨pb,j,none⟩=false:=Lib.frozen_of_heap h j
theorem XL.setCols(h:XL pb scale R C cs w)(v:Int):XL pb scale R v cs (w.setCell ⟨pb,2,none⟩ (.int .i64 v)):=by
 unfold XL at*;simp[World.setCell,Array.getElem?_modify,h]
theorem XL.setCells(h:XL pb scale R C cs w)(v:Value):XL pb scale R C v (w.setCell ⟨pb,3,none⟩ v):=by
 unfold XL at*;simp[World.setCell,Array.getElem?_modify,h]
theorem XL.other(h:XL pb scale R C cs w){a:Addr}(ha:pb≠a.block)(v:Value):XL pb scale R C cs (w.setCell a v):=(Below.heap_setCell w a v pb ha).trans h
end
def YI(h:Xf)(scale:Int):Int:=h.aH/scale+1
def YJ(h:Xf)(scale:Int):Int:=JH h.aA.l scale+1
def XaZ(h:Xf)(scale:Int):Int:=if Xv h=true then(if 1<=scale/\scale<=1048576 then(if YI h scale<=200/\YJ h scale<=200 then 0 else 4) else 2) else 1
theorem Xf0{h:Xf}(hh:Xv h=true):1<=h.aH/\h.aH<=1048576:=by
 rw[Xv,bae] at hh;obtain⟨_,a,b,_,_⟩:=Zj.1 hh.1;exact⟨a,b⟩
def Xhx(h:Xf)(scale:Int)(w:World)(e:Ending)(w':World):Prop:=
 Below w.heap.size w w'/\∃pb,w.heap.size<=pb/\e=.returned (.tuple #[.pointer (some ⟨pb,0,none⟩),.int .i64 0])/\XL pb scale (YI h scale) (YJ h scale) (.slice none 0 0) w'
theorem Xsj(h:Xf)(hE:h.ok)(scale:Int)(hC:Yo h scale≠0)(w:World)(B:Nat)(hB:B<=w.heap.size)(hG:Xf.at_ w B h):
 Calls Tryz.prog 49 #[.agg #[.string h.name,.int .i64 h.aH,.slice h.aA.A h.aA.l.length h.aA.cap,.slice h.aB.A h.aB.l.length h.aB.cap],.int .i64 scale] w (Xc w (.tuple #[.pointer none,.int .i64 (Yo h scale)])):=by
 obtain⟨W,hW,hK,hD,hH⟩:=bxhs w h;have hc:=λy:Xb W.heap.size W=>Xf.boxed hH (by omega) y;have hI:=bdo hD;have hv:=Yf h hE W W.heap.size nr (hG.to (hD.mono hB) (by omega));have HV:=Xa hv;have HW:=Xa hW;have hJ:=Xa hI;clear hW hK hH hD hI hG hE hv;cases hh:Xv h
 ·have HE:=Xa (Xi2 (scale:=scale) hh);clear hC;go_enter Tryz.func49,Tryz.ntmps49;go_wp2_with (go_at_call 22;rw[<-HW.out];refine(Xc.first HV.out).mono ?_;rintro e w' ⟨rfl,y,rfl⟩)
  go_ret2;exact Xc.mk (by rw[HE.out];rfl) (hJ.out _)
 ·have hs:¬(1<=scale/\scale<=1048576):=λhs=>hC (XgF hh hs.1 hs.2);have HE:=Xa (Xf4 hh hs);have hL:scale<1\/1048576<scale:=by omega
  clear hs hC;rcases hL with hs|hs
  all_goals
   go_enter Tryz.func49,Tryz.ntmps49;go_wp2_with (go_at_call 22;rw[<-HW.out];refine(Xc.first HV.out).mono ?_;rintro e w' ⟨rfl,y,rfl⟩)
   go_ret2;exact Xc.mk (by rw[HE.out];rfl) (hJ.out _)
theorem Xla(h:Xf)(pJ:h.ok)(scale:Int)(h0:Yo h scale=0)(w:World)(B:Nat)(hB:B<=w.heap.size)(hU:Xf.at_ w B h):
 Calls Tryz.prog 49 #[.agg #[.string h.name,.int .i64 h.aH,.slice h.aA.A h.aA.l.length h.aA.cap,.slice h.aB.A h.aB.l.length h.aB.cap],.int .i64 scale] w (λe w'=>if YI h scale<=200/\YJ h scale<=200 then Xhx h scale w e w' else Xc w (.tuple #[.pointer none,.int .i64 4]) e w'):=by
 obtain⟨hh,hV,qX⟩:=Qk h0;obtain⟨qY,qD⟩:=Xf0 hh;have hz:=Xcx hh;obtain⟨q0,q1⟩:=Zs (show 0<=h.aH by omega) qD hV;obtain⟨W,hW,qE,pC,pK⟩:=bxhs w h;have hc:=λy:Xb W.heap.size W=>Xf.boxed pK (by omega) y;have pL:∀v:World,Below W.heap.size W v->Below w.heap.size w v:=λv hv=>pC.trans (hv.mono (by omega));have qZ:w.heap.size<=W.heap.size:=by omega
 have hE:Xf.at_ W W.heap.size h:=hU.to (pC.mono hB) (by omega);have hv:=Yf h pJ W W.heap.size nr hE;rw[hh] at hv;have rA:h.aA.l.length<=h.aA.cap:=hU.aA.1;have hm:h.aA.cap<=9223372036854775807:=hU.aA.2.1;have qF:=Xa hE.aA;have qG:=Xa hE.each;have HV:=Xa hv;have HZ:=Xa hz;have HW:=Xa hW;have pD:=Xa pL;have pM:=Xa λk=>XjV hz hV k;have rB:∀y:Xb W.heap.size W,w.heap.size<y.val.heap.size:=λy=>Nat.lt_of_lt_of_le (show w.heap.size<W.heap.size by omega) y.size;have hX:Hid (∀e w',(λe w'=>if YI h scale<=200/\YJ h scale<=200 then Xhx h scale w e w' else Xc w (.tuple #[.pointer none,.int .i64 4]) e w') e w'=(if h.aH/scale+1<=200/\JH h.aA.l scale+1<=200 then Xhx h scale w e w' else Xc w (.tuple #[.pointer none,.int .i64 4]) e w')):=λ_ _=>rfl
 generalize hO:(λe w'=>if YI h scale<=200/\YJ h scale<=200 then Xhx h scale w e w' else Xc w (.tuple #[.pointer none,.int .i64 4]) e w')=POST at*;clear hO hW qE pK pC pL hU hE pJ hv hz hh h0;unfold Xhx YI YJ at hX;obtain⟨name,aH,⟨A,cap,l⟩,aB⟩:=h;simp only at*;go_enter Tryz.func49,Tryz.ntmps49;go_wp2_with (go_at_call 22;rw[<-HW.out];refine(Xc.first HV.out).mono ?_;rintro e w' ⟨rfl,y,rfl⟩)
 obtain⟨pb,hY⟩:∃pb,pb=y.val.heap.size:=⟨_,rfl⟩
 have pN:W.heap.size<=pb:=by rw[hY];exact y.size
 have pO:=Xa (show XL pb scale (aH/scale+1) (JH (l.take 0) scale+1) (.slice none 0 0) (y.val.alloc (.cells #[.int .i64 scale,.int .i64 (aH/scale+1),.int .i64 1,.slice none 0 0] 133))/\Below W.heap.size W (y.val.alloc (.cells #[.int .i64 scale,.int .i64 (aH/scale+1),.int .i64 1,.slice none 0 0] 133)) from
  ⟨by rw[hY];exact heap_alloc_new y.val _,y.below.alloc y.size _⟩)
 rw[<-hY];clear hY;generalize y.val.alloc (.cells #[.int .i64 scale,.int .i64 (aH/scale+1),.int .i64 1,.slice none 0 0] 133)=w0 at*;go_loopw [8,33] (λ_ v wr=>∃k:Nat,v=.int .i64 k/\k<=l.length/\XL pb scale (aH/scale+1) (JH (l.take k) scale+1) (.slice none 0 0) wr/\Below W.heap.size W wr) (λ_ v _=>l.length-(intOf v).toNat)
 case atStart=>exact⟨0,rfl,Nat.zero_le _,pO.out⟩
 case round=>
  obtain⟨k,rfl,hk,hP,hG⟩:=hrel;clear pO;by_cases pE:k<l.length
  ·obtain⟨x,rfl⟩:∃x:Xb W.heap.size W,wr=x.val:=Xb.exists_iff hG;obtain⟨b,off,hA,hb,hN⟩:=qF.out.2.2 (show 0<l.length by omega);simp only at hA;subst hA;have hx:l[k]? =some l[k]:=lgE pE;have he:=λx:Xb W.heap.size W=>Xd.elem hx hb hN x;have hZ:=Xa (HZ.out l[k] (List.getElem_mem pE));have HX:=Xa hx;have d0:=hZ.out.d0;have d1:=hZ.out.d1;obtain⟨f0,f1⟩:=pM.out k;have qH:=Xa (Xpv scale hx);have pF:=Xa ((qG.out l[k] (List.getElem_mem pE)).aF);clear hN hx;obtain⟨e0,e1⟩:=Zs d0 d1 hV;have pP:pb<x.val.heap.size:=hP.lt;have pP:pb<x.val.heap.size:=hP.lt
   have pQ:=Xa λi hi=>(hZ.out.aF i hi).2.1;have qI:=Xa λ(il:List Xu) (m:Int) (h:∀i∈il,i∈l[k].aF.l) (a:0<=m) (b:m<=2097152)=>Xbg (d:=l[k].depth) d0 d1 hV il m (λi hi=>pQ.out i (h i hi)) a b;have qJ:=Xa (show Xe9 scale (JH (l.take k) scale) l[k]=l[k].aF.l.foldl (Z5 l[k].depth scale) (max (JH (l.take k) scale) (l[k].depth/scale)) from rfl);have rC:l[k].aF.l.length<=l[k].aF.cap:=pF.out.1;have qK:l[k].aF.cap<=9223372036854775807:=pF.out.2.1;clear hZ;generalize hH:JH (l.take k) scale=far at*;clear hH;generalize l[k]=s at*
   obtain⟨sname,depth,low,high,length,aG,aM,aN,aI,most,aJ,⟨IA,icap,il⟩,aE⟩:=s;simp only at*;obtain⟨W',pR,hQ,hI,hJ⟩:=boxed x.val (.cells #[.string sname,.int .i64 depth,.int .i64 low,.int .i64 high,.int .i64 length,.slice aG.A aG.l.length aG.cap,.int .i64 aM,.int .i64 aN,.int .i64 aI,.int .i64 most,.int .i64 aJ,.slice IA il.length icap,.slice aE.A aE.l.length aE.cap] 57);obtain⟨bx,hK⟩:∃bx,bx=x.val.heap.size:=⟨_,rfl⟩
   have qL:bx<W'.heap.size:=by omega
   have qM:pb<bx:=by omega
   have rD:W.heap.size<=bx:=by rw[hK];exact x.size
   rw[<-hK] at hJ hI hQ pP;have pA:XL pb scale (aH/scale+1) (far+1) (.slice none 0 0) W':=hP.below hI qM;have pS:=pA.cell2;have pT:=pA.frozen 2;have pU:=Xd.boxed (s:=⟨sname,depth,low,high,length,aG,aM,aN,aI,most,aJ,⟨IA,icap,il⟩,aE⟩) hJ qL (Xb.refl _ W');simp only[Xb.refl] at pU;have pV:=Xa pA;have pW:=Xa (x.below.trans (hI.mono (by omega)));have pX:=Xa hJ;have pY:=Xa pR;have qN:=Xa hK;clear pR hQ hI hJ pA hP hG hK;go_wp2;rw[<-pY.out,<-qN.out];go_region;go_wp2
   have pZ:=Xa (show XL pb scale (aH/scale+1) ((il.take 0).foldl (Z5 depth scale) (max far (depth/scale))+1) (.slice none 0 0) (W'.setCell ⟨pb,2,none⟩ (.int .i64 (max far (depth/scale)+1))).drew/\Below W.heap.size W (W'.setCell ⟨pb,2,none⟩ (.int .i64 (max far (depth/scale)+1))).drew/\(W'.setCell ⟨pb,2,none⟩ (.int .i64 (max far (depth/scale)+1))).drew.heap[bx]? =some (.cells #[.string sname,.int .i64 depth,.int .i64 low,.int .i64 high,.int .i64 length,.slice aG.A aG.l.length aG.cap,.int .i64 aM,.int .i64 aN,.int .i64 aI,.int .i64 most,.int .i64 aJ,.slice IA il.length icap,.slice aE.A aE.l.length aE.cap] 57 (0,0)) from
    ⟨pV.out.setCols _,(pW.out.setCell (p:=⟨pb,2,none⟩) pN _).drew,(Below.heap_setCell W' ⟨pb,2,none⟩ _ bx (by simp only;omega)).trans pX.out⟩)
   generalize (W'.setCell ⟨pb,2,none⟩ (.int .i64 (max far (depth/scale)+1))).drew=w2 at*;clear pU pS pT pV pW pX pY he hc;go_loopw [10,53] (λ_ v wr=>∃j:Nat,v=.int .i64 j/\j<=il.length/\XL pb scale (aH/scale+1) ((il.take j).foldl (Z5 depth scale) (max far (depth/scale))+1) (.slice none 0 0) wr/\Below W.heap.size W wr/\wr.heap[bx]? =some (.cells #[.string sname,.int .i64 depth,.int .i64 low,.int .i64 high,.int .i64 length,.slice aG.A aG.l.length aG.cap,.int .i64 aM,.int .i64 aN,.int .i64 aI,.int .i64 most,.int .i64 aJ,.slice IA il.length icap,.slice aE.A aE.l.length aE.cap] 57 (0,0))) (λ_ v _=>il.length-(intOf v).toNat)
   case atStart=>exact⟨0,rfl,Nat.zero_le _,pZ.out⟩
   case round=>
    obtain⟨j,rfl,hj,hP,hG,hL⟩:=hrel;clear pZ;by_cases qA:j<il.length
    ·obtain⟨x2,rfl⟩:∃x:Xb W.heap.size W,wr=x.val:=Xb.exists_iff hG;obtain⟨b2,off2,qB,qO,hC⟩:=pF.out.2.2 (show 0<il.length by omega);simp only at qB;subst qB;have pG:il[j]? =some il[j]:=lgE qA;have rE:=λx:Xb W.heap.size W=>Xu.elem pG qO hC x;obtain⟨g0,g1⟩:=pQ.out il[j] (List.getElem_mem qA);obtain⟨t0,t1⟩:=qI.out (il.take j) (max far (depth/scale)) (λi hi=>List.mem_of_mem_take hi) (by omega) (by omega);have qP:=Xa (XjW depth scale (max far (depth/scale)) pG);clear hC pG;have r0:0<=(depth+il[j].front)/scale:=Int.ediv_nonneg (by omega) (by omega)
     have r1:(depth+il[j].front)/scale<=depth+il[j].front:=Int.ediv_le_self _ (by omega);have pH:bx<x2.val.heap.size:=(agS hL).1;obtain⟨W3,qC,pI,hM,hR⟩:=boxed x2.val (.cells #[.string il[j].name,.int .i64 il[j].place,.int .i64 il[j].width,.int .i64 il[j].weight,.int .i64 il[j].hang,.int .i64 il[j].front,.int .i64 il[j].back] 86);have pB:XL pb scale (aH/scale+1) ((il.take j).foldl (Z5 depth scale) (max far (depth/scale))+1) (.slice none 0 0) W3:=hP.below hM (by omega);have pS:=pB.cell2;have pT:=pB.frozen 2;have hD:=(hM.block bx pH).trans hL
     have rF:W3.cell? ⟨bx,1,none⟩=some (.int .i64 depth):=by rw[Lib.cell_of_heap hD];rfl
     have rG:W3.cell? ⟨x2.val.heap.size,5,none⟩=some (.int .i64 il[j].front):=by rw[Lib.cell_of_heap hR];rfl
     have qQ:=Xa pB;have qR:=Xa (x2.below.trans (hM.mono x2.size));have qS:=Xa hD;have qT:=Xa qC;clear qC pI hM hR pB hP hG hL hD;generalize (il.take j).foldl (Z5 depth scale) (max far (depth/scale))=fj at*;go_wp2;rw[<-qT.out];go_region;go_wp2;exact⟨⟨j+1,by go_num,by omega,by rw[qP.out,Z5];exact qQ.out.setCols _,(qR.out.setCell (p:=⟨pb,2,none⟩) pN _).drew,(Below.heap_setCell W3 ⟨pb,2,none⟩ _ bx (by simp only;omega)).trans qS.out⟩,by simp[intOf];omega⟩
    ·have ej:j=il.length:=by omega
     subst ej;have qU:=Xa (show XL pb scale (aH/scale+1) (JH (l.take (k+1)) scale+1) (.slice none 0 0) wr by rw[qH.out,qJ.out];have:=hP;rwa [List.take_length] at this);have hT:=Xa hG;clear hP hG hL;go_wp2;exact⟨⟨k+1,by go_num,by omega,qU.out,hT.out⟩,by simp[intOf];omega⟩
  ·have ek:k=l.length:=by omega
   subst ek;rw[List.take_length] at hP;have HP:=Xa hP;have hT:=Xa hG;obtain⟨t0,t1⟩:=pM.out l.length;rw[List.take_length] at t0 t1;have c1:=hP.cell1;have c2:=hP.cell2;clear hP hG;generalize hH:JH l scale=far at*;have qV:=Xa hH;clear hH;by_cases hr:aH/scale+1<=200
   ·have g1:decide ((200:Int)<aH/scale+1)=false:=by simp;omega
    by_cases qW:far+1<=200
    ·have g2:decide ((200:Int)<far+1)=false:=by simp;omega
     go_wp2;rw[hX.out,if_pos ⟨hr,qW⟩];exact⟨pD.out _ hT.out,pb,by omega,rfl,HP.out⟩
    ·have g2:(200:Int)<far+1:=by omega
     go_wp2;rw[hX.out,if_neg (by omega)];exact Xc.mk rfl (pD.out _ hT.out)
   ·have g1:(200:Int)<aH/scale+1:=by omega
    go_wp2;rw[hX.out,if_neg (by omega)];exact Xc.mk rfl (pD.out _ hT.out)
end Go.Proofs.YtdcahhbipeaggaaGreatDoor
