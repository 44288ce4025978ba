/- Lemmas for TopPrinted: IntsIn, ProfTop, ProfCurve, Buf. -/
import Derived.Test.YtdcahhbipeaggaaGreatDoorCueFind
import Derived.Lib.Builder
import Derived.Lib.Walk
import Derived.Lib.AppendStr
import Derived.Lib.UnsafeStr
set_option maxRecDepth 100000
set_option maxHeartbeats 16000000
namespace Go.Proofs.YtdcahhbipeaggaaGreatDoor
open Go.RowKit
def YW(w:World)(g cap:Nat)(l:List Int):Prop:=∃cur:Array Value,w.heap[g]? =some (.cells cur 3 (0,0))/\l.length<=cap/\cap<=maxLen/\cur.size=cap/\cur.toList.take l.length=l.map (Value.int .i64)
theorem YW.get{w:World}{g cap:Nat}{l:List Int}(h:YW w g cap l){k:Nat}{x:Int}(hx:l[k]? =some x):w.cell? ⟨g,k,none⟩=some (.int .i64 x):=by
 obtain⟨cur,h1,h2,h3,h4,h5⟩:=h;have hk:=(lgS hx).1;have h6:=congrArg (λq=>q[k]?) h5;simp only[List.getElem?_take_of_lt hk,List.getElem?_map,hx,Option.map_some] at h6;rw[Lib.cell_of_heap h1,<-Array.getElem?_toList,h6]
theorem YW.slAt{w:World}{g cap:Nat}{l:List Int}(h:YW w g cap l):XA w w.heap.size 1 Xj ⟨some ⟨g,0,none⟩,cap,l⟩:=by
 have hg:g<w.heap.size:=by obtain⟨cur,h1,_⟩:=h;exact(agS h1).1
 have hl:=h;obtain⟨cur,h1,h2,h3,_⟩:=hl;refine⟨h2,h3,λ_=>⟨g,0,rfl,hg,λi x hx j u hu=> ?_⟩⟩;cases j with
 |zero=>simp[Xj] at hu;subst hu;simpa using h.get hx
 |succ j=>simp[Xj] at hu
theorem YW.lt{w:World}{g cap:Nat}{l:List Int}(h:YW w g cap l):g<w.heap.size:=by obtain⟨cur,h1,_⟩:=h;exact(agS h1).1
theorem YW.frozen{w:World}{g cap:Nat}{l:List Int}(h:YW w g cap l)(i:Nat):w.frozen? ⟨g,i,none⟩=false:=by obtain⟨cur,h1,_⟩:=h;exact(by simp[World.frozen?,h1])
theorem YW.below{w w':World}{g cap B:Nat}{l:List Int}(h:YW w g cap l)(hg:g<B)(hb:Below B w w'):YW w' g cap l:=by
 obtain⟨cur,h1,h2⟩:=h;exact⟨cur,(hb.block g hg).trans h1,h2⟩
theorem YW.set{w:World}{g cap:Nat}{l:List Int}(h:YW w g cap l)(i:Nat)(v:Int):YW (w.setCell ⟨g,i,none⟩ (.int .i64 v)) g cap (l.set i v):=by
 obtain⟨cur,h1,h2,h3,h4,h5⟩:=h;refine⟨_,Joins.block_setCell h1 _,by simpa using h2,h3,by simpa using h4,?_⟩;rw[List.length_set,Array.toList_setIfInBounds,List.take_set,h5,List.map_set]
theorem Xsb(trims:Sl Int)(hE:0<trims.l.length)(hl:trims.l.length<=1000)(w:World)(h:XA w w.heap.size 1 Xj trims):
 Calls Tryz.prog 100 #[.slice trims.A trims.l.length trims.cap] w λe w'=>∃g cap,e=.returned (.slice (some ⟨g,0,none⟩) trims.l.length cap)/\w.heap.size<=g/\YW w' g cap trims.l/\Below w.heap.size w w':=by
 obtain⟨A,c,l⟩:=trims;simp only at hE hl ⊢;obtain⟨b,off,hA,hb,hc⟩:=h.2.2 hE;simp only at hA hc;subst hA;refine(Tryz.slices_Clone_int b off l.length c l w nr (by omega) (λj hj=> ?_)).mono ?_
 ·have:=hc j (l.getD j 0) (by rw[List.getD_eq_getElem?_getD,lgE hj];rfl) 0 _ rfl;simpa using this
 ·rintro e w' ⟨v',rfl,hC,hK,hG⟩;rcases hC.2 with ⟨h1,h2⟩|⟨g,cap,cur,rfl,hg,hh,hH,hD,hI,hJ⟩
  ·exact absurd h2 (by omega)
  ·exact⟨g,cap,rfl,hg,⟨cur,hh,hH,hD,by simpa using hI,by simpa using hJ⟩,hG⟩
end Go.Proofs.YtdcahhbipeaggaaGreatDoor
namespace Go.Proofs.YtdcahhbipeaggaaGreatDoor
open Go.RowKit
def XaX(d r f lo hi:Nat):Nat:=
 if h:lo<hi then
  if (lo+hi+1)/2*((lo+hi+1)/2)*(r+f)<=2*d*r*f then XaX d r f ((lo+hi+1)/2) hi else XaX d r f lo ((lo+hi+1)/2-1)
 else lo
 termination_by hi-lo
theorem XmI(d r f:Nat):∀(k lo hi:Nat),hi-lo=k->lo<=hi->lo<=XaX d r f lo hi/\XaX d r f lo hi<=hi:=by
 intro k;induction k using Nat.strongRecOn with
 |_ k ih=>
  intro lo hi hk hC;unfold XaX;split
  ·rename_i h
   split
   ·have:=ih (hi-(lo+hi+1)/2) (by omega) _ hi rfl (by omega);omega
   ·have:=ih ((lo+hi+1)/2-1-lo) (by omega) lo _ rfl (by omega);omega
  ·omega
theorem XqB(d r f:Nat)(h1:r+f<=2*d*r*f):∀(k lo hi:Nat),hi-lo=k->lo<=hi->1<=hi->1<=XaX d r f lo hi:=by
 intro k;induction k using Nat.strongRecOn with
 |_ k ih=>
  intro lo hi hk hC h2;rcases Nat.eq_zero_or_pos lo with rfl|hD
  ·unfold XaX;rw[dif_pos (show 0<hi by omega)];split
   ·exact ih (hi-(0+hi+1)/2) (by omega) _ hi rfl (by omega) h2
   ·rename_i hn
    have hw:(0+hi+1)/2≠1:=λe=>hn (by rw[e];omega);exact ih ((0+hi+1)/2-1-0) (by omega) 0 _ rfl (by omega) (by omega)
  ·exact Nat.le_trans hD (XmI d r f k lo hi hk hC).1
def Xgs(d:Nat)(m:Xw):Nat:=if d=0 then 0 else XaX d m.rise.toNat m.fall.toNat 0 m.aK.toNat
theorem Qf{m:Xw}:QI m=true↔XF m.set=true/\(-1048576<=m.to/\m.to<=1048576)/\(1<=m.aK/\m.aK<=8192)/\(1<=m.rise/\m.rise<=16384)/\(1<=m.fall/\m.fall<=16384):=by
 simp only[QI,bae,Xz,and_assoc]
theorem XeO{d:Nat}{m:Xw}(hm:QI m=true)(hd:0<d):1<=Xgs d m/\Xgs d m<=8192:=by
 obtain⟨-,-,h3,h4,h5⟩:=Qf.1 hm;unfold Xgs;rw[if_neg (by omega)];refine⟨XqB d _ _ ?_ _ 0 _ rfl (by omega) (by omega),by have:=(XmI d m.rise.toNat m.fall.toNat _ 0 m.aK.toNat rfl (by omega)).2;omega⟩;obtain⟨r,hr⟩:∃r,r=m.rise.toNat:=⟨_,rfl⟩
 obtain⟨f,hf⟩:∃f,f=m.fall.toNat:=⟨_,rfl⟩
 rw[<-hr,<-hf];have hC:1<=r:=by omega
 have hD:1<=f:=by omega
 have e1:r<=d*r*f:=by
  calc r=1*r*1:=by omega
   _<=d*r*f:=Nat.mul_le_mul (Nat.mul_le_mul hd nr) hD
 have e2:f<=d*r*f:=by
  calc f=1*1*f:=by omega
   _<=d*r*f:=Nat.mul_le_mul (Nat.mul_le_mul hd hC) nr
 calc r+f<=d*r*f+d*r*f:=by omega
  _=2*d*r*f:=by rw[Nat.mul_assoc,Nat.mul_assoc,Nat.mul_assoc];omega
theorem Xuq(d:Nat)(m:Xw)(hm:QI m=true)(hd:d<=1048576)(w:World):Calls Tryz.prog 242 #[.int .i64 (d:Int),.agg #[.string m.set,.int .i64 m.to,.int .i64 m.aK,.int .i64 m.rise,.int .i64 m.fall]] w (Xc w (.int .i64 (Xgs d m:Nat))):=by
 obtain⟨-,-,h3,h4,h5⟩:=Qf.1 hm;obtain⟨W,hW,hR,hK,hL⟩:=bxmv w m;have hc:=λy:Xb W.heap.size W=>Xw.boxed hL (by omega) y;have hM:=bdo hK;have hU:=hc (Xb.refl _ _);simp only[Xb.refl] at hU;have HW:=Xa hW;have hN:=Xa hM;clear hW hR hK hL hM hm;by_cases hO:d=0
 ·subst hO;have e:Xgs 0 m=0:=rfl;rw[e];go_enter Tryz.func242,Tryz.ntmps242;go_upto_region 1 with fail;rw[<-HW.out,show W=(Xb.refl W.heap.size W).val from rfl];refine Xk (Xb.refl W.heap.size W) (by kernel_rfl) (by kernel_rfl) ?_
  repeat (go_big_quiet_step (fail))
  refine wpQuiet_nil ?_;intro z;go_wp2;go_ret;exact Xc.mk rfl (hN.out z)
 have e:Xgs d m=XaX d m.rise.toNat m.fall.toNat 0 m.aK.toNat:=by rw[Xgs,if_neg hO]
 rw[e];obtain⟨s,hs⟩:∃s,s=m.aK.toNat:=⟨_,rfl⟩
 obtain⟨r,hr⟩:∃s,s=m.rise.toNat:=⟨_,rfl⟩
 obtain⟨f,hf⟩:∃s,s=m.fall.toNat:=⟨_,rfl⟩
 have es:m.aK=(s:Int):=by omega
 have er:m.rise=(r:Int):=by omega
 have ef:m.fall=(f:Int):=by omega
 rw[<-hs,<-hr,<-hf];simp only[es,er,ef] at*;clear hs hr hf e es er ef;have hX:((d:Int)==0)=false:=by simp;omega
 have hY:¬(d:Int)=0:=by omega
 obtain⟨T,hT⟩:∃T,T=XaX d r f 0 s:=⟨_,rfl⟩
 rw[<-hT];go_enter Tryz.func242,Tryz.ntmps242;go_upto_region 1 with fail;rw[<-HW.out,show W=(Xb.refl W.heap.size W).val from rfl];refine Xk (Xb.refl W.heap.size W) (by kernel_rfl) (by kernel_rfl) ?_
 repeat (go_big_quiet_step (fail))
 refine wpQuiet_nil ?_;intro z;have HT:=Xa hT;clear hT;go_wp2_with fail;go_loopw [5,6] (λu v wr=>∃lo hi:Nat,u=.int .i64 lo/\v=.int .i64 hi/\lo<=hi/\hi<=s/\Hid (T=XaX d r f lo hi)/\∃x:Xb W.heap.size W,wr=x.val) (λu v _=>(intOf v).toNat-(intOf u).toNat)
 case atStart=>exact⟨0,s,rfl,rfl,Nat.zero_le _,Nat.le_refl _,HT,z,rfl⟩
 case round=>
  obtain⟨lo,hi,rfl,rfl,hZ,hV,hP,x,rfl⟩:=hrel;have pA:=hc x;by_cases hQ:lo<hi
  ·obtain⟨q,hq⟩:∃q,q=(lo+hi+1)/2:=⟨_,rfl⟩
   have eq1:((lo:Int)+(hi:Int)+1).tdiv 2=(q:Int):=by rw[hq,Int.tdiv_eq_ediv_of_nonneg (by omega)];omega
   have eq2:((lo:Int)+(hi:Int)+1)/2=(q:Int):=by rw[hq];omega
   have pB:lo<q/\q<=hi:=by omega
   obtain⟨P1,hG⟩:∃P,P=q*q:=⟨_,rfl⟩
   have b1:P1<=8192*8192:=by rw[hG];exact Nat.mul_le_mul (by omega) (by omega)
   obtain⟨P2,hH⟩:∃P,P=P1*(r+f):=⟨_,rfl⟩
   have b2:P2<=8192*8192*32768:=by rw[hH];exact Nat.mul_le_mul b1 (by omega)
   obtain⟨P3,hI⟩:∃P,P=2*d*r:=⟨_,rfl⟩
   have b3:P3<=2*1048576*16384:=by rw[hI];exact Nat.mul_le_mul (by omega) (by omega)
   obtain⟨P4,hJ⟩:∃P,P=P3*f:=⟨_,rfl⟩
   have b4:P4<=2*1048576*16384*16384:=by rw[hJ];exact Nat.mul_le_mul b3 (by omega)
   have m1:(q:Int)*(q:Int)=(P1:Int):=by rw[hG,Int.natCast_mul]
   have m2:(P1:Int)*((r:Int)+(f:Int))=(P2:Int):=by rw[hH];push_cast;rfl
   have m3:2*(d:Int)*(r:Int)=(P3:Int):=by rw[hI];push_cast;rfl
   have m4:(P3:Int)*(f:Int)=(P4:Int):=by rw[hJ];push_cast;rfl
   have hC:T=if P2<=P4 then XaX d r f q hi else XaX d r f lo (q-1):=by
    rw[hP.out]
    conv=>lhs;unfold XaX
    rw[dif_pos hQ,<-hq,<-hG,<-hH,<-hI,<-hJ]
   have hD:=Xa hC;clear hC hG hH hI hJ hq;by_cases hE:P2<=P4
   ·go_wp2;exact⟨⟨q,hi,rfl,rfl,by omega,hV,Xa (by rw[hD.out,if_pos hE]),x,rfl⟩,by simp[intOf];omega⟩
   ·go_wp2;exact⟨⟨lo,q-1,rfl,by go_num,by omega,by omega,Xa (by rw[hD.out,if_neg hE]),x,rfl⟩,by simp[intOf];omega⟩
  ·have e:T=lo:=by
    rw[hP.out];unfold XaX;rw[dif_neg hQ]
   have e:=Xa e;go_wp2;go_ret;exact Xc.mk (by rw[e.out];rfl) (hN.out x)
theorem XjA(d:Nat)(m:Xw)(hm:QI m=true)(hs:m.set.size<=maxLen)(hd:d<=1048576)(w:World):Calls Tryz.prog 241 #[.int .i64 (d:Int),.agg #[.string m.set,.int .i64 m.to,.int .i64 m.aK,.int .i64 m.rise,.int .i64 m.fall]] w (Xc w (.int .i64 0)):=by
 obtain⟨W,hW,hG,hC,hD⟩:=bxmv w m;have hc:=λy:Xb W.heap.size W=>Xw.boxed hD (by omega) y;have hE:=bdo hC;have hH:=hc (Xb.refl _ _);simp only[Xb.refl] at hH;have K1:=Xa (λy:Xb W.heap.size W=>Xc.after (x:=y) nr (Xel m hs y.val));have K2:=Xa (λy:Xb W.heap.size W=>Xc.after (x:=y) nr (Xdk (d:Int) 0 1048576 y.val));rw[hm] at K1;rw[show Xg (d:Int) 0 1048576=true from Xz.2 ⟨by omega,by omega⟩] at K2;have HW:=Xa hW;have hI:=Xa hE
 clear hW hG hC hD hE hm;go_enter Tryz.func241,Tryz.ntmps241;go_upto_block 0 with fail;rw[<-HW.out,show W=(Xb.refl W.heap.size W).val from rfl]
 go_wp2_with (first
  |(go_at_call 67;refine(K1.out _).mono ?_;rintro e w' ⟨rfl,y,rfl⟩)
  |(go_at_call 121;refine(K2.out _).mono ?_;rintro e w' ⟨rfl,y2,rfl⟩))
 go_ret;exact Xc.mk rfl (hI.out y2)
end Go.Proofs.YtdcahhbipeaggaaGreatDoor
namespace Go.Proofs.YtdcahhbipeaggaaGreatDoor
open Go.RowKit
theorem Xhl:∀args w,(callFunc 243 args).run Tryz.prog w=.ok (.enter 243 args) w:=XZ Tryz.func243 (by kernel_rfl) rfl
theorem Xmg:∀args w,(callFunc 244 args).run Tryz.prog w=.ok (.enter 244 args) w:=XZ Tryz.func244 (by kernel_rfl) rfl
theorem XnM:∀args w,(callFunc 245 args).run Tryz.prog w=.ok (.enter 245 args) w:=XZ Tryz.func245 (by kernel_rfl) rfl
theorem JD(a b:Int)(nb:Nat)(w:World):Calls Tryz.prog 243 #[.agg #[.int .i64 a,.int .i64 b],.int .i64 0,.pointer (some ⟨nb,0,none⟩)] w (Xc w (.agg #[.int .i64 a,.int .i64 b])):=by
 go_enter Tryz.func243,Tryz.ntmps243;go_wp2;go_returns;exact Xc.mk rfl ((brf.alloc nr _).alloc (by simp) _)
theorem JV(n:Int)(w:World):Calls Tryz.prog 244 #[.int .i64 n] w (Xc w (.agg #[.int .i64 n,.int .i64 1])):=by
 go_enter Tryz.func244,Tryz.ntmps244;go_wp2;go_returns;exact Xc.mk rfl (brf.alloc nr _)
theorem Xra(n:Int)(d:Nat)(hn:n.natAbs<=1152921504606846976)(hI:0<d)(hd:d<=1152921504606846976)(kb nb:Nat)(w:World)(hJ:kb<w.heap.size)(hc:w.cell? ⟨kb,0,none⟩=some (.func (.func 243) #[] #[.pointer (some ⟨nb,0,none⟩)])):
 Calls Tryz.prog 245 #[.int .i64 n,.int .i64 (d:Int),.pointer (some ⟨kb,0,none⟩)] w (Xc w (frV (fmk n d))):=by
 have KM:=λv:World=>Xnk n d hn hI hd v;obtain⟨⟨a,b⟩,hf⟩:∃f,f=fmk n d:=⟨_,rfl⟩
 rw[<-hf] at KM ⊢;simp only[frV] at KM ⊢;obtain⟨W,hW,hK,hD,hE⟩:=boxed w (.cells #[.int .i64 0,.int .i64 0] 110);have hC:=λy:Xb W.heap.size W=>(y.below.block _ (by omega:w.heap.size<W.heap.size)).trans hE;have hL:=λy:Xb W.heap.size W=>Xi (hC y);have hM:=λ(y:Xb W.heap.size W) (i:Nat)=>Xe (hC y) i;have hG:=(hD.cell (p:=⟨kb,0,none⟩) hJ).trans hc;have hP:=λy:Xb W.heap.size W=>y.cell hG (show kb<W.heap.size by omega);have hH:=bdo hD;have KM:=Xa KM;have hN:=Xa hC;have hO:=Xa hH;have HW:=Xa hW;have ek:=Xhl;clear hW hK hD hE hC hH hG hf
 go_enter Tryz.func245,Tryz.ntmps245;go_upto_region 1 with fail;rw[<-HW.out,show W=(Xb.refl W.heap.size W).val from rfl];refine QM (Xb.refl W.heap.size W) 7 (by kernel_rfl) (by kernel_rfl) ?_;simp only[List.take_succ_cons,List.take_zero,List.drop_succ_cons,List.drop_zero]
 repeat (go_big_quiet_step (first
  |(go_at_call 186;exact Xc.after nr (KM.out _))
  |(go_at_call 243;exact Xc.after nr (JD _ _ _ _))
  |exact Xc.after nr (JD _ _ _ _)))
 refine wpQuiet_nil ?_;intro z;have hQ:=hL z;have hR:=hM z;go_wp2_with fail;have c:=Xi (XR (c:=.int .i64 a) (d:=.int .i64 (b:Int)) (hN.out z));refine bodyPost_ret (v:=.agg #[.int .i64 a,.int .i64 (b:Int)]) (by simp[results,Tryz.results245,go_sem,c.1,c.2]) rfl ⟨rfl,?_⟩;exact((hO.out z).setCell (by simp) _).setCell (by simp) _
structure XdR(a b c d e f:Int):Prop where
 run:∀v,Calls Tryz.prog 246 #[.agg #[.int .i64 a,.int .i64 b],.agg #[.int .i64 c,.int .i64 d]] v (Xc v (.tuple #[.agg #[.int .i64 e,.int .i64 f],.int .i64 0]))
structure Xjn(a b c d e f:Int):Prop where
 run:∀v,Calls Tryz.prog 188 #[.agg #[.int .i64 a,.int .i64 b],.agg #[.int .i64 c,.int .i64 d]] v (Xc v (.tuple #[.agg #[.int .i64 e,.int .i64 f],.int .i64 0]))
structure Xlk(a b c e f:Int):Prop where
 run:∀v,Calls Tryz.prog 247 #[.agg #[.int .i64 a,.int .i64 b],.agg #[.int .i64 c,.int .i64 1]] v (Xc v (.tuple #[.agg #[.int .i64 e,.int .i64 f],.int .i64 0]))
structure XcU(n d a b:Int):Prop where
 run:∀(kb nb:Nat) (v:World),kb<v.heap.size->v.cell? ⟨kb,0,none⟩=some (.func (.func 243) #[] #[.pointer (some ⟨nb,0,none⟩)])->Calls Tryz.prog 245 #[.int .i64 n,.int .i64 d,.pointer (some ⟨kb,0,none⟩)] v (Xc v (.agg #[.int .i64 a,.int .i64 b]))
theorem Xgx(n:Int)(d:Nat){p:Int×Nat}(hp:p=fmk n d)(hn:n.natAbs<=1152921504606846976)(hC:0<d)(hd:d<=1152921504606846976):XcU n (d:Int) p.1 (p.2:Int):=
 ⟨λkb nb v hk hc=>by subst hp;exact Xra n d hn hC hd kb nb v hk hc⟩
theorem Xsw(N1 N2:Int)(D:Nat){p q r:Int×Nat}(h1:p=fmk N1 D)(h2:q=fmk N2 D)(h3:r=fmk (N1-N2) D)(hD:0<D)(hC:D<=1152921504606846976)(hN:N1.natAbs+N2.natAbs<=1152921504606846976):XdR p.1 (p.2:Int) q.1 (q.2:Int) r.1 (r.2:Int):=
 ⟨λv=>by subst h1 h2 h3;exact Xuw N1 N2 D hD hC hN v⟩
theorem Xvw(N1 N2:Int)(D:Nat){p q r:Int×Nat}(h1:p=fmk N1 D)(h2:q=fmk N2 D)(h3:r=fmk (N1+N2) D)(hD:0<D)(hC:D<=1152921504606846976)(hN:N1.natAbs+N2.natAbs<=1152921504606846976):Xjn p.1 (p.2:Int) q.1 (q.2:Int) r.1 (r.2:Int):=
 ⟨λv=>by subst h1 h2 h3;exact Xmw N1 N2 D hD hC hN v⟩
theorem Xv5(N1:Int)(D n:Nat){p r:Int×Nat}(h1:p=fmk N1 D)(h3:r=fmk N1 (D*n))(hD:0<D)(hn:0<n)(hC:D*n<=1152921504606846976)(hN:N1.natAbs<=1152921504606846976):Xlk p.1 (p.2:Int) (n:Int) r.1 (r.2:Int):=
 ⟨λv=>by subst h1 h3;exact Xu7 N1 D n hD hn hC hN v⟩
theorem Xk1(n:Int)(k:Nat)(hk:0<k):fmk (n*(k:Int)) k=(n,1):=by
 have:=XaR n 1 k (by omega) hk;rw[Nat.one_mul] at this;rw[this,XuZ]
def QN(d:Nat)(m:Xw):Nat:=if d=0 then 0 else 2*d*m.rise.toNat*m.fall.toNat+Xgs d m*Xgs d m*(m.rise.toNat+m.fall.toNat)
def Jb(d:Nat)(m:Xw):Nat:=if d=0 then 1 else 2*m.rise.toNat*m.fall.toNat*Xgs d m
structure XvU(d w R F:Nat)(ri fa st s1 ru dv sp wf en c0 s3 c2:Int×Nat):Prop where
 k_ri:XcU ((w*w:Nat):Int) ((2*R:Nat):Int) ri.1 ri.2
 k_fa:XcU ((w*w:Nat):Int) ((2*F:Nat):Int) fa.1 fa.2
 k_st:XcU (w:Int) (R:Int) st.1 st.2
 k_s1:XdR (d:Int) 1 ri.1 ri.2 s1.1 s1.2
 k_ru:XdR s1.1 s1.2 fa.1 fa.2 ru.1 ru.2
 k_dv:Xlk ru.1 ru.2 (w:Int) dv.1 dv.2
 k_sp:Xjn st.1 st.2 dv.1 dv.2 sp.1 sp.2
 k_wf:XcU (w:Int) (F:Int) wf.1 wf.2
 k_en:Xjn sp.1 sp.2 wf.1 wf.2 en.1 en.2
 k_c0:XcU (R:Int) 2 c0.1 c0.2
 k_s3:XdR (d:Int) 1 fa.1 fa.2 s3.1 s3.2
 k_c2:XcU (-(F:Int)) 2 c2.1 c2.2
theorem XnT(d w R F:Nat)(hN:d<=1048576)(hD:1<=w)(hJ:w<=8192)(hK:1<=R)(hP:R<=16384)(hG:1<=F)(hL:F<=16384):
 ∃ri fa st s1 ru dv sp wf en c0 s3 c2:Int×Nat,XvU d w R F ri fa st s1 ru dv sp wf en c0 s3 c2/\en=fmk ((2*d*R*F+w*w*(R+F):Nat):Int) (2*R*F*w):=by
 have bW:w*w<=8192*8192:=Nat.mul_le_mul hJ hJ;have pR:0<2*R:=by omega
 have pF:0<2*F:=by omega
 have pRF:0<2*R*F:=Nat.mul_pos pR hG;have bRF:2*R*F<=2*16384*16384:=Nat.mul_le_mul (by omega) hL;have pD:0<2*R*F*w:=Nat.mul_pos pRF hD;have bD:2*R*F*w<=2*16384*16384*8192:=Nat.mul_le_mul bRF hJ;have b1:d*(2*R)<=1048576*(2*16384):=Nat.mul_le_mul hN (by omega);have b2:d*(2*F)<=1048576*(2*16384):=Nat.mul_le_mul hN (by omega);have b3:d*(2*R)*F<=1048576*(2*16384)*16384:=Nat.mul_le_mul b1 hL;have b4:w*w*F<=8192*8192*16384:=Nat.mul_le_mul bW hL;have b5:w*w*R<=8192*8192*16384:=Nat.mul_le_mul bW hP;obtain⟨A,hA⟩:∃A,A=d*(2*R):=⟨_,rfl⟩
 obtain⟨A2,hO⟩:∃A,A=d*(2*F):=⟨_,rfl⟩
 obtain⟨W2,hC⟩:∃A,A=w*w:=⟨_,rfl⟩
 obtain⟨AF,hM⟩:∃x,x=A*F:=⟨_,rfl⟩
 obtain⟨WF,hH⟩:∃x,x=W2*F:=⟨_,rfl⟩
 obtain⟨WR,hI⟩:∃x,x=W2*R:=⟨_,rfl⟩
 rw[<-hA] at b1 b3;rw[<-hO] at b2;rw[<-hC] at bW b4 b5;rw[<-hM] at b3;rw[<-hH] at b4;rw[<-hI] at b5;have e1:fmk (((A:Int)-(W2:Int))*(F:Int)) (2*R*F)=fmk ((A:Int)-(W2:Int)) (2*R):=XaR _ _ F pR hG;have e1':((A:Int)-(W2:Int))*(F:Int)=(AF:Int)-(WF:Int):=by rw[Int.sub_mul,hM,hH];push_cast;rfl
 have e2:fmk ((W2:Int)*(R:Int)) (2*R*F)=fmk (W2:Int) (2*F):=by
  have:=XaR (W2:Int) (2*F) R pF hK
  rwa [show 2*F*R=2*R*F by ac_rfl] at this
 have e2':(W2:Int)*(R:Int)=(WR:Int):=by rw[hI];push_cast;rfl
 have e3:fmk ((w:Int)*((2*F*w:Nat):Int)) (2*R*F*w)=fmk (w:Int) R:=by
  have:=XaR (w:Int) R (2*F*w) hK (Nat.mul_pos pF hD)
  rwa [show R*(2*F*w)=2*R*F*w by ac_rfl] at this
 have e3':(w:Int)*((2*F*w:Nat):Int)=((2*WF:Nat):Int):=by
  rw[<-Int.natCast_mul,hH,hC];congr 1;ac_rfl
 have e4:fmk ((w:Int)*((2*R*w:Nat):Int)) (2*R*F*w)=fmk (w:Int) F:=by
  have:=XaR (w:Int) F (2*R*w) hG (Nat.mul_pos pR hD)
  rwa [show F*(2*R*w)=2*R*F*w by ac_rfl] at this
 have e4':(w:Int)*((2*R*w:Nat):Int)=((2*WR:Nat):Int):=by
  rw[<-Int.natCast_mul,hI,hC];congr 1;ac_rfl
 have e5:fmk (A:Int) (2*R)=((d:Int),1):=by
  have:=Xk1 (d:Int) (2*R) pR
  rwa [<-Int.natCast_mul,<-hA] at this
 have e6:fmk (A2:Int) (2*F)=((d:Int),1):=by
  have:=Xk1 (d:Int) (2*F) pF
  rwa [<-Int.natCast_mul,<-hO] at this
 have hE:((2*WF:Nat):Int)+((AF:Int)-(WF:Int)-(WR:Int))+((2*WR:Nat):Int)=((2*d*R*F+w*w*(R+F):Nat):Int):=by
  have:2*d*R*F=AF:=by rw[hM,hA];ac_rfl
  have h2:w*w*(R+F)=WR+WF:=by rw[Nat.mul_add,hI,hH,hC]
  rw[this,h2];omega
 refine⟨fmk (W2:Int) (2*R),fmk (W2:Int) (2*F),fmk (w:Int) R,fmk ((A:Int)-W2) (2*R),fmk ((AF:Int)-WF-WR) (2*R*F),fmk ((AF:Int)-WF-WR) (2*R*F*w),fmk (((2*WF:Nat):Int)+((AF:Int)-WF-WR)) (2*R*F*w),fmk (w:Int) F,fmk (((2*WF:Nat):Int)+((AF:Int)-WF-WR)+((2*WR:Nat):Int)) (2*R*F*w),fmk (R:Int) 2,fmk ((A2:Int)-W2) (2*F),fmk (-(F:Int)) 2,⟨?_,?_,?_,?_,?_,?_,?_,?_,?_,?_,?_,?_⟩,by rw[hE]⟩
 ·rw[<-hC];exact Xgx _ _ rfl (by omega) pR (by omega)
 ·rw[<-hC];exact Xgx _ _ rfl (by omega) pF (by omega)
 ·exact Xgx _ _ rfl (by omega) hK (by omega)
 ·exact Xsw (A:Int) (W2:Int) (2*R) e5.symm rfl rfl pR (by omega) (by omega)
 ·exact Xsw ((AF:Int)-WF) (WR:Int) (2*R*F) (by rw[<-e1,e1']) (by rw[<-e2,e2']) rfl pRF (by omega) (by omega)
 ·exact Xv5 ((AF:Int)-WF-WR) (2*R*F) w rfl rfl pRF hD (by omega) (by omega)
 ·exact Xvw ((2*WF:Nat):Int) ((AF:Int)-WF-WR) (2*R*F*w) (by rw[<-e3,e3']) rfl rfl pD (by omega) (by omega)
 ·exact Xgx _ _ rfl (by omega) hG (by omega)
 ·exact Xvw (((2*WF:Nat):Int)+((AF:Int)-WF-WR)) ((2*WR:Nat):Int) (2*R*F*w) rfl (by rw[<-e4,e4']) rfl pD (by omega) (by omega)
 ·exact Xgx _ 2 rfl (by omega) (by omega) (by omega)
 ·exact Xsw (A2:Int) (W2:Int) (2*F) e6.symm rfl rfl pF (by omega) (by omega)
 ·exact Xgx _ 2 rfl (by omega) (by omega) (by omega)
end Go.Proofs.YtdcahhbipeaggaaGreatDoor
namespace Go.Proofs.YtdcahhbipeaggaaGreatDoor
open Go.RowKit
theorem Xuz:(Tryz.prog.info? 80).map (·.size)=some 2:=by kernel_rfl
theorem XuX:(Tryz.prog.info? 5).map (λi=>(i.zero,i.size,i.bytes))=some (some (.int .u8 0),1,1):=by kernel_rfl
def Xqv(T:TypeId)(n:Nat):Prop:=liesAt Tryz.prog Tryz.prog.depth T (n/Tryz.prog.cellsOf T) 0 80 1=true
structure Xvy(b:Nat)(w w':World):Prop where
 bel:Below b w w'
 size:w'.heap.size=w.heap.size
 block:∀k,k≠b->w'.heap[k]? =w.heap[k]?
theorem XpC{T:TypeId}{r:List Value}(hT:Xqv T (r.length+2))(b:Nat)(p v:Value)(hp:p=.pointer none\/p=.pointer (some ⟨b,0,none⟩))(w:World)(hb:w.heap[b]? =some (.cells (p::v::r).toArray T (0,0))):
 Calls Tryz.prog 99 #[.pointer (some ⟨b,0,none⟩)] w λe w'=>e=.returned (.tuple #[])/\w'.heap[b]? =some (.cells (.pointer (some ⟨b,0,none⟩)::v::r).toArray T (0,0))/\Xvy b w w':=by
 obtain⟨j,hj,hD⟩:=Option.map_eq_some_iff.1 Xuz;have h0:w.cell? ⟨b,0,none⟩=some p:=by rw[Lib.cell_of_heap hb];rfl
 rcases hp with rfl|rfl
 ·have hC:w.shape? b=some (T,r.length+2):=by simp[World.shape?,hb]
  have hE:w.frozen? ⟨b,0,none⟩=false:=Lib.frozen_of_heap hb 0;have hR:(w.setCell ⟨b,0,none⟩ (.pointer (some ⟨b,0,none⟩))).heap[b]? =some (.cells (.pointer (some ⟨b,0,none⟩)::v::r).toArray T (0,0))/\Xvy b w (w.setCell ⟨b,0,none⟩ (.pointer (some ⟨b,0,none⟩))):=
   ⟨by rw[Xx hb];simp,(Below.refl b w).setCell (p:=⟨b,0,none⟩) nr _,by simp[World.setCell],λk hk=>RowKit.Below.heap_setCell _ _ _ _ hk⟩
  have HR:=Xa hR;clear hb hR;go_enter Tryz.func99,Tryz.ntmps99;go_wp2;rw[Lib.run_to_unsafe w ⟨b,0,none⟩ Tryz.underlying77 Tryz.underlying231 hj (by rw[hD];decide) hC (Nat.zero_lt_succ _)];simp only[Result.andThen];rw[Oper.upon_value];go_wp2;rw[run_callFunc_extern Tryz.func155 (by kernel_rfl) (by kernel_rfl) (by kernel_rfl) (e:=Extern.AbiNoEscape.same) (by kernel_rfl)];rw[Lib.run_noEscape];simp only[Result.andThen];rw[Oper.upon_value];go_wp2;rw[Lib.run_from_unsafe w ⟨b,0,none⟩ Tryz.underlying231 Tryz.underlying77 hj hC hT];simp only[Result.andThen];rw[Oper.upon_value];go_wp2;go_end0;exact⟨rfl,HR.out⟩
 ·have HB:=Xa hb;clear hb;go_enter Tryz.func99,Tryz.ntmps99;go_wp2;rw[Lib.run_neq_ptr_same w _ Tryz.underlying77 hj];go_wp2;go_end0;exact⟨rfl,HB.out,Below.refl _ _,rfl,λ_ _=>rfl⟩
def Xas(T:TypeId)(w w':World):Prop:=∀(k:Nat) (cs:Array Value) (t:TypeId) (fr:Nat×Nat),t≠T->t≠5->w.heap[k]? =some (.cells cs t fr)->w'.heap[k]? =some (.cells cs t fr)
theorem Xas.refl(T:TypeId)(w:World):Xas T w w:=λ_ _ _ _ _ _ h=>h
theorem Xas.trans{T:TypeId}{a b c:World}(h:Xas T a b)(h':Xas T b c):Xas T a c:=λk cs t fr h1 h2 h3=>h' k cs t fr h1 h2 (h k cs t fr h1 h2 h3)
theorem Xas.below{T:TypeId}{w w':World}(h:Below w.heap.size w w'):Xas T w w':=λk _ _ _ _ _ h3=>(h.block k (agS h3).1).trans h3
structure BSt(T:TypeId)(r:List Value)(W:World)(b:Nat)(X:List UInt8)(x:World):Prop where
 blk:∃p v,(p=.pointer none\/p=.pointer (some ⟨b,0,none⟩))/\x.heap[b]? =some (.cells (p::v::r).toArray T (0,0))/\x.ownsRow b 5 1 v X.length (Lib.byteCells X)
 bel:Below W.heap.size W x
 le:W.heap.size<=b
theorem BSt.lt{T:TypeId}{r:List Value}{W x:World}{b:Nat}{X:List UInt8}(h:BSt T r W b X x):b<x.heap.size:=by
 obtain⟨p,v,-,hb,-⟩:=h.blk;exact(agS hb).1
theorem BSt.more{T:TypeId}{r:List Value}{W x y:World}{b:Nat}{X:List UInt8}(h:BSt T r W b X x)(hb:Below x.heap.size x y):BSt T r W b X y:=by
 have hE:=h.lt;obtain⟨⟨p,v,hp,hG,hD⟩,hC,hH⟩:=h;exact⟨⟨p,v,hp,(hb.block b hE).trans hG,J1 hD hb⟩,hC.trans (hb.mono hC.size),hH⟩
theorem BSt.fresh(T:TypeId)(r:List Value)(W x:World)(hb:Below W.heap.size W x):BSt T r W x.heap.size [] (x.alloc (.cells (.pointer none::.slice none 0 0::r).toArray T)):=
 ⟨⟨_,_,Or.inl rfl,heap_alloc_new x _,XfH _ _ _ _⟩,hb.alloc hb.size _,hb.size⟩
theorem Xd3{x:World}{base:Nat}{e:TypeId}{size:Nat}{v:Value}{n:Nat}{xs:List Value}{k:Nat}(h:x.ownsRow base e size v n xs)(hk:v.ownBlock=some k):base<=k/\∃cur,x.heap[k]? =some (.cells cur e (0,0)):=by
 rcases h.2 with ⟨rfl,_⟩|⟨g,cap,cur,rfl,hg,hh,_⟩
 ·simp[Value.ownBlock] at hk
 ·simp[Value.ownBlock] at hk;subst hk;exact⟨hg,cur,hh⟩
theorem Xoc{T:TypeId}{r:List Value}(hT:Xqv T (r.length+2))(hR:T≠5){W x:World}{b:Nat}{X:List UInt8}(st:BSt T r W b X x)(s:ByteArray)(hlen:X.length+s.size<=140737488355328):
 Calls Tryz.prog 76 #[.pointer (some ⟨b,0,none⟩),.string s] x λe w'=>e=.returned (.tuple #[.int .i64 s.size,.nilIface])/\BSt T r W b (X++s.data.toList) w'/\Xas T x w':=by
 have hY:=st.lt;obtain⟨⟨p,v,hp,hM,hH⟩,hJ,hU⟩:=st;obtain⟨i0,hi,hZ,pA,pB⟩:=info_parts XuX;have hK:v.ownBlock≠some b:=λe=>by
  obtain⟨_,cur,hc⟩:=Xd3 hH e;rw[hM] at hc;injection hc with hc;injection hc with _ h4;exact hR h4
 have KC:=Xa (XpC hT b p v hp x hM);have hP:=Lib.byteCells_length X;have hV:=Xa hM;have hG:=Xa (And.intro hJ hU);clear hM hJ hU hp;go_enter Tryz.func76,Tryz.ntmps76;go_wp2_with (go_at_call 99;refine KC.out.mono ?_)
 rintro e w1 ⟨rfl,hN,hQ⟩;have hC:w1.ownsRow b 5 1 v (Lib.byteCells X).length (Lib.byteCells X):=by rw[hP];exact XaP hH λg hg=>hQ.block g (λe=>hK (e▸hg))
 have c0:w1.cell? ⟨b,0,none⟩=some (.pointer (some ⟨b,0,none⟩)):=by rw[Lib.cell_of_heap hN];rfl
 have c1:w1.cell? ⟨b,1,none⟩=some v:=by rw[Lib.cell_of_heap hN];rfl
 have hO:=Xa hQ;have hW:=Xa hN;clear hN hQ hH;go_wp2_with (at_builtin;refine Lib.wpList_append_own_string _ rfl _ _ 78 9 rfl b 5 i0 Tryz.underlying78 Tryz.underlying9 hi hZ pA pB _ _ _ rfl hC s rfl ?c3 ?c4 ?c5 ?_)
 case c3=>rw[hP];unfold maxLen;omega
 case c4=>rw[hP];omega
 case c5=>have:=hO.out.size;omega
 intro v' w2 hD hE _;have pC:b<w1.heap.size:=(agS hW.out).1;have hI:w2.heap[b]? =some (.cells (.pointer (some ⟨b,0,none⟩)::v::r).toArray T (0,0)):=by
  rw[hE.block b pC (λe=>hK e.symm)];exact hW.out
 have hX:Xas T x w2:=λk cs t fr h1 h2 h3=>by
  have pD:k≠b:=λe=>by
   subst e;rw[hV.out] at h3;injection h3 with h3;injection h3 with _ h4;exact h1 h4.symm
  have h4:w1.heap[k]? =some (.cells cs t fr):=(hO.out.block k pD).trans h3;refine(hE.block k (agS h4).1 λe=> ?_).trans h4;obtain⟨_,cur,hc⟩:=Xd3 hC e.symm;rw[hc] at h4;injection h4 with h4;injection h4 with _ h5;exact h2 h5.symm
 have d0:w2.cell? ⟨b,0,none⟩=some (.pointer (some ⟨b,0,none⟩)):=by rw[Lib.cell_of_heap hI];rfl
 have d1:w2.cell? ⟨b,1,none⟩=some v:=by rw[Lib.cell_of_heap hI];rfl
 have f1:w2.frozen? ⟨b,1,none⟩=false:=Lib.frozen_of_heap hI 1;have hL:v'.ownBlock≠some b:=λe=>by
  obtain⟨_,cur,hc⟩:=Xd3 hD e;rw[hI] at hc;injection hc with hc;injection hc with _ h4;exact hR h4
 have HR:=Xa (show BSt T r W b (X++s.data.toList) (w2.setCell ⟨b,1,none⟩ v')/\Xas T x (w2.setCell ⟨b,1,none⟩ v') from by
  refine⟨⟨⟨_,v',Or.inr rfl,by rw[Xx hI];simp,?_⟩,?_,hG.out.2⟩,?_⟩
  ·rw[Lib.byteCells_append,<-Lib.strCells_eq];rw[show(X++s.data.toList).length=X.length+s.size by rw[List.length_append,Array.length_toList];rfl];exact XaP hD λg hg=>RowKit.Below.heap_setCell _ _ _ _ (λe=>hL ((show g=b from e)▸hg))
  ·exact((hG.out.1.trans (hO.out.bel.mono hG.out.2)).grown hE (by have:=hO.out.size;have:=hG.out.2;omega) (λk hk=>Nat.le_trans hG.out.2 (Xd3 hC hk).1)).setCell (p:=⟨b,1,none⟩) hG.out.2 _
  ·intro k cs t fr h1 h2 h3;have h4:=hX k cs t fr h1 h2 h3;by_cases e:k=b
   ·subst e;rw[hV.out] at h3;injection h3 with h3;injection h3 with _ h5;exact absurd h5.symm h1
   ·rw[RowKit.Below.heap_setCell _ _ _ _ e];exact h4)
 obtain⟨ao,n',cap,rfl⟩:∃ao n' cap,v'=.slice ao n' cap:=by
  rcases hD.2 with ⟨hv,_⟩|⟨g,cap,cur,hv,_⟩
  ·exact⟨_,_,_,hv⟩
  ·exact⟨_,_,_,hv⟩
 clear hX hI hE hD hL hC;go_wp2;go_ret2;exact⟨rfl,HR.out⟩
theorem XmN{T:TypeId}{r:List Value}{W x:World}{b:Nat}{X:List UInt8}(st:BSt T r W b X x):Calls Tryz.prog 29 #[.pointer (some ⟨b,0,none⟩)] x λe w'=>e=.returned (.string ⟨X.toArray⟩)/\Below b x w':=by
 have hH:=st.lt;obtain⟨⟨p,v,hp,hG,hC⟩,hE,hI⟩:=st;have c0:x.cell? ⟨b,1,none⟩=some v:=by rw[Lib.cell_of_heap hG];rfl
 have c1:x.drew.cell? ⟨b,1,none⟩=some v:=c0;have hP:=λ(y:World) (q:Option Addr)=>Lib.run_unsafeString_none (P:=Tryz.prog) y 167 3 9 q;rcases hC.2 with ⟨rfl,h0⟩|⟨g,cap,cur,rfl,hQ,hg,hK,hJ,hL,hD⟩
 ·obtain rfl:X=[]:=List.eq_nil_of_length_eq_zero h0;have hM:(Builtin.unsafeSliceData_ #[78] 167 #[.slice none 0 0]).run Tryz.prog x.drew=.ok (.pointer none) x.drew:=rfl;clear hG hC h0 hp hE hI;go_enter Tryz.func29,Tryz.ntmps29;go_wp2;go_region
  all_goals
   go_wp2;go_ret;exact⟨rfl,Below.drew (Below.refl b x)⟩
 ·by_cases h0:X=[]
  ·subst h0;by_cases hN:cap=0
   ·subst hN;have hM:(Builtin.unsafeSliceData_ #[78] 167 #[.slice (some ⟨g,0,none⟩) 0 0]).run Tryz.prog x.drew=.ok (.pointer (some ⟨x.drew.heap.size,0,none⟩)) (x.drew.alloc (.view ⟨g,0,none⟩ 5)):=
     Lib.run_unsafeSliceData_zero x.drew _ _ 5 Tryz.underlying167 ⟨g,0,none⟩ 0 (5,cur.size) (by have hO:x.drew.heap[g]? =some (.cells cur 5 (0,0)):=hg;simp[World.shape?,hO])
    have c2:(x.drew.alloc (.view ⟨g,0,none⟩ 5)).cell? ⟨b,1,none⟩=some (.slice (some ⟨g,0,none⟩) 0 0):=by
     have:(x.drew.alloc (.view ⟨g,0,none⟩ 5)).heap[b]? =_:=(Lib.alloc_old x.drew _ b hH).trans hG;rw[Lib.cell_of_heap this];rfl
    have c3:(x.alloc (.view ⟨g,0,none⟩ 5)).drew.cell? ⟨b,1,none⟩=some (.slice (some ⟨g,0,none⟩) 0 0):=c2;have hR:b<=x.heap.size:=Nat.le_of_lt hH;clear hG hC hp hE hI hg hK hJ hL hD;go_enter Tryz.func29,Tryz.ntmps29;go_wp2;go_region
    all_goals
     go_wp2;go_ret;exact⟨rfl,(Below.drew (Below.refl b x)).alloc hR _⟩
   ·have hM:(Builtin.unsafeSliceData_ #[78] 167 #[.slice (some ⟨g,0,none⟩) 0 cap]).run Tryz.prog x.drew=.ok (.pointer (some ⟨g,0,none⟩)) x.drew:=
     Lib.run_unsafeSliceData_row _ _ _ _ _ _ hN
    clear hG hC hp hE hI hg hK hJ hL hD hN;go_enter Tryz.func29,Tryz.ntmps29;go_wp2;go_region
    all_goals
     go_wp2;go_ret;exact⟨rfl,Below.drew (Below.refl b x)⟩
  ·have hT:X.length≠0:=by simpa using h0
   have hM:(Builtin.unsafeSliceData_ #[78] 167 #[.slice (some ⟨g,0,none⟩) X.length cap]).run Tryz.prog x.drew=.ok (.pointer (some ⟨g,0,none⟩)) x.drew:=
    Lib.run_unsafeSliceData_row _ _ _ _ _ _ (by omega)
   have hU:(Builtin.unsafeString_ #[167,3] 9 #[.pointer (some ⟨g,0,none⟩),.int .i64 X.length]).run Tryz.prog x.drew=.ok (.string ⟨X.toArray⟩) (x.drew.freeze ⟨g,0,none⟩ X.length):=by
    refine Lib.run_unsafeString_row x.drew 167 3 9 5 Tryz.underlying167 (by kernel_rfl) g cur.size (by have hO:x.drew.heap[g]? =some (.cells cur 5 (0,0)):=hg;simp[World.shape?,hO]) X h0 (by omega) (by unfold maxLen at hJ;omega) ?_;intro j y hy;have:=hC.cells (g:=g) rfl j (.int .u8 y.toNat) (by simp[Lib.byteCells,hy]);exact this
   clear hG hC hp hE hI hg hK hJ hL hD hP;go_enter Tryz.func29,Tryz.ntmps29;go_wp2;go_region
   all_goals
    go_wp2;go_ret;exact⟨rfl,Lib.below_freeze (Below.drew (Below.refl b x)) (p:=⟨g,0,none⟩) hQ _⟩
end Go.Proofs.YtdcahhbipeaggaaGreatDoor
