/- Lemmas for TopPrinted: ArborW. -/
import Derived.Test.YtdcahhbipeaggaaGreatDoorLatSt
set_option maxRecDepth 100000
set_option maxHeartbeats 16000000
namespace Go.Proofs.YtdcahhbipeaggaaGreatDoor
open Go.RowKit
def XmE(e:Xo):Value:=.agg #[.string e.name,.int .i64 e.weight,.int .i64 e.count]
theorem XiS(A:Option Addr)(cap:Nat)(l:List Xo)(p:Xo->Bool)(g:Nat)(lb:Array Value)(eg:∀args w,(callFunc g args).run Tryz.prog w=.ok (.enter g args) w)(W:World)(B:Nat)(hB:B<=W.heap.size)(hs:XA W B 3 Xo.cells ⟨A,cap,l⟩)
 (hp:Zn Tryz.prog g lb XmE p W.heap.size W l):
 Calls Tryz.prog 212 #[.slice A l.length cap,.func (.func g) #[] lb] W (Xc W (.int .i64 (idx p l))):=by
 have HS:=Xa hs;have HP:=Xa hp;have hm:cap<=9223372036854775807:=hs.2.1;have hH:l.length<=cap:=hs.1;clear hs hp;go_enter Tryz.func212,Tryz.ntmps212;go_wp2;go_loopw [8] (λv wr=>∃k:Nat,v=.int .i64 k/\k<=l.length/\Hid (∀j y,j<k->l[j]? =some y->p y=false)/\∃x:Xb W.heap.size W,wr=x.val) (λv _=>l.length-(intOf v).toNat)
 case atStart=>exact⟨0,rfl,Nat.zero_le _,λj y hj=>absurd hj (by omega),Xb.refl _ _,rfl⟩
 case round=>
  obtain⟨k,rfl,hk,hD,x,rfl⟩:=hrel;by_cases hE:k<l.length
  ·obtain⟨b,off,hA,hb,hC⟩:=HS.out.2.2 (show 0<l.length by omega);simp only at hA;subst hA;have hx:l[k]? =some l[k]:=lgE hE;have he:=λx:Xb W.heap.size W=>Xo.elem hx (show b<W.heap.size by omega) hC x;have HC:=Xa hC;have HX:=Xa hx;clear hC hx;cases hG:p l[k]
   ·go_wp2_with fail;refine(Xc.after nr (HP.out x l[k] (List.getElem_mem hE))).mono ?_;rintro e w' ⟨rfl,x,rfl⟩;go_wp2;exact⟨⟨k+1,by go_num,by omega,Qw hD.out HX.out hG,_,rfl⟩,by simp[intOf];omega⟩
   ·go_wp2_with fail;refine(Xc.after nr (HP.out x l[k] (List.getElem_mem hE))).mono ?_;rintro e w' ⟨rfl,x,rfl⟩;go_wp2;go_ret;exact Xc.mk (congrArg (Value.int IntKind.i64) (QU HX.out hG hD.out).symm) x.below
  ·go_wp2;go_ret;exact Xc.mk (congrArg (Value.int IntKind.i64) (JF λj y hj hy=>hD.out j y (by omega) hy).symm) x.below
theorem Xgd(A:Option Addr)(cap:Nat)(l:List Xo)(p:Xo->Bool)(g:Nat)(lb:Array Value)(eg:∀args w,(callFunc g args).run Tryz.prog w=.ok (.enter g args) w)(W:World)(B:Nat)(hB:B<=W.heap.size)(hs:XA W B 3 Xo.cells ⟨A,cap,l⟩)
 (hp:Zn Tryz.prog g lb XmE p W.heap.size W l):
 Calls Tryz.prog 179 #[.slice A l.length cap,.func (.func g) #[] lb] W (Xc W (.bool (l.any p))):=by
 have HS:=Xa hs;have HP:=Xa hp;clear hs hp;go_enter Tryz.func179,Tryz.ntmps179;go_wp2_with fail;refine(Xc.first (XiS _ _ l p g lb eg W B hB HS.out HP.out)).mono ?_;rintro e w' ⟨rfl,x,rfl⟩;go_wp2;go_ret;exact Xc.mk (congrArg Value.bool (Zh p l)) x.below
theorem Xfa:∀args w,(callFunc 180 args).run Tryz.prog w=.ok (.enter 180 args) w:=XZ Tryz.func180 (by kernel_rfl) rfl
theorem XhP(s:Xo)(nm:ByteArray)(nb:Nat)(w:World)(hn:nb<w.heap.size)(hc:w.cell? ⟨nb,0,none⟩=some (.string nm)):
 Calls Tryz.prog 180 #[.agg #[.string s.name,.int .i64 s.weight,.int .i64 s.count],.pointer (some ⟨nb,0,none⟩)] w (Xc w (.bool (Xm s.name nm))):=by
 have hC:∀o:Obj,(w.alloc o).cell? ⟨nb,0,none⟩=some (.string nm):=λo=>by rw[World.cell?_alloc_lt w o ⟨nb,0,none⟩ hn];exact hc
 go_enter Tryz.func180,Tryz.ntmps180;go_wp2;go_ret;exact Xc.mk rfl (brf.alloc nr _)
theorem Xr8{l:List Xo}(h:Yb l=true):∀k,0<=counts (l.take k)/\counts (l.take k)<=60*k:=by
 intro k;have h1:=h;rw[Yb,bae,bae] at h1;induction k with
 |zero=>simp[counts]
 |succ k ih=>
  cases e:l[k]? with
  |none=>
   have:l.take (k+1)=l.take k:=by rw[List.take_add_one,e];simp
   rw[this];omega
  |some b=>
   rw[XdI e];have h2:=XJ.1 h1.1.2 k b e;rw[QD,bae] at h2;have h3:=Xz.1 (QW.1 h2.1).2.2;omega
theorem Xkc(A:Option Addr)(cap:Nat)(l:List Xo)(hK:∀r∈l,r.ok)(hv:Yb l=true)(w:World)(B:Nat)(hB:B<=w.heap.size)(hs:XA w B 3 Xo.cells ⟨A,cap,l⟩):
 Calls Tryz.prog 143 #[.slice A l.length cap] w (Xc w (.bool true)):=by
 have hm:cap<=9223372036854775807:=hs.2.1;have pC:l.length<=cap:=hs.1;have hR:=Xa (Xr8 hv);have hL:=hv;rw[Yb,bae,bae,decide_eq_true_eq,decide_eq_true_eq] at hL;obtain⟨⟨hlen,hE⟩,hT⟩:=hL;have hI:=Xa (XJ.1 hE);have HS:=Xa (hs.more hB);have hU:=Xa hK;clear hs hK hE hv;go_enter Tryz.func143,Tryz.ntmps143;go_wp2_with fail;go_loopw [3,11] (λs v wr=>∃k:Nat,v=.int .i64 k/\k<=l.length/\s=.int .i64 (counts (l.take k))/\∃x:Xb w.heap.size w,wr=x.val) (λ_ v _=>l.length-(intOf v).toNat)
 case atStart=>exact⟨0,rfl,Nat.zero_le _,rfl,Xb.refl _ _,rfl⟩
 case round=>
  obtain⟨k,rfl,hk,rfl,x,rfl⟩:=hrel;have hV:=hR.out k;by_cases hM:k<l.length
  ·obtain⟨b,off,hA,hb,hC⟩:=HS.out.2.2 (show 0<l.length by omega);simp only at hA;subst hA;have hx:l[k]? =some l[k]:=lgE hM;obtain⟨q,hq⟩:∃q,q=l[k]:=⟨_,rfl⟩
   rw[<-hq] at hx;have hW:=(hU.out q (hq▸List.getElem_mem hM)).name;have he:=Xo.elem hx hb hC x;have hX:=Xa (XdI hx);have hN:=hI.out k q hx;rw[QD,bae] at hN;obtain⟨hO,hG⟩:=hN;obtain⟨n1,n2,n3⟩:=QW.1 hO;rw[Xz] at n2 n3;obtain⟨Y,hY,pD,hP,hQ⟩:=bxbk x.val q;have hD:Below w.heap.size w Y:=x.below.trans (hP.mono x.size);have hH:=λy:Xb Y.heap.size Y=>Xo.boxed hQ (by omega) y;have hJ:=hH (Xb.refl _ _);simp only[Xb.refl] at hJ;have pE:=x.size
   have KN:=Xa (n1▸Xc.first (XK q.name Y hW))
   have KD:=Xa (λy:Xb Y.heap.size Y=>Xc.after (x:=y) nr (Xgd (some ⟨b,off,none⟩) cap (l.take k) (λz=>Xm z.name q.name) 180 #[.pointer (some ⟨x.val.heap.size,0,none⟩)] Xfa y.val w.heap.size (Nat.le_trans hD.size y.size)
    ((XA.take HS.out k).to (hD.trans (y.below.mono hD.size)) nr)
    (λz e _=>by rw[XcA];exact XhP e q.name x.val.heap.size z.val (Nat.lt_of_lt_of_le (by omega) (Nat.le_trans y.size z.size)) (((z.below.cell (show x.val.heap.size<y.val.heap.size from Nat.lt_of_lt_of_le (by omega) y.size)).trans (hH y).1)))))
   rw[show(l.take k).any (λz=>Xm z.name q.name)=false by simpa using hG] at KD;rw[show(l.take k).length=k by simp;omega] at KD;have hZ:=Xa (λy:Xb Y.heap.size Y=>hD.trans (y.below.mono hD.size));have HY:=Xa hY;have pF:(0:Int)<=(k:Int)/\(k:Int)<=(l.length:Int):=by omega
   clear hC hx hO hG hP hQ hY hD hq;go_upto_region 7 with fail;rw[<-HY.out]
   go_wp2_with (first
    |(go_at_call 61;refine KN.out.mono ?_;rintro e w' ⟨rfl,y,rfl⟩;have pG:=hH y)
    |(go_at_call 179;refine(KD.out y).mono ?_;rintro e w' ⟨rfl,y2,rfl⟩;have pA:=hH y2))
   exact⟨⟨k+1,by go_num,by omega,by rw[hX.out],⟨_,hZ.out y2⟩,rfl⟩,by simp[intOf];omega⟩
  ·have pB:k=l.length:=by omega
   subst pB;rw[List.take_length] at hV;rw[List.take_length];go_wp2;go_ret;exact Xc.mk rfl x.below
theorem Xjh(A:Option Addr)(cap:Nat)(l:List Xo)(hP:∀r∈l,r.ok)(hv:Yb l=true)(c:Sl Int)(hG:c.l=l.map (·.count))(w:World)(hs:XA w w.heap.size 3 Xo.cells ⟨A,cap,l⟩)(hH:XA w w.heap.size 1 Xj c):
 Calls Tryz.prog 91 #[.slice A l.length cap,.slice c.A c.l.length c.cap] w (Xc w (.tuple #[.int .i64 (Yp l),.int .i64 0])):=by
 have hm:cap<=9223372036854775807:=hs.2.1;have pC:l.length<=cap:=hs.1;have hQ:c.cap<=9223372036854775807:=hH.2.1;have hI:c.l.length<=c.cap:=hH.1;have KV:=Xa (Xc.first (Xkc A cap l hP hv w w.heap.size nr hs));rw[Yb,bae,bae,decide_eq_true_eq,decide_eq_true_eq] at hv;obtain⟨⟨hlen,hE⟩,hR⟩:=hv
 have hK:=Xa (show ∀x∈l,1<=x.weight/\x.weight<=1048576/\0<=x.count/\x.count<=60 from λx hx=>by
  obtain⟨i,hi,e⟩:=List.getElem_of_mem hx;have h2:=XJ.1 hE i x (by rw[lgE hi,e]);rw[QD,bae] at h2;obtain⟨-,n2,n3⟩:=QW.1 h2.1;rw[Xz] at n2 n3
  omega)
 have HS:=Xa hs;have hT:=Xa hH;obtain⟨cA,ccap,cl⟩:=c;simp only at hG hQ hI ⊢;have hL:cl.length=l.length:=by rw[hG,List.length_map]
 have hU:=Xa hG;clear hs hH hE hG;obtain⟨be,hJ⟩:∃p,p=Yp l:=⟨_,rfl⟩
 rw[<-hJ];have hV:=Xa hJ;clear hJ;have pD:((cl.length:Int) !=(l.length:Int))=false:=by simp[hL]
 have hW:¬(cl.length:Int)≠(l.length:Int):=by simp[hL]
 go_enter Tryz.func91,Tryz.ntmps91;go_wp2_with (go_at_call 143;refine KV.out.mono ?_;rintro e w' ⟨rfl,y,rfl⟩)
 go_loopw [6,21] (λs v wr=>∃k:Nat,v=.int .i64 k/\s=.int .i64 (Yp (l.take k))/\k<=l.length/\wr=y.val) (λ_ v _=>l.length-(intOf v).toNat)
 case atStart=>exact⟨0,rfl,rfl,Nat.zero_le _,rfl⟩
 case round=>
  obtain⟨k,rfl,rfl,hk,rfl⟩:=hrel;by_cases hX:k<l.length
  ·obtain⟨b,off,hA,hb,hD⟩:=HS.out.2.2 (show 0<l.length by omega);obtain⟨b2,off2,hM,hY,hC⟩:=hT.out.2.2 (show 0<cl.length by omega);simp only at hA hM;subst hA;subst hM;obtain⟨q,hx⟩:∃q,l[k]? =some q:=⟨l[k],lgE hX⟩
   have he:=Xo.elem hx hb hD y;have hN:cl[k]? =some q.count:=by rw[hU.out,List.getElem?_map,hx];rfl
   have hZ:=y.below.cell (p:=⟨b2,off2+(k*1+0),none⟩) hY|>.trans (hC k q.count hN 0 _ rfl);simp only[Nat.mul_one,Nat.add_zero] at hZ;obtain⟨n1,n2,n3,n4⟩:=hK.out q (lmg hx);have ht:=Xhr hx;have hs:=QC (l.take k) (λy hy=>hK.out y (List.mem_of_mem_take hy));have hlen2:(l.take k).length=k:=by rw[List.length_take];omega
   rw[hlen2] at hs;obtain⟨sm,hO⟩:∃m,m=Yp (l.take k):=⟨_,rfl⟩
   rw[<-hO] at ht hs ⊢;rw[Int.mul_comm] at ht;have pA:=Xa ht;have p1:0<=q.count*q.weight:=Int.mul_nonneg n3 (by omega);have p2:q.count*q.weight<=60*1048576:=Int.mul_le_mul n4 n2 (by omega) (by omega);have pE:IntKind.i64.wrap (q.count*q.weight)=q.count*q.weight:=Xcm (by omega);have pF:(k:Int)<(cl.length:Int):=by omega
   clear hD hC hx ht hlen2 hO hN;go_wp2_with fail;exact⟨⟨k+1,by go_num,by rw[pA.out],by omega,trivial⟩,by simp[intOf];omega⟩
  ·have h1:=hV.out;have pB:=Xa (show Yp (l.take k)=be by rw[List.take_of_length_le (by omega),h1]);clear h1;go_wp2_with fail;go_ret2;exact Xc.mk (show Value.tuple #[.int .i64 (Yp (l.take k)),.int .i64 0]=.tuple #[.int .i64 be,.int .i64 0] by rw[pB.out]) y.below
def XiW(s:Xd):Bool:=decide (max (XaM s) (-(XaM s))<=s.aJ)
theorem Xkd(s:Xd)(hD:s.ok)(hv:X0 s=true)(w:World)(B:Nat)(hB:B<=w.heap.size)(hE:Xd.at_ w B s):Calls Tryz.prog 37 #[.agg #[.string s.name,.int .i64 s.depth,.int .i64 s.low,.int .i64 s.high,.int .i64 s.length,.slice s.aG.A s.aG.l.length s.aG.cap,.int .i64 s.aM,.int .i64 s.aN,.int .i64 s.aI,.int .i64 s.most,.int .i64 s.aJ,.slice s.aF.A s.aF.l.length s.aF.cap,.slice s.aE.A s.aE.l.length s.aE.cap]] w (Xc w (.tuple #[.bool (XiW s),.int .i64 0])):=by
 obtain⟨W,hW,hM,hC,hG⟩:=bxst w s;have hc:=λy:Xb W.heap.size W=>Xd.boxed hG (by omega) y;have hI:=hc (Xb.refl _ _);simp only[Xb.refl] at hI;have hH:=bdo hC;have KV:=Xa (Xc.first (XbG s hD W W.heap.size nr (hE.to (hC.mono hB) (show B<=W.heap.size by omega))))
 rw[YO hv] at KV;obtain⟨hJ,hK,-⟩:=QE hv;have hh:XiW s=decide (max (XaM s) (-(XaM s))<=s.aJ):=rfl;rw[hh];obtain⟨m,hm⟩:∃m,m=XaM s:=⟨_,rfl⟩
 rw[<-hm] at hJ hK KV ⊢;have hN:IntKind.i64.wrap (-m)= -m:=Xcm (by omega);have hL:=Xa hH;have HW:=Xa hW;clear hW hG hC hH hE hD hv hh hm;go_enter Tryz.func37,Tryz.ntmps37;go_upto_region 1 with fail;rw[<-HW.out];go_wp2_with (go_at_call 17;refine KV.out.mono ?_;rintro e w' ⟨rfl,y,rfl⟩;have hO:=hc y)
 go_ret2;exact Xc.mk rfl (hL.out y)
end Go.Proofs.YtdcahhbipeaggaaGreatDoor
