/- Lemmas for TopPrinted: BrakeWide, LatSt. -/
import Derived.Test.YtdcahhbipeaggaaGreatDoorSecNum
import Derived.Lib.QuoteBits
set_option maxRecDepth 100000
set_option maxHeartbeats 16000000
namespace Go.Proofs.YtdcahhbipeaggaaGreatDoor
open Go Go.RowKit
theorem Xcm{n:Int}(h: -9223372036854775808<=n/\n<=9223372036854775807):IntKind.i64.wrap n=n:=by rw[IntKind.wrap_i64];omega
theorem XsQ(s:Xd)(hv:X0 s=true)(w:World):Calls Tryz.prog 142 #[.agg #[.string s.name,.int .i64 s.depth,.int .i64 s.low,.int .i64 s.high,.int .i64 s.length,.slice s.aG.A s.aG.l.length s.aG.cap,.int .i64 s.aM,.int .i64 s.aN,.int .i64 s.aI,.int .i64 s.most,.int .i64 s.aJ,.slice s.aF.A s.aF.l.length s.aF.cap,.slice s.aE.A s.aE.l.length s.aE.cap]] w (Xc w (.int .i64 (XfF s))):=by
 obtain⟨W,hW,hI,hD,hE⟩:=bxst w s;have hc:=Xd.boxed hE (by omega) (Xb.refl W.heap.size W);simp only[Xb.refl] at hc;obtain⟨h1,h2,-⟩:=ZN hv;obtain⟨-,-,-,-,h5,h6⟩:=QE hv;have hC:s.aM*(s.length/1000)=XfF s:=rfl;have hJ:0<=s.length:=by omega
 have hK:s.length<=1048576:=by omega
 have hL:IntKind.i64.wrap (s.aM*(s.length/1000))=s.aM*(s.length/1000):=Xcm (by rw[hC];omega);have hG:=Xa hC;have HW:=Xa hW;have hH:=Xa hD;clear hC hW hD hE hv;go_enter Tryz.func142,Tryz.ntmps142;go_upto_region 1 with fail;rw[<-HW.out];go_wp2_with fail;go_ret;exact Xc.mk (congrArg (Value.int .i64) hG.out) hH.out
theorem Xoe(s:Xd)(hv:X0 s=true)(w:World)(B:Nat)(hB:B<=w.heap.size)(hE:Xd.at_ w B s):Calls Tryz.prog 90 #[.agg #[.string s.name,.int .i64 s.depth,.int .i64 s.low,.int .i64 s.high,.int .i64 s.length,.slice s.aG.A s.aG.l.length s.aG.cap,.int .i64 s.aM,.int .i64 s.aN,.int .i64 s.aI,.int .i64 s.most,.int .i64 s.aJ,.slice s.aF.A s.aF.l.length s.aF.cap,.slice s.aE.A s.aE.l.length s.aE.cap]] w (Xc w (.int .i64 (X9 s))):=by
 obtain⟨W,hW,hQ,hG,hI⟩:=bxst w s;have hc:=λy:Xb W.heap.size W=>Xd.boxed hI (by omega) y;have hR:=hc (Xb.refl _ _);simp only[Xb.refl] at hR;have hJ:=bdo hG;have hD:=hE.aF.to (hG.mono hB) (show B<=W.heap.size by omega);have hT:=Xa hD;have KP:=Xa (Xc.first (XsQ s hv W))
 obtain⟨-,-,-,-,-,hn,-,hit,-⟩:=ZN hv;obtain⟨-,-,hU,hX,hY,hZ⟩:=QE hv;have pH:s.aF.l.length<=s.aF.cap:=hE.aF.1;have pI:s.aF.cap<=9223372036854775807:=hE.aF.2.1;have hK:=Xa hit;have pA:=Xa hJ;have HW:=Xa hW;have hH:=Xa (show X9 s=XfF s+J4 s.aF.l from rfl);obtain⟨pe,hL⟩:∃p,p=XfF s:=⟨_,rfl⟩
 rw[<-hL] at KP hH hY hZ;obtain⟨we,hM⟩:∃p,p=X9 s:=⟨_,rfl⟩
 rw[<-hM] at hH ⊢;clear hW hI hG hJ hE hD hit hL hM hv hU hX hQ;obtain⟨qn,qd,ql,qh,qe,⟨qA,qc,qll⟩,qp,qr,qu,qm,qb,⟨A,cap,l⟩,⟨bA,bc,bl⟩⟩:=s;simp only at*;go_enter Tryz.func90,Tryz.ntmps90;go_upto_region 1 with fail;rw[<-HW.out];go_wp2_with fail;refine KP.out.mono ?_;rintro e w' ⟨rfl,y,rfl⟩;have pJ:=hc y;go_wp2_with fail;go_loopw [3,11] (λv3 v wr=>∃k:Nat,v=.int .i64 k/\v3=.int .i64 (pe+J4 (l.take k))/\k<=l.length/\∃x:Xb W.heap.size W,wr=x.val) (λ_ v _=>l.length-(intOf v).toNat)
 case atStart=>exact⟨0,rfl,by simp[J4],Nat.zero_le _,y,rfl⟩
 case round=>
  obtain⟨k,rfl,rfl,hk,x,rfl⟩:=hrel;by_cases pB:k<l.length
  ·obtain⟨b,off,hA,hb,hC⟩:=hT.out.2.2 (show 0<l.length by omega);simp only at hA;subst hA;obtain⟨q,hx⟩:∃q,l[k]? =some q:=⟨l[k],lgE pB⟩
   have he:=Xu.elem hx hb hC x;have pK:=hK.out q (lmg hx);have ht:=Xnw hx;have hs:=XcK (l.take k) (λy hy=>hK.out y (List.mem_of_mem_take hy));have hlen:(l.take k).length=k:=by rw[List.length_take];omega
   rw[hlen] at hs;obtain⟨sm,hN⟩:∃m,m=J4 (l.take k):=⟨_,rfl⟩
   rw[<-hN] at ht hs ⊢;have pC:=Xa ht;obtain⟨V,hV,pD,hO,hP⟩:=bxit x.val q;have pE:=Xu.boxed (B:=V.heap.size) hP (by omega) (Xb.refl _ _);simp only[Xb.refl] at pE;have HV:=Xa hV;have pF:=Xa (show Below W.heap.size W V from x.below.trans (hO.mono x.size));clear hC hx ht hlen hN hV hO hP pD;go_upto_region 5 with fail;rw[<-HV.out];go_wp2_with fail;refine⟨⟨k+1,by go_num,?_,by omega,⟨V,pF.out⟩,rfl⟩,by simp[intOf];omega⟩;rw[pC.out];go_num
  ·have pG:=Xa (show pe+J4 (l.take k)=we by rw[List.take_of_length_le (by omega),hH.out]);go_wp2_with fail;go_ret;exact Xc.mk (congrArg (Value.int .i64) pG.out) (pA.out x)
def XkF(s:Xd)(n:Int):Value:=if X0 s=true then .tuple #[.int .i64 n,.int .i64 0] else .tuple #[.int .i64 0,.int .i64 1]
theorem YO{s:Xd}(h:X0 s=true)(n:Int):XkF s n=.tuple #[.int .i64 n,.int .i64 0]:=if_pos h
theorem Xa3{s:Xd}(h:X0 s=false)(n:Int):XkF s n=.tuple #[.int .i64 0,.int .i64 1]:=if_neg (by rw[h];simp)
theorem J8(s:Xd)(hE:s.ok)(w:World)(B:Nat)(hB:B<=w.heap.size)(hG:Xd.at_ w B s):Calls Tryz.prog 36 #[.agg #[.string s.name,.int .i64 s.depth,.int .i64 s.low,.int .i64 s.high,.int .i64 s.length,.slice s.aG.A s.aG.l.length s.aG.cap,.int .i64 s.aM,.int .i64 s.aN,.int .i64 s.aI,.int .i64 s.most,.int .i64 s.aJ,.slice s.aF.A s.aF.l.length s.aF.cap,.slice s.aE.A s.aE.l.length s.aE.cap]] w (Xc w (XkF s (X9 s))):=by
 obtain⟨W,hW,hL,hD,hH⟩:=bxst w s;have hc:=λy:Xb W.heap.size W=>Xd.boxed hH (by omega) y;have hK:=hc (Xb.refl _ _);simp only[Xb.refl] at hK;have hI:=bdo hD;have hC:=hG.to (hD.mono hB) (show B<=W.heap.size by omega);have KV:=Xa (Xc.first (ZR s hE W W.heap.size nr hC))
 have hJ:=Xa hI;have HW:=Xa hW;cases hv:X0 s
 ·rw[hv] at KV;rw[Xa3 hv];clear hW hH hD hI hG hC hE hv;go_enter Tryz.func36,Tryz.ntmps36;go_upto_region 1 with fail;rw[<-HW.out];go_wp2_with (go_at_call 63;refine KV.out.mono ?_;rintro e w' ⟨rfl,y,rfl⟩)
  go_ret2;exact Xc.mk rfl (hJ.out y)
 ·have KW:=Xa (λy:Xb W.heap.size W=>Xc.after (x:=y) nr (Xoe s hv y.val W.heap.size y.size (hC.to y.below nr)));rw[hv] at KV;rw[YO hv];obtain⟨n,hn⟩:∃n,n=X9 s:=⟨_,rfl⟩
  rw[<-hn] at KW ⊢;clear hW hH hD hI hG hC hE hv hn;go_enter Tryz.func36,Tryz.ntmps36;go_upto_region 1 with fail;rw[<-HW.out]
  go_wp2_with (first
   |(go_at_call 63;refine KV.out.mono ?_;rintro e w' ⟨rfl,y,rfl⟩;have hM:=hc y)
   |(go_at_call 90;refine(KW.out y).mono ?_;rintro e w' ⟨rfl,y2,rfl⟩))
  go_ret2;exact Xc.mk rfl (hJ.out y2)
theorem XoY(s:Xd)(hE:s.ok)(w:World)(B:Nat)(hB:B<=w.heap.size)(hG:Xd.at_ w B s):Calls Tryz.prog 55 #[.agg #[.string s.name,.int .i64 s.depth,.int .i64 s.low,.int .i64 s.high,.int .i64 s.length,.slice s.aG.A s.aG.l.length s.aG.cap,.int .i64 s.aM,.int .i64 s.aN,.int .i64 s.aI,.int .i64 s.most,.int .i64 s.aJ,.slice s.aF.A s.aF.l.length s.aF.cap,.slice s.aE.A s.aE.l.length s.aE.cap]] w (Xc w (XkF s (XbA s))):=by
 obtain⟨W,hW,hP,hD,hH⟩:=bxst w s;have hc:=λy:Xb W.heap.size W=>Xd.boxed hH (by omega) y;have hN:=hc (Xb.refl _ _);simp only[Xb.refl] at hN;have hI:=bdo hD;have hC:=hG.to (hD.mono hB) (show B<=W.heap.size by omega);have KV:=Xa (Xc.first (J8 s hE W W.heap.size nr hC))
 have hK:=Xa hI;have HW:=Xa hW;cases hv:X0 s
 ·rw[Xa3 hv] at KV;rw[Xa3 hv];clear hW hH hD hI hG hC hE hv;go_enter Tryz.func55,Tryz.ntmps55;go_upto_region 1 with fail;rw[<-HW.out];go_wp2_with (go_at_call 36;refine KV.out.mono ?_;rintro e w' ⟨rfl,y,rfl⟩)
  go_ret2;exact Xc.mk rfl (hK.out y)
 ·obtain⟨-,-,ha,hp,-⟩:=ZN hv;obtain⟨-,-,hL,hM,-,-⟩:=QE hv;rw[YO hv] at KV;rw[YO hv];have hJ:XbA s=X9 s*s.aI-s.aN:=rfl;obtain⟨n,hn⟩:∃n,n=X9 s:=⟨_,rfl⟩
  rw[<-hn] at KV hJ hL hM;have hQ:0<=n*s.aI:=Int.mul_nonneg hL (by omega);have hR:n*s.aI<=1200000000*2:=Int.mul_le_mul hM hp.2 (by omega) (by omega);have hT:IntKind.i64.wrap (n*s.aI)=n*s.aI:=Xcm (by omega);have hO:=Xa hJ.symm;clear hW hH hD hI hG hC hE hv hn hJ;go_enter Tryz.func55,Tryz.ntmps55;go_upto_region 1 with fail;rw[<-HW.out];go_wp2_with (go_at_call 36;refine KV.out.mono ?_;rintro e w' ⟨rfl,y,rfl⟩;have hU:=hc y)
  go_ret2;exact Xc.mk (show Value.tuple #[.int .i64 (n*s.aI-s.aN),.int .i64 0]=.tuple #[.int .i64 (XbA s),.int .i64 0] by rw[hO.out]) (hK.out y)
theorem XqE(s:Xd)(hv:X0 s=true)(w:World)(B:Nat)(hB:B<=w.heap.size)(hE:Xd.at_ w B s):Calls Tryz.prog 56 #[.agg #[.string s.name,.int .i64 s.depth,.int .i64 s.low,.int .i64 s.high,.int .i64 s.length,.slice s.aG.A s.aG.l.length s.aG.cap,.int .i64 s.aM,.int .i64 s.aN,.int .i64 s.aI,.int .i64 s.most,.int .i64 s.aJ,.slice s.aF.A s.aF.l.length s.aF.cap,.slice s.aE.A s.aE.l.length s.aE.cap]] w (Xc w (.tuple #[.int .i64 (Yp s.aE.l),.int .i64 (counts s.aE.l)])):=by
 obtain⟨W,hW,hT,hG,hL⟩:=bxst w s;have hc:=λy:Xb W.heap.size W=>Xd.boxed hL (by omega) y;have hU:=hc (Xb.refl _ _);simp only[Xb.refl] at hU;have hM:=bdo hG;have hD:=hE.aE.to (hG.mono hB) (show B<=W.heap.size by omega);have hX:=Xa hD;obtain⟨-,-,-,-,-,-,hn,-,hit⟩:=ZN hv
 have pK:s.aE.l.length<=s.aE.cap:=hE.aE.1;have pL:s.aE.cap<=9223372036854775807:=hE.aE.2.1;have hN:=Xa hit;have hY:=Xa hM;have HW:=Xa hW;obtain⟨be,hH⟩:∃p,p=Yp s.aE.l:=⟨_,rfl⟩
 obtain⟨ce,hI⟩:∃p,p=counts s.aE.l:=⟨_,rfl⟩
 rw[<-hH,<-hI];have hZ:=Xa hH;have pA:=Xa hI;clear hW hL hG hM hE hD hit hH hI hv hT;obtain⟨qn,qd,ql,qh,qe,⟨qA,qc,qll⟩,qp,qr,qu,qm,qb,⟨iA,ic,il⟩,⟨A,cap,l⟩⟩:=s;simp only at*;go_enter Tryz.func56,Tryz.ntmps56;go_upto_region 1 with fail;rw[<-HW.out];go_wp2_with fail;go_loopw [2,3,9] (λv2 v3 v wr=>∃k:Nat,v=.int .i64 k/\v2=.int .i64 (Yp (l.take k))/\v3=.int .i64 (counts (l.take k))/\k<=l.length/\0<=counts (l.take k)/\counts (l.take k)<=60*k/\∃x:Xb W.heap.size W,wr=x.val) (λ_ _ v _=>l.length-(intOf v).toNat)
 case atStart=>exact⟨0,rfl,rfl,rfl,Nat.zero_le _,by simp[counts],by simp[counts],Xb.refl _ _,rfl⟩
 case round=>
  obtain⟨k,rfl,rfl,rfl,hk,pB,pC,x,rfl⟩:=hrel;by_cases pD:k<l.length
  ·obtain⟨b,off,hA,hb,hC⟩:=hX.out.2.2 (show 0<l.length by omega);simp only at hA;subst hA;obtain⟨q,hx⟩:∃q,l[k]? =some q:=⟨l[k],lgE pD⟩
   have he:=Xo.elem hx hb hC x;obtain⟨n1,n2,n3,n4⟩:=hN.out q (lmg hx);have ht:=Xhr hx;have hJ:=XnU hx;have hs:=QC (l.take k) (λy hy=>hN.out y (List.mem_of_mem_take hy));have hlen:(l.take k).length=k:=by rw[List.length_take];omega
   rw[hlen] at hs;obtain⟨sm,hO⟩:∃m,m=Yp (l.take k):=⟨_,rfl⟩
   obtain⟨cm,hP⟩:∃m,m=counts (l.take k):=⟨_,rfl⟩
   rw[<-hO] at ht hs ⊢;rw[<-hP] at hJ pB pC ⊢;have pE:=Xa ht;have hK:=Xa hJ;have p1:0<=q.weight*q.count:=Int.mul_nonneg (by omega) n3;have p2:q.weight*q.count<=1048576*60:=Int.mul_le_mul n2 n4 n3 (by omega);have pM:IntKind.i64.wrap (q.weight*q.count)=q.weight*q.count:=Xcm (by omega);obtain⟨V,hV,pF,hQ,hR⟩:=bxbk x.val q;have pG:=Xo.boxed (B:=V.heap.size) hR (by omega) (Xb.refl _ _);simp only[Xb.refl] at pG;have HV:=Xa hV;have pH:=Xa (show Below W.heap.size W V from x.below.trans (hQ.mono x.size))
   clear hC hx ht hJ hlen hO hP hV hQ hR pF;go_upto_region 4 with fail;rw[<-HV.out];go_wp2_with fail;refine⟨⟨k+1,by go_num,?_,?_,by omega,?_,?_,⟨V,pH.out⟩,rfl⟩,by simp[intOf];omega⟩
   ·rw[pE.out]
   ·rw[hK.out]
   ·rw[hK.out];omega
   ·rw[hK.out];omega
  ·have h1:=hZ.out;have h2:=pA.out;have pI:=Xa (show Yp (l.take k)=be by rw[List.take_of_length_le (by omega),h1]);have pJ:=Xa (show counts (l.take k)=ce by rw[List.take_of_length_le (by omega),h2]);clear h1 h2;go_wp2_with fail;go_ret2;exact Xc.mk (show Value.tuple #[.int .i64 (Yp (l.take k)),.int .i64 (counts (l.take k))]=.tuple #[.int .i64 be,.int .i64 ce] by rw[pI.out,pJ.out]) (hY.out x)
theorem XbG(s:Xd)(hG:s.ok)(w:World)(B:Nat)(hB:B<=w.heap.size)(hH:Xd.at_ w B s):Calls Tryz.prog 17 #[.agg #[.string s.name,.int .i64 s.depth,.int .i64 s.low,.int .i64 s.high,.int .i64 s.length,.slice s.aG.A s.aG.l.length s.aG.cap,.int .i64 s.aM,.int .i64 s.aN,.int .i64 s.aI,.int .i64 s.most,.int .i64 s.aJ,.slice s.aF.A s.aF.l.length s.aF.cap,.slice s.aE.A s.aE.l.length s.aE.cap]] w (Xc w (XkF s (XaM s))):=by
 obtain⟨W,hW,hR,hD,hI⟩:=bxst w s;have hc:=λy:Xb W.heap.size W=>Xd.boxed hI (by omega) y;have hM:=hc (Xb.refl _ _);simp only[Xb.refl] at hM;have hJ:=bdo hD;have hC:=hH.to (hD.mono hB) (show B<=W.heap.size by omega);have KV:=Xa (Xc.first (XoY s hG W W.heap.size nr hC))
 have hK:=Xa hJ;have HW:=Xa hW;cases hv:X0 s
 ·rw[Xa3 hv] at KV;rw[Xa3 hv];clear hW hI hD hJ hH hC hG hv;go_enter Tryz.func17,Tryz.ntmps17;go_upto_region 1 with fail;rw[<-HW.out];go_wp2_with (go_at_call 55;refine KV.out.mono ?_;rintro e w' ⟨rfl,y,rfl⟩)
  go_ret2;exact Xc.mk rfl (hK.out y)
 ·have KT:=Xa (λy:Xb W.heap.size W=>Xc.after (x:=y) nr (XqE s hv y.val W.heap.size y.size (hC.to y.below nr)));obtain⟨hN,hO,-⟩:=QE hv;obtain⟨-,-,-,-,-,-,hT,-,hit⟩:=ZN hv;have hP:=QC _ hit;rw[YO hv] at KV;rw[YO hv];have hE:XaM s=XbA s-Yp s.aE.l:=rfl;obtain⟨n,hn⟩:∃n,n=XbA s:=⟨_,rfl⟩
  obtain⟨m,hm⟩:∃m,m=Yp s.aE.l:=⟨_,rfl⟩
  obtain⟨c,hL⟩:∃m,m=counts s.aE.l:=⟨_,rfl⟩
  rw[<-hn,<-hm] at hE;rw[<-hn] at KV;rw[<-hm,<-hL] at KT;rw[<-hm] at hP;rw[hE] at hN hO;have hQ:=Xa hE.symm;have hU:m<=62914560*8:=by omega
  clear hW hI hD hJ hH hC hG hv hn hm hL hE hit;go_enter Tryz.func17,Tryz.ntmps17;go_upto_region 1 with fail;rw[<-HW.out]
  go_wp2_with (first
   |(go_at_call 55;refine KV.out.mono ?_;rintro e w' ⟨rfl,y,rfl⟩;have hV:=hc y)
   |(go_at_call 56;refine(KT.out y).mono ?_;rintro e w' ⟨rfl,y2,rfl⟩))
  go_ret2;exact Xc.mk (show Value.tuple #[.int .i64 (n-m),.int .i64 0]=.tuple #[.int .i64 (XaM s),.int .i64 0] by rw[hQ.out]) (hK.out y2)
end Go.Proofs.YtdcahhbipeaggaaGreatDoor
namespace Go.Proofs.YtdcahhbipeaggaaGreatDoor
open Go.RowKit Go.Maps
theorem Xku{a b:ByteArray}:Xm a b=true↔a=b:=⟨λh=>XgQ (by simpa[Xm,bs] using h),λh=>by subst h;simp[Xm]⟩
theorem Xjy(a:ByteArray):Xm a a=true:=Xku.2 rfl
theorem Xik{a b:ByteArray}:Xm a b=false↔a≠b:=by rw[<-Bool.not_eq_true,Xku]
theorem Xtc:Keyed Tryz.prog 9:=string_keyed Tryz.underlying9
def Q0(s:ByteArray)(xs:List ByteArray):Bool:=xs.any λt=>Xm t s
theorem XfU(s t:ByteArray)(xs:List ByteArray):Q0 s (t::xs)=(Xm t s||Q0 s xs):=by simp[Q0]
def Xbq(w:World)(b:Nat)(xs:List ByteArray):Prop:=
 ∃D:DataW Unit,w.ownsMap Tryz.prog 9 (plainElem Tryz.prog 4) b xs.length D/\∀(s:ByteArray) z,D.atKey (.string s.data.toList) z=if Q0 s xs then .lit (.bool true) else z
theorem Xbq.lt{w:World}{b:Nat}{xs:List ByteArray}(h:Xbq w b xs):b<w.heap.size:=by obtain⟨D,h1,_⟩:=h;exact h1.lt
theorem Xbq.kept{w w':World}{b:Nat}{xs:List ByteArray}(h:Xbq w b xs)(hb:w'.heap[b]? =w.heap[b]?):Xbq w' b xs:=by
 obtain⟨D,⟨es,clock,h1,h2⟩,h3⟩:=h;exact⟨D,⟨es,clock,hb.trans h1,h2⟩,h3⟩
theorem Xbq.below{w w':World}{b:Nat}{xs:List ByteArray}(h:Xbq w b xs)(hb:Below w.heap.size w w'):Xbq w' b xs:=h.kept (hb.block b h.lt)
theorem Xbq.alloc{w:World}{b:Nat}{xs:List ByteArray}(h:Xbq w b xs)(o:Obj):Xbq (w.alloc o) b xs:=h.below (brf.alloc nr _)
theorem Xbq.made(w:World):Xbq (w.alloc (.map #[] 0)) w.heap.size []:=⟨.map [],World.ownsMap_made _ _ _ _,λ_ _=>rfl⟩
theorem Xk9{v:Value}{b:Bool}{ps:List MemPlace}(h:plainElem (H:=Unit) Tryz.prog 4 v=some (.lit (.bool b),ps)):v=.bool b:=by
 unfold plainElem at h;rw[Tryz.underlying4] at h;cases v<;>simp at h
 rw[h.1]
theorem Xbq.lookup{w:World}{b:Nat}{xs:List ByteArray}(h:Xbq w b xs)(s:ByteArray)(hs:s.size<=maxLen):(Instr.lookup 239 (.map (some b)) (.string s) false).run Tryz.prog w=.ok (.bool (Q0 s xs)) w:=by
 obtain⟨D,h1,h2⟩:=h;obtain⟨v,ps,hC,hv⟩:=h1.lookup Xtc Tryz.underlying239 (show(zeroValue 4).run Tryz.prog w=.ok (.bool false) w by kernel_rfl) (plainElem_bool Tryz.underlying4 false) (WideMaps.keyOf_string_mk Tryz.underlying9 hs);rw[h2] at hv;have e:v=.bool (Q0 s xs):=by
  cases hm:Q0 s xs
  ·rw[hm,if_neg (by simp)] at hv;exact Xk9 hv
  ·rw[hm,if_pos rfl] at hv;exact Xk9 hv
 rw[hC,e]
theorem Xbq.put{w':World}{b:Nat}{xs:List ByteArray}{s:ByteArray}{D:DataW Unit}(h3:∀(s:ByteArray) z,D.atKey (.string s.data.toList) z=if Q0 s xs then .lit (.bool true) else z)(hD:IsMap D)(h1:w'.ownsMap Tryz.prog 9 (plainElem Tryz.prog 4) b (xs.length+1) (D.put (.string s.data.toList) (.lit (.bool true)))):Xbq w' b (s::xs):=by
 refine⟨_,h1,λt z=> ?_⟩;by_cases e:t=s
 ·subst e;rw[atKey_put_same hD (by trivial),XfU,Xjy];rfl
 ·rw[atKey_put_other (λh=>e (by
   injection h with h;cases t;cases s
   simp only[ByteArray.mk.injEq]
   exact Array.toList_inj.1 h)),h3,XfU,Xik.2 (λh=>e h.symm)]
  rfl
theorem XmA{w:World}{ops:Array Oper}{rest:List Oper}{o:Oper}{a:Act}{Q:Exit->Act->World->Prop}{b:Nat}{xs:List ByteArray}(h:Xbq w b xs)(s:ByteArray)(hs:s.size<=maxLen)(hn:xs.length<maxLen)
 (hg:o.guard=none) (m x v:Operand) (hC:o.op=Op.mapUpdate 239 m x v) (hm:a.eval m=.map (some b)) (hx:a.eval x=.string s) (hv:a.eval v=.bool true)
 (hK:∀w',Xbq w' b (s::xs)->w.grownBy w' (some b)->wpList Tryz.prog ops Q rest (a.put o.dst undef) w'):wpList Tryz.prog ops Q (o::rest) a w:=by
 obtain⟨D,h1,h2⟩:=h;exact wpList_mapUpdate_own w hg m x v 239 hC 9 4 Xtc Tryz.underlying239 (plainElem Tryz.prog 4) b xs.length D hm h1 hn (.string s) (.bool true) (.string s.data.toList) hx hv (WideMaps.keyOf_string_mk Tryz.underlying9 hs) (.lit (.bool true)) [] (plainElem_bool Tryz.underlying4 true) λw' h' hD=>hK w' (Xbq.put h2 h1.isMap h') hD
end Go.Proofs.YtdcahhbipeaggaaGreatDoor
namespace Go.Proofs.YtdcahhbipeaggaaGreatDoor
open Go Go.RowKit Go.Maps
theorem Xum{n:Int}(h: -9223372036854775808<=n/\n<=9223372036854775807):IntKind.i64.wrap n=n:=by rw[IntKind.wrap_i64];omega
theorem XpD(s:Xd)(x:Yu)(hv:X0 s=true)(h1: -1048576<=x.weight)(h2:x.weight<=1048576)(w:World):Calls Tryz.prog 159 #[.agg #[.string s.name,.int .i64 s.depth,.int .i64 s.low,.int .i64 s.high,.int .i64 s.length,.slice s.aG.A s.aG.l.length s.aG.cap,.int .i64 s.aM,.int .i64 s.aN,.int .i64 s.aI,.int .i64 s.most,.int .i64 s.aJ,.slice s.aF.A s.aF.l.length s.aF.cap,.slice s.aE.A s.aE.l.length s.aE.cap],.agg #[.string x.name,.bool x.aM,.int .i64 x.weight]] w (Xc w (.int .i64 (Xj8 s x))):=by
 obtain⟨W1,hH,hI,hJ,hK⟩:=bxst w s;obtain⟨W,hL,hM,hD,hE⟩:=boxed W1 (.cells #[.string x.name,.bool x.aM,.int .i64 x.weight] 60);have hb:Below w.heap.size w W:=hJ.trans (hD.mono (by omega));have hC:=(hD.block _ (by omega)).trans hK;rw[hI] at hE;have hc:=And.intro (Xd.boxed hC (by omega) (Xb.refl W.heap.size W)) (Yu.boxed hE (by omega) (Xb.refl W.heap.size W))
 simp only[Xb.refl] at hc;obtain⟨-,-,-,hp,-⟩:=ZN hv;have hG:=Xk8 hv h1 h2;have HB:=Xa hb;have HW:=Xa (show(w.alloc (.cells #[.string s.name,.int .i64 s.depth,.int .i64 s.low,.int .i64 s.high,.int .i64 s.length,.slice s.aG.A s.aG.l.length s.aG.cap,.int .i64 s.aM,.int .i64 s.aN,.int .i64 s.aI,.int .i64 s.most,.int .i64 s.aJ,.slice s.aF.A s.aF.l.length s.aF.cap,.slice s.aE.A s.aE.l.length s.aE.cap] 57)).alloc (.cells #[.string x.name,.bool x.aM,.int .i64 x.weight] 60)=W by rw[<-hH,<-hL]);clear hH hL hJ hD hK hE hC hb hv hI hM
 unfold Xj8 at hG ⊢;obtain⟨xn,xp,xw⟩:=x;simp only at*;cases xp
 ·simp only[Bool.false_eq_true,if_false] at hG ⊢;go_enter Tryz.func159,Tryz.ntmps159;go_upto_region 1 with fail;rw[HW.out];go_wp2_with fail;go_ret;exact Xc.mk rfl HB.out
 ·simp only[if_true] at hG ⊢;have hN:IntKind.i64.wrap (s.aI*xw)=s.aI*xw:=Xum (by omega);go_enter Tryz.func159,Tryz.ntmps159;go_upto_region 1 with fail;rw[HW.out];go_wp2_with fail;go_ret;exact Xc.mk rfl HB.out
theorem Xl4{l:List Yu}{k:Nat}{x:Yu}:Q0 x.name (((l.take k).map (·.name)).reverse)=(l.take k).any (λy=>Xm y.name x.name):=by
 unfold Q0;rw[List.any_reverse,List.any_map];rfl
theorem Xbn(A:Option Addr)(cap:Nat)(l:List Yu)(hW:∀x∈l,x.ok)(w:World)(B:Nat)(hB:B<=w.heap.size)(hN:XA w B 3 Yu.cells ⟨A,cap,l⟩):Calls Tryz.prog 103 #[.slice A l.length cap] w (Xc w (.bool (Y3 l))):=by
 have pQ:l.length<=cap:=hN.1;have pR:cap<=9223372036854775807:=hN.2.1;have pF:=Xa (hN.to brf hB);have pG:=Xa hW;clear hN hW;by_cases hn:100<(l.length:Int)
 ·rw[Xnt hn];go_enter Tryz.func103,Tryz.ntmps103;go_wp2_with fail;go_ret;exact Xc.mk rfl brf
 have hX:=Xa (λ(k:Nat) (x:Yu) (hx:l[k]? =some x) (h:XbD l k x=false)=>XrB hx h);have hJ:=Xa (λ(k:Nat) (hk:l.length<=k) (hu:YA (XbD l) l k)=>Xpk (l:=l) (by omega) hk hu);obtain⟨r,hr⟩:∃r,r=Y3 l:=⟨_,rfl⟩
 rw[<-hr] at hX hJ ⊢;clear hr;have pH:=Xa (Xbq.made w);have pI:=Xa (show Below w.heap.size w (w.alloc (.map #[] 0)) from brf.alloc nr _);have pJ:= @run_makeMap Tryz.prog;go_enter Tryz.func103,Tryz.ntmps103;go_wp2_with fail;clear pJ;go_loopw [12] (λv wr=>∃k:Nat,v=.int .i64 k/\k<=l.length/\Hid (YA (XbD l) l k)/\Hid (Xbq wr w.heap.size (((l.take k).map (·.name)).reverse))/\Hid (Below w.heap.size w wr)) (λv _=>l.length-(intOf v).toNat)
 case atStart=>exact⟨0,rfl,Nat.zero_le _,Xa (YA.zero _ _),pH,pI⟩
 case round=>
  obtain⟨k,rfl,hk,hK,hE,hC⟩:=hrel;by_cases pK:k<l.length
  ·obtain⟨b,off,hA,hb,hG⟩:=pF.out.2.2 (show 0<l.length by omega);simp only at hA;subst hA;obtain⟨x,hx⟩:∃x,l[k]? =some x:=⟨l[k],lgE pK⟩
   have he:=Yu.elem hx hb hG ⟨wr,hC.out⟩;simp only at he;have hY:=pG.out x (lmg hx);have hO:=hY.name;have hlen:(((l.take k).map (·.name)).reverse).length=k:=by rw[List.length_reverse,List.length_map,List.length_take];omega
   obtain⟨V,hV,pL,hZ,pA⟩:=boxed wr (.cells #[.string x.name,.bool x.aM,.int .i64 x.weight] 60);have hL:=λy:Xb V.heap.size V=>Yu.boxed pA (by omega) y;have hP:=hL (Xb.refl _ _);simp only[Xb.refl] at hP;have pB:Xbq V w.heap.size (((l.take k).map (·.name)).reverse):=by rw[hV];exact hE.out.alloc _
   have hQ:=Xa (λy:Xb V.heap.size V=>pB.below y.below);have hH:=λy:Xb V.heap.size V=>(hQ.out y).lookup x.name hO;have hI:=Xa (λy:Xb V.heap.size V=>(show Below w.heap.size w y.val from hC.out.trans ((hZ.mono hC.out.size).trans (y.below.mono (by have:=hC.out.size;omega)))));have pC:=Xa (show((l.take (k+1)).map (·.name)).reverse=x.name::((l.take k).map (·.name)).reverse by rw[List.take_add_one,hx];simp);have pD:Q0 x.name (((l.take k).map (·.name)).reverse)=(l.take k).any (λy=>Xm y.name x.name):=Xl4;have hD:=Xa (λh=>hX.out k x hx h)
   have HX:=Xa hx;have hR:=Xa pD;have HV:=Xa hV;have hM:(((l.take k).map (·.name)).reverse).length<maxLen:=by rw[hlen];unfold maxLen;omega
   have KN:=Xa (Xc.first (XK x.name V hO));obtain⟨xs,pE⟩:∃xs,xs=((l.take k).map (·.name)).reverse:=⟨_,rfl⟩
   rw[<-pE] at hQ hH pC hR hM;clear hG hx hY hV hZ pA pL pB pD hlen pE hE;go_upto_region 7 with fail;rw[<-HV.out];cases g1:XF x.name
   ·rw[g1] at KN;go_wp2_with (go_at_call 61;refine KN.out.mono ?_;rintro e w' ⟨rfl,y,rfl⟩)
    go_ret;exact Xc.mk (congrArg Value.bool (hD.out (by simp[XbD,Xaf,g1])).symm) (hI.out y)
   rw[g1] at KN;cases g2:Q0 x.name xs
   rotate_left
   ·rw[g2] at hH;go_wp2_with (go_at_call 61;refine KN.out.mono ?_;rintro e w' ⟨rfl,y,rfl⟩;have hT:=hL y;have hU:=hH y)
    go_ret;exact Xc.mk (congrArg Value.bool (hD.out (by rw[XbD,<-hR.out,g2];simp)).symm) (hI.out y)
   rw[g2] at hH;by_cases g3:x.weight< -1048576
   ·go_wp2_with (go_at_call 61;refine KN.out.mono ?_;rintro e w' ⟨rfl,y,rfl⟩;have hT:=hL y;have hU:=hH y)
    go_ret
    exact Xc.mk (congrArg Value.bool (hD.out (by
     have h3:¬-1048576<=x.weight:=by omega
     simp[XbD,Xaf,Xg,h3])).symm) (hI.out y)
   by_cases g4:1048576<x.weight
   ·go_wp2_with (go_at_call 61;refine KN.out.mono ?_;rintro e w' ⟨rfl,y,rfl⟩;have hT:=hL y;have hU:=hH y)
    go_ret
    exact Xc.mk (congrArg Value.bool (hD.out (by
     have h3:¬x.weight<=1048576:=by omega
     simp[XbD,Xaf,Xg,h3])).symm) (hI.out y)
   have HJ:=Xa (show XbD l k x=true by
    have h3: -1048576<=x.weight:=by omega
    have h4:x.weight<=1048576:=by omega
    rw[XbD,<-hR.out,g2]
    simp[Xaf,Xg,g1,h3,h4])
   go_wp2_with (first
    |(go_at_call 61;refine KN.out.mono ?_;rintro e w' ⟨rfl,y,rfl⟩;have hT:=hL y;have hU:=hH y)
    |(at_mapUpdate;refine XmA (hQ.out y) x.name hO hM rfl _ _ _ rfl rfl rfl rfl ?_;intro w2 pM pN))
   have pO:=Below.grown (hI.out y) pN (hI.out y).size (λj hj=>by injection hj with hj;omega);exact⟨⟨k+1,by go_num,by omega,Xa (hK.out.next HX.out HJ.out),Xa (by rw[pC.out];exact pM),Xa pO⟩,by simp[intOf];omega⟩
  ·have pP:=Xa (hJ.out k (by omega) hK.out);go_wp2_with fail;go_ret;exact Xc.mk (congrArg Value.bool pP.out.symm) hC.out
end Go.Proofs.YtdcahhbipeaggaaGreatDoor
namespace Go.Proofs.YtdcahhbipeaggaaGreatDoor
open Go Go.RowKit Go.Maps
theorem XjY:∀args w,(callFunc 158 args).run Tryz.prog w=.ok (.enter 158 args) w:=XZ Tryz.func158 (by kernel_rfl) rfl
theorem XmO(w:World):Calls Tryz.prog 158 #[.int .i64 0] w (Xc w (.bool false)):=by
 go_enter Tryz.func158,Tryz.ntmps158;go_wp2;go_ret;exact Xc.mk rfl brf
theorem Xtl{W:World}{g:Nat}{t:TypeId}(l:List Int)(hl:l.length<=1000)(h:W.heap[g]? =some (.cells (l.map (Value.int .i64)).toArray t (0,0))):XA W W.heap.size 1 Xj ⟨some ⟨g,0,none⟩,l.length,l⟩:=by
 refine⟨Nat.le_refl _,show l.length<=maxLen by unfold maxLen;omega,λh0=>⟨g,0,rfl,(agS h).1,λi x hx j u hu=> ?_⟩⟩;have hj:j=0:=by
  have:=(lgS hu).1;simp[Xj] at this;omega
 subst hj;have hC:u=.int .i64 x:=by simpa[Xj] using hu.symm
 subst hC;refine(Joins.cell_of_block h _).trans ?_;have hD:=(lgS hx).1;simp only[Nat.zero_add,Nat.mul_one,Nat.add_zero,List.getElem?_toArray,List.getElem?_map,hx];rfl
theorem XqL(s:Xd)(hE:s.ok)(w:World)(B:Nat)(hB:B<=w.heap.size)(hG:Xd.at_ w B s):Calls Tryz.prog 104 #[.agg #[.string s.name,.int .i64 s.depth,.int .i64 s.low,.int .i64 s.high,.int .i64 s.length,.slice s.aG.A s.aG.l.length s.aG.cap,.int .i64 s.aM,.int .i64 s.aN,.int .i64 s.aI,.int .i64 s.most,.int .i64 s.aJ,.slice s.aF.A s.aF.l.length s.aF.cap,.slice s.aE.A s.aE.l.length s.aE.cap],.int .i64 0,.int .i64 0] w (Xc w (XkF s (XaM s))):=by
 obtain⟨W,hW,hN,hD,hH⟩:=bxst w s;have hc:=λy:Xb W.heap.size W=>Xd.boxed hH (by omega) y;have hO:=hc (Xb.refl _ _);simp only[Xb.refl] at hO;have hI:=bdo hD;have hC:=hG.to (hD.mono hB) (show B<=W.heap.size by omega);have KV:=Xa (Xc.first (XbG s hE W W.heap.size nr hC))
 have hJ:=Xa hI;have HW:=Xa hW;cases hv:X0 s
 ·rw[Xa3 hv] at KV;rw[Xa3 hv];clear hW hH hD hI hG hC hE hv;go_enter Tryz.func104,Tryz.ntmps104;go_upto_region 1 with fail;rw[<-HW.out];go_wp2_with (go_at_call 17;refine KV.out.mono ?_;rintro e w' ⟨rfl,y,rfl⟩)
  go_ret2;exact Xc.mk rfl (hJ.out y)
 ·obtain⟨hP,hQ,-⟩:=QE hv;obtain⟨-,-,-,hp,-⟩:=ZN hv;rw[YO hv] at KV;rw[YO hv];obtain⟨n,hn⟩:∃n,n=XaM s:=⟨_,rfl⟩
  rw[<-hn] at KV hP hQ ⊢;clear hW hH hD hI hG hC hE hv hn hN;go_enter Tryz.func104,Tryz.ntmps104;go_upto_region 1 with fail;rw[<-HW.out];go_upto_region 4 with (go_at_call 17;refine KV.out.mono ?_;rintro e w' ⟨rfl,y,rfl⟩;have hU:=hc y)
  obtain⟨V,hV,hR,hK,hL⟩:=boxed y.val (.cells #[.int .i64 0,.int .i64 0] 3 (0,0))
  have KC:=Xa (Xc.first (ZQ (some ⟨y.val.heap.size,0,none⟩) 2 [0,0] (λ_=>false) _ #[] XjY V V.heap.size nr (Xtl [0,0] (by simp) hL) (λx e he=>by
   have h0:e=0:=by
    obtain⟨j,hj⟩:=List.getElem?_of_mem he
    match j,hj with
    |0,hj=>simpa using hj.symm
    |1,hj=>simpa using hj.symm
    |j+2,hj=>simp at hj
   subst h0
   exact XmO x.val)))
  have hM:=Xa (λz:Xb V.heap.size V=>(show Below W.heap.size W z.val from y.below.trans ((hK.mono y.size).trans (z.below.mono (by have:=y.size;omega)))));have hT:=λz:Xb V.heap.size V=>hc ⟨z.val,hM.out z⟩;have HV:=Xa hV;clear hV hK hL hR;go_wp2_with (go_at_call 95;rw[<-HV.out];refine KC.out.mono ?_;rintro e w' ⟨rfl,z,rfl⟩;have hX:=hT z)
  go_ret2;exact Xc.mk (by simp) (hJ.out ⟨z.val,hM.out z⟩)
end Go.Proofs.YtdcahhbipeaggaaGreatDoor
namespace Go.Proofs.YtdcahhbipeaggaaGreatDoor
open Go Go.RowKit
theorem Xtj{w:World}{base cap:Nat}{A:Option Addr}{l:List Int}(h:w.ownsRow base 3 1 (.slice A l.length cap) l.length (l.map (Value.int .i64))):XA w w.heap.size 1 Xj ⟨A,cap,l⟩:=by
 rcases h.2 with ⟨h1,h2⟩|⟨g,c,cur,h1,h2,h3,h4,h5,h6,h7⟩
 ·injection h1 with a b c;have hl:l=[]:=List.eq_nil_of_length_eq_zero h2;subst hl a c;exact⟨Nat.le_refl _,Nat.zero_le _,λh=>absurd h (by simp)⟩
 ·injection h1 with a b c';subst a;subst c';refine⟨h4,h5,λ_=>⟨g,0,rfl,(agS h3).1,λi x hi j u hu=> ?_⟩⟩;have hj:j=0:=by
   have:=(lgS hu).1;simp[Xj] at this;omega
  subst hj;have hC:u=.int .i64 x:=by simpa[Xj] using hu.symm
  subst hC;have hD:i<l.length:=(lgS hi).1;have h8:(l.map (Value.int .i64))[i]? =some (.int .i64 x):=by rw[List.getElem?_map,hi];rfl
  rw[<-h7,List.getElem?_take] at h8;rw[if_pos (by omega)] at h8;rw[Nat.zero_add,Joins.cell_of_block h3,<-Array.getElem?_toList,Nat.mul_one,Nat.add_zero];exact h8
def ISt(W:World)(v:Value)(l:List Int)(x:World):Prop:=x.ownsRow W.heap.size 3 1 v l.length (l.map (Value.int .i64))/\Below W.heap.size W x
theorem ISt.to{W x y:World}{v:Value}{l:List Int}(h:ISt W v l x)(hb:Below x.heap.size x y):ISt W v l y:=⟨J1 h.1 hb,h.2.trans (hb.mono h.2.size)⟩
theorem ISt.grow{W x y:World}{v:Value}{l:List Int}{g cap:Nat}{n:Int}(h:ISt W v l x)(hC:y.ownsRow W.heap.size 3 1 (.slice (some ⟨g,0,none⟩) (l.length+1) cap) (l.length+1) (l.map (Value.int .i64)++[.int .i64 n]))(hg:x.grownBy y v.ownBlock):
 ISt W (.slice (some ⟨g,0,none⟩) (l.length+1) cap) (l++[n]) y:=by
 refine⟨?_,Below.grown h.2 hg h.2.size (Xb2 h.1)⟩;rw[List.map_append,List.length_append];exact hC
theorem ISt.sl{W x:World}{v:Value}{l:List Int}(h:ISt W v l x):∃S:Sl Int,v=.slice S.A S.l.length S.cap/\S.l=l/\XA x x.heap.size 1 Xj S:=by
 rcases h.1.2 with ⟨e,h0⟩|⟨g,c,cur,e,_⟩
 ·have hl:l=[]:=List.eq_nil_of_length_eq_zero h0;subst hl;exact⟨⟨none,0,[]⟩,e,rfl,Nat.le_refl _,Nat.zero_le _,λh=>absurd h (by simp)⟩
 ·have h1:=h.1;rw[e] at h1;exact⟨⟨some ⟨g,0,none⟩,c,l⟩,e,rfl,Xtj h1⟩
theorem Xvu:(Tryz.prog.info? 3).map (λi=>(i.zero,i.size,i.bytes))=some (some (.int .i64 0),1,8):=by kernel_rfl
theorem Xnz:∃i,Tryz.prog.info? 3=some i/\i.zero=some (.int .i64 0)/\i.size=1/\i.bytes=8:=by
 have h:=Xvu;cases hi:Tryz.prog.info? 3 with
 |none=>rw[hi] at h;cases h
 |some i=>
  rw[hi] at h;simp only[Option.map_some,Option.some.injEq,Prod.mk.injEq] at h;exact⟨i,rfl,h.1,h.2.1,h.2.2⟩
end Go.Proofs.YtdcahhbipeaggaaGreatDoor
namespace Go.Proofs.YtdcahhbipeaggaaGreatDoor
open Go Go.RowKit Go.Maps
theorem XqH{l:List Int}{K:Int}(h:∀x∈l,-K<=x/\x<=K): -(K*l.length)<=l.sum/\l.sum<=K*l.length:=by
 induction l with
 |nil=>simp
 |cons a l ih=>
  have h1:=h a (by simp);have h2:=ih (λx hx=>h x (by simp[hx]));rw[List.sum_cons,List.length_cons];have e:K*((l.length+1:Nat):Int)=K*(l.length:Int)+K:=by rw[Int.natCast_add,Int.mul_add];simp
  rw[e];omega
end Go.Proofs.YtdcahhbipeaggaaGreatDoor
namespace Go.Proofs.YtdcahhbipeaggaaGreatDoor
open Go Go.RowKit Go.Maps
theorem Xtd{x:Yu}(h:Xaf x=true):Y3 [x]=true:=by
 unfold Y3 X8 YV;simp[XbD,h,YV]
theorem Xkb(s:Xd)(x:Yu)(sok:s.ok)(xok:x.ok)(hv:X0 s=true)(hx:Xaf x=true)(w:World)(B:Nat)(hB:B<=w.heap.size)(sat:Xd.at_ w B s):
 Calls Tryz.prog 105 #[.agg #[.string s.name,.int .i64 s.depth,.int .i64 s.low,.int .i64 s.high,.int .i64 s.length,.slice s.aG.A s.aG.l.length s.aG.cap,.int .i64 s.aM,.int .i64 s.aN,.int .i64 s.aI,.int .i64 s.most,.int .i64 s.aJ,.slice s.aF.A s.aF.l.length s.aF.cap,.slice s.aE.A s.aE.l.length s.aE.cap],.agg #[.string x.name,.bool x.aM,.int .i64 x.weight]] w (Xc w (.tuple #[.int .i64 (Xj8 s x),.int .i64 0])):=by
 obtain⟨W1,hH,hI,hJ,hK⟩:=bxst w s;obtain⟨W,hL,hO,hD,hG⟩:=boxed W1 (.cells #[.string x.name,.bool x.aM,.int .i64 x.weight] 60);have hb:Below w.heap.size w W:=hJ.trans (hD.mono (by omega));have hE:=(hD.block _ (by omega)).trans hK;rw[hI] at hG;have hc:=λy:Xb W.heap.size W=>And.intro (Xd.boxed hE (by omega) y) (Yu.boxed hG (by omega) y)
 have hP:=hc (Xb.refl _ _);simp only[Xb.refl] at hP;have hM:=bdo hb;have satW:=sat.to (hb.mono hB) (show B<=W.heap.size by omega);have KV:=Xa (Xc.first (ZR s sok W W.heap.size nr satW));rw[hv] at KV;have hC:=hx;simp only[Xaf,Xg,bae,decide_eq_true_eq] at hC
 have KB:=Xa (λ(y:World)=>(show Calls Tryz.prog 103 #[.slice (some ⟨y.heap.size,0,none⟩) 1 1] (y.alloc (.cells #[.string x.name,.bool x.aM,.int .i64 x.weight] 60 (0,0))) (Xc (y.alloc (.cells #[.string x.name,.bool x.aM,.int .i64 x.weight] 60 (0,0))) (.bool true)) by
  have hn:=heap_alloc_new y (.cells #[.string x.name,.bool x.aM,.int .i64 x.weight] 60 (0,0))
  have h:=Xbn (some ⟨y.heap.size,0,none⟩) 1 [x] (λz hz=>by rw[List.mem_singleton.1 hz];exact xok) (y.alloc (.cells #[.string x.name,.bool x.aM,.int .i64 x.weight] 60 (0,0))) _ nr ⟨Nat.le_refl _,(by show 1<=maxLen;unfold maxLen;decide),λ_=>⟨y.heap.size,0,rfl,(agS hn).1,λi z hz j u hu=>by
   have hi:i=0:=by
    have:=(lgS hz).1;simp at this;omega
   subst hi;have hQ:z=x:=by simpa using hz.symm
   subst hQ;rw[Nat.zero_mul,Nat.zero_add,Nat.zero_add];refine(Joins.cell_of_block hn j).trans ?_;have hj:=(lgS hu).1;simp only[Yu.cells,List.length_cons,List.length_nil] at hj
   match j,hj with
   |0,_=>simpa[Yu.cells] using hu
   |1,_=>simpa[Yu.cells] using hu
   |2,_=>simpa[Yu.cells] using hu⟩⟩
  rw[Xtd hx] at h
  exact h))
 have KC:=Xa (λy:Xb W.heap.size W=>Xc.after (x:=y) nr (XpD s x hv hC.2.1 hC.2.2 y.val));obtain⟨ch,hN⟩:∃ch,ch=Xj8 s x:=⟨_,rfl⟩
 rw[<-hN] at KC ⊢;have hR:=Xa hM;have HW:=Xa (show(w.alloc (.cells #[.string s.name,.int .i64 s.depth,.int .i64 s.low,.int .i64 s.high,.int .i64 s.length,.slice s.aG.A s.aG.l.length s.aG.cap,.int .i64 s.aM,.int .i64 s.aN,.int .i64 s.aI,.int .i64 s.most,.int .i64 s.aJ,.slice s.aF.A s.aF.l.length s.aF.cap,.slice s.aE.A s.aE.l.length s.aE.cap] 57)).alloc (.cells #[.string x.name,.bool x.aM,.int .i64 x.weight] 60)=W by rw[<-hH,<-hL]);clear hH hL hJ hD hK hG hE sat satW hb hM sok xok hv hx hN hI hO hC;go_enter Tryz.func105,Tryz.ntmps105
 go_upto_region 1 with fail;rw[HW.out]
 go_wp2_with (first
  |(go_at_call 63;refine KV.out.mono ?_;rintro e w' ⟨rfl,y,rfl⟩;have hT:=hc y)
  |(go_at_call 103;refine(KB.out y.val).mono ?_;rintro e w' ⟨rfl,hD⟩;obtain⟨z,rfl⟩:∃z:Xb W.heap.size W,w'=z.val:=⟨⟨w',(y.below.alloc y.size _).trans (hD.mono (y.below.alloc y.size _).size)⟩,rfl⟩;have hU:=hc z)
  |(go_at_call 159;refine(KC.out z).mono ?_;rintro e w' ⟨rfl,z2,rfl⟩))
 go_ret2;exact Xc.mk rfl (hR.out z2)
end Go.Proofs.YtdcahhbipeaggaaGreatDoor
namespace Go.Proofs.YtdcahhbipeaggaaGreatDoor
open Go Go.RowKit Go.Maps
theorem XqX{w:World}{B b off:Nat}{cap:Nat}{l:List Int}(h:XA w B 1 Xj ⟨some ⟨b,off,none⟩,cap,l⟩)(hl:0<l.length):∀j,j<l.length->w.cell? ⟨b,off+j,none⟩=some (.int .i64 (l.getD j 0)):=λj hj=>by
 obtain⟨b',off',e,-,hc⟩:=h.2.2 hl;injection e with e;injection e with e1 e2;have h1:=hc j l[j] (lgE hj) 0 _ rfl;rw[Nat.mul_one,Nat.add_zero] at h1;rw[List.getD,lgE hj,e1,e2];exact h1
end Go.Proofs.YtdcahhbipeaggaaGreatDoor
namespace Go.Proofs.YtdcahhbipeaggaaGreatDoor
open Go
theorem XlF(a b:Nat)(ha:a<2^62)(hb:b<2^62):bits .or .i64 (a:Int) (b:Int)=((a|||b:Nat):Int):=by
 show IntKind.i64.wrap ((BitVec.ofInt 64 (a:Int)|||BitVec.ofInt 64 (b:Int)).toNat:Int)=_;rw[BitVec.toNat_or,ofInt_u64 a (by omega),ofInt_u64 b (by omega)];have h:=Nat.or_lt_two_pow ha hb;exact Lib.wrap_i64_small _ (by omega)
theorem Xvm(a b:Nat)(ha:a<2^62)(hb:b<2^62):bits .and .i64 (a:Int) (b:Int)=((a&&&b:Nat):Int):=by
 show IntKind.i64.wrap ((BitVec.ofInt 64 (a:Int)&&&BitVec.ofInt 64 (b:Int)).toNat:Int)=_;rw[BitVec.toNat_and,ofInt_u64 a (by omega),ofInt_u64 b (by omega)];have h:a&&&b<=a:=Nat.and_le_left;exact Lib.wrap_i64_small _ (by omega)
theorem XlG{st i:Nat}(h:st.testBit i=false):st|||2^i=st+2^i:=Nat.eq_of_testBit_eq λj=>by
 rw[Xea h,Nat.testBit_or,Nat.testBit_two_pow]
theorem XmL{st i:Nat}(h:st.testBit i=true)(j:Nat):(st-2^i).testBit j=(st.testBit j&& !decide (i=j)):=by
 have hC:2^i<=st:=Nat.ge_two_pow_of_testBit h;have hb:(st-2^i).testBit i=false:=by
  cases hb:(st-2^i).testBit i with
  |false=>rfl
  |true=>
   have h2:=Nat.testBit_two_pow_add_eq (st-2^i) i;rw[show 2^i+(st-2^i)=st by omega,h,hb] at h2;cases h2
 have h3:=Xea hb j;rw[show st-2^i+2^i=st by omega] at h3;by_cases e:i=j
 ·subst e;rw[hb];simp
 ·rw[h3];simp[e]
theorem XpO{st i:Nat}(hC:st<2^62)(h:st.testBit i=true):bits .andNot .i64 (st:Int) ((2^i:Nat):Int)=((st-2^i:Nat):Int):=by
 have hD:2^i<=st:=Nat.ge_two_pow_of_testBit h;show IntKind.i64.wrap ((BitVec.ofInt 64 (st:Int)&&& ~~~BitVec.ofInt 64 ((2^i:Nat):Int)).toNat:Int)=_;rw[BitVec.toNat_and,BitVec.toNat_not,ofInt_u64 st (by omega),ofInt_u64 (2^i) (by omega)];have e:st&&&(2^64-1-2^i)=st-2^i:=Nat.eq_of_testBit_eq λj=>by
  have hi:i<64:=by
   rcases Nat.lt_or_ge i 64 with h4|h4
   ·exact h4
   ·have:=Nat.pow_le_pow_right (show 0<2 by decide) h4;omega
  have hw:(2^64-1).testBit i=true:=by rw[Xkf];simp[hi]
  rw[Nat.testBit_and,XmL hw,Xkf,XmL h];by_cases hj:j<64
  ·simp[hj]
  ·have:st.testBit j=false:=Xje (n:=62) hC (by omega);simp[this]
 rw[e];exact Lib.wrap_i64_small _ (Nat.lt_of_le_of_lt (Nat.sub_le st (2^i)) (by omega))
theorem Xn5(st i:Nat):(st/2^i)&&&1=(st.testBit i).toNat:=by
 rw[Nat.and_one_is_mod,Nat.testBit_eq_decide_div_mod_eq];rcases Nat.mod_two_eq_zero_or_one (st/2^i) with h|h<;>rw[h]<;>rfl
theorem Xvj(st i:Nat)(hC:st<2^62):bits .and .i64 ((st/2^i:Nat):Int) 1=if st.testBit i then 1 else 0:=by
 have h1:st/2^i<=st:=Nat.div_le_self _ _;have h2:=Xvm (st/2^i) 1 (by omega) (by decide);rw[show((1:Nat):Int)=1 from rfl] at h2;rw[h2,Xn5];cases st.testBit i<;>rfl
end Go.Proofs.YtdcahhbipeaggaaGreatDoor
namespace Go.Proofs.YtdcahhbipeaggaaGreatDoor
open Go Go.RowKit
theorem Xcu{n:Nat}(h:n<=40):IntKind.i64.wrap ((2:Int)^n)=((2^n:Nat):Int):=by
 have h2:2^n<=2^40:=Nat.pow_le_pow_right (by decide) h;rw[IntKind.wrap_i64];have e:((2:Int)^n)=((2^n:Nat):Int):=by simp
 rw[e];obtain⟨N,hN⟩:∃N,N=2^n:=⟨_,rfl⟩
 rw[<-hN] at h2 ⊢;omega
theorem XeN(n lb:Nat)(hn:n<=12)(w:World)(hc:w.cell? ⟨lb,0,none⟩=some (.int .i64 (n:Int))):
 Calls Tryz.prog 58 #[.pointer (some ⟨lb,0,none⟩)] w (Xc w (.int .i64 (((2^n-1:Nat):Int)))):=by
 have h1:1<=2^n:=Nat.two_pow_pos n;have h2:2^n<=2^12:=Nat.pow_le_pow_right (by decide) hn;have hw:=Xcu (n:=n) (by omega);have hC:(0:Int)<=(n:Int):=by omega
 have hD:(n:Int)<=64:=by omega
 obtain⟨N,hN⟩:∃N,N=2^n:=⟨_,rfl⟩
 rw[<-hN] at h1 h2 hw ⊢;have HN:=Xa hN;clear hN;go_enter Tryz.func58,Tryz.ntmps58;go_wp2_with fail;go_ret;exact Xc.mk (congrArg (Value.int .i64) (by omega)) brf
theorem Xqt(n lb:Nat)(hn:n<=12)(st:Int)(g:Nat)(caps:Array Value)(p:Nat->Bool)(eg:∀args w,(callFunc g args).run Tryz.prog w=.ok (.enter g args) w)(w:World)(hc:w.cell? ⟨lb,0,none⟩=some (.int .i64 (n:Int)))
 (hp:∀(x:Xb w.heap.size w) (i:Nat),i<n->Calls Tryz.prog g (#[.int .i64 (i:Int)]++caps) x.val (Xc x.val (.bool (p i)))):
 Calls Tryz.prog 59 #[.pointer (some ⟨lb,0,none⟩),.int .i64 st,.func (.func g) #[] caps] w (Xc w (.bool ((List.range n).any p))):=by
 have HP:=Xa hp;clear hp;go_enter Tryz.func59,Tryz.ntmps59;go_wp2_with fail;go_loopw [12] (λv wr=>∃k:Nat,v=.int .i64 k/\k<=n/\(∀j,j<k->p j=false)/\∃x:Xb w.heap.size w,wr=x.val) (λv _=>n-(intOf v).toNat)
 case atStart=>exact⟨0,rfl,Nat.zero_le _,λj hj=>absurd hj (Nat.not_lt_zero _),Xb.refl _ _,rfl⟩
 case round=>
  obtain⟨k,rfl,hk,hC,x,rfl⟩:=hrel;by_cases hG:k<n
  ·have KX:=Xa (Xc.after (x:=x) nr (HP.out x k hG));have hE:=Xa hC;clear hC;cases hD:p k
   ·rw[hD] at KX;go_wp2_with (refine KX.out.mono ?_;rintro e w' ⟨rfl,y,rfl⟩)
    exact⟨⟨k+1,by go_num,by omega,λj hj=>by
     by_cases e:j=k
     ·subst e;exact hD
     ·exact hE.out j (by omega),y,rfl⟩,by simp[intOf];omega⟩
   ·rw[hD] at KX;have HT:=Xa (show true=(List.range n).any p from(List.any_eq_true.2 ⟨k,List.mem_range.2 hG,hD⟩).symm);go_wp2_with (refine KX.out.mono ?_;rintro e w' ⟨rfl,y,rfl⟩)
    go_ret;exact Xc.mk (congrArg Value.bool HT.out) y.below
  ·have HT:=Xa (show false=(List.range n).any p by
    symm;rw[List.any_eq_false];intro j hj;rw[hC j (by have:=List.mem_range.1 hj;omega)]
    simp)
   clear hC;go_wp2_with fail;go_ret;exact Xc.mk (congrArg Value.bool HT.out) x.below
theorem XhZ(st i:Nat)(hC:st<4096):bits .and .i64 ((st:Int)/2^i) 1=if st.testBit i then 1 else 0:=by
 have h:=Xvj st i (by omega);rw[<-h];congr 1
theorem XpA:∀args w,(callFunc 106 args).run Tryz.prog w=.ok (.enter 106 args) w:=XZ Tryz.func106 (by kernel_rfl) rfl
theorem Xpz:∀args w,(callFunc 107 args).run Tryz.prog w=.ok (.enter 107 args) w:=XZ Tryz.func107 (by kernel_rfl) rfl
theorem XuK(lb rb sv pv N st i:Nat)(f:Nat->Bool)(hK:st<N)(hN:N<=4096)(hi:i<12)(w:World)(hG:w.cell? ⟨sv,0,none⟩=some (.int .i64 (st:Int)))(hH:w.cell? ⟨pv,0,none⟩=some (.pointer (some ⟨lb,0,none⟩)))
 (hl:w.cell? ⟨lb,2,none⟩=some (.slice (some ⟨rb,0,none⟩) N N)) (hr:∀j,j<N->w.cell? ⟨rb,j,none⟩=some (.bool (f j))) (hE:sv<w.heap.size/\pv<w.heap.size/\lb<w.heap.size/\rb<w.heap.size):
 Calls Tryz.prog 106 #[.int .i64 (i:Int),.pointer (some ⟨sv,0,none⟩),.pointer (some ⟨pv,0,none⟩)] w (Xc w (.bool (st.testBit i&&f (st-2^i)))):=by
 have f1:=λy:Xb w.heap.size w=>And.intro (y.cell hG hE.1) (And.intro (y.cell hH hE.2.1) (y.cell hl hE.2.2.1));have f0:=f1 (Xb.refl _ _);simp only[Xb.refl] at f0;have hC:=XhZ st i (by omega);have hP:(0:Int)<=(i:Int):=by omega
 have hQ:(i:Int)<=64:=by omega
 cases hb:st.testBit i
 ·rw[hb] at hC;simp only[Bool.false_eq_true,if_false] at hC;rw[Bool.false_and];clear hb hr hG hH hl;go_enter Tryz.func106,Tryz.ntmps106;go_upto_region 1 with fail;refine Xk (Xb.refl w.heap.size w) (by kernel_rfl) (by kernel_rfl) ?_
  repeat (go_big_quiet_step (fail))
  refine wpQuiet_nil ?_;intro z;go_wp2_with fail;go_ret;exact Xc.mk rfl z.below
 ·rw[hb] at hC;simp only[if_true] at hC;rw[Bool.true_and];have hL:2^i<=st:=Nat.ge_two_pow_of_testBit hb;have hI:=Xcu (n:=i) (by omega);have hD:=XpO (st:=st) (i:=i) (by omega) hb;obtain⟨j,hj⟩:∃j,j=st-2^i:=⟨_,rfl⟩
  have hM:j<N:=by rw[hj];exact Nat.lt_of_le_of_lt (Nat.sub_le _ _) hK
  obtain⟨q,hq⟩:∃q,q=2^i:=⟨_,rfl⟩
  rw[<-hj] at hD ⊢;rw[<-hq] at hD hI;have hR:(0:Int)<=(j:Int):=by omega
  have hT:(j:Int)<(N:Int):=by omega
  have hU:(N:Int)<=4096:=by omega
  have hO:=λy:Xb w.heap.size w=>y.cell (hr j hM) hE.2.2.2;have hJ:=hO (Xb.refl _ _);simp only[Xb.refl] at hJ;clear hb hr hG hH hl hL hj hq;go_enter Tryz.func106,Tryz.ntmps106;go_upto_region 1 with fail;refine Xk (Xb.refl w.heap.size w) (by kernel_rfl) (by kernel_rfl) ?_
  repeat (go_big_quiet_step (fail))
  refine wpQuiet_nil ?_;intro z;go_wp2_with fail;go_ret;exact Xc.mk rfl z.below
theorem XuJ(lb rb sv pv N st i:Nat)(f:Nat->Bool)(hP:st<N)(hN:N<=4096)(hi:i<12)(hG:st.testBit i=false->st+2^i<N)(w:World)(hH:w.cell? ⟨sv,0,none⟩=some (.int .i64 (st:Int)))(hI:w.cell? ⟨pv,0,none⟩=some (.pointer (some ⟨lb,0,none⟩)))
 (hl:w.cell? ⟨lb,3,none⟩=some (.slice (some ⟨rb,0,none⟩) N N)) (hr:∀j,j<N->w.cell? ⟨rb,j,none⟩=some (.bool (f j))) (hE:sv<w.heap.size/\pv<w.heap.size/\lb<w.heap.size/\rb<w.heap.size):
 Calls Tryz.prog 107 #[.int .i64 (i:Int),.pointer (some ⟨sv,0,none⟩),.pointer (some ⟨pv,0,none⟩)] w (Xc w (.bool (!st.testBit i&&f (st+2^i)))):=by
 have f1:=λy:Xb w.heap.size w=>And.intro (y.cell hH hE.1) (And.intro (y.cell hI hE.2.1) (y.cell hl hE.2.2.1));have f0:=f1 (Xb.refl _ _);simp only[Xb.refl] at f0;have hC:=XhZ st i (by omega);have hQ:(0:Int)<=(i:Int):=by omega
 have hR:(i:Int)<=64:=by omega
 cases hb:st.testBit i
 ·rw[hb] at hC;simp only[Bool.false_eq_true,if_false] at hC;rw[Bool.not_false,Bool.true_and];have hL:2^i<=2^12:=Nat.pow_le_pow_right (by decide) (by omega);have hJ:=Xcu (n:=i) (by omega);have hD:=XlF st (2^i) (by omega) (Nat.lt_of_le_of_lt hL (by decide));rw[XlG hb] at hD;obtain⟨j,hj⟩:∃j,j=st+2^i:=⟨_,rfl⟩
  have hM:j<N:=by rw[hj];exact hG hb
  obtain⟨q,hq⟩:∃q,q=2^i:=⟨_,rfl⟩
  rw[<-hj] at hD ⊢;rw[<-hq] at hD hJ;have hT:(0:Int)<=(j:Int):=by omega
  have hU:(j:Int)<(N:Int):=by omega
  have hV:(N:Int)<=4096:=by omega
  have hO:=λy:Xb w.heap.size w=>y.cell (hr j hM) hE.2.2.2;have hK:=hO (Xb.refl _ _);simp only[Xb.refl] at hK;clear hb hG hr hH hI hl hL hj hq;go_enter Tryz.func107,Tryz.ntmps107;go_upto_region 1 with fail;refine Xk (Xb.refl w.heap.size w) (by kernel_rfl) (by kernel_rfl) ?_
  repeat (go_big_quiet_step (fail))
  refine wpQuiet_nil ?_;intro z;go_wp2_with fail;go_ret;exact Xc.mk rfl z.below
 ·rw[hb] at hC;simp only[if_true] at hC;rw[Bool.not_true,Bool.false_and];clear hb hG hr hH hI hl;go_enter Tryz.func107,Tryz.ntmps107;go_upto_region 1 with fail;refine Xk (Xb.refl w.heap.size w) (by kernel_rfl) (by kernel_rfl) ?_
  repeat (go_big_quiet_step (fail))
  refine wpQuiet_nil ?_;intro z;go_wp2_with fail;go_ret;exact Xc.mk rfl z.below
end Go.Proofs.YtdcahhbipeaggaaGreatDoor
namespace Go.Proofs.YtdcahhbipeaggaaGreatDoor
open Go Go.RowKit Go.Maps Go.Deep
noncomputable def XbK(held:Nat->Bool)(n st:Nat):Bool:= @decide (Rch held n st) (Classical.propDecidable _)
noncomputable def Xbb(held:Nat->Bool)(n st:Nat):Bool:= @decide (Lds held n st) (Classical.propDecidable _)
section
variable {held:Nat->Bool} {n:Nat}
theorem Xix{st:Nat}:XbK held n st=true↔Rch held n st:=by unfold XbK;exact @decide_eq_true_iff _ (Classical.propDecidable _)
theorem Xba{st:Nat}:Xbb held n st=true↔Lds held n st:=by unfold Xbb;exact @decide_eq_true_iff _ (Classical.propDecidable _)
theorem Xn0{a b:Bool}(h:a=true↔b=true):a=b:=by cases a<;>cases b<;>simp_all
theorem XsL(st:Nat):XbK held n st=(held st&&(decide (st=0)||(List.range n).any λi=>st.testBit i&&XbK held n (st-2^i))):=by
 refine Xn0 ?_;rw[Xix,bae,Bool.or_eq_true,decide_eq_true_eq,List.any_eq_true];constructor
 ·intro hr;refine⟨hr.ok,?_⟩;cases hr with
  |zero _=>exact Or.inl rfl
  | @step s i hr hi hb _=>
   refine Or.inr ⟨i,List.mem_range.2 hi,?_⟩;rw[bae,Nat.add_sub_cancel,Xix];exact⟨by rw[Xea hb];simp,hr⟩
 ·rintro⟨h1,rfl|⟨i,hi,h2⟩⟩
  ·exact Rch.zero h1
  ·rw[bae,Xix] at h2;obtain⟨s,rfl,hs⟩:=Xuv h2.1;rw[Nat.add_sub_cancel] at h2;exact Rch.step h2.2 (List.mem_range.1 hi) hs h1
theorem Xta{st:Nat}:Xbb held n st=(held st&&(decide (st=2^n-1)||(List.range n).any λi=> !st.testBit i&&Xbb held n (st+2^i))):=by
 refine Xn0 ?_;rw[Xba,bae,Bool.or_eq_true,decide_eq_true_eq,List.any_eq_true];constructor
 ·intro hl;refine⟨hl.ok,?_⟩;obtain⟨st',hC⟩:∃s,s=st:=⟨_,rfl⟩
  rw[<-hC] at hl;cases hl with
  |whole _=>exact Or.inl hC.symm
  | @step _ i h3 hi hb hD=>
   rw[hC] at hb hD;refine Or.inr ⟨i,List.mem_range.2 hi,?_⟩;rw[bae,Bool.not_eq_true',Xba];exact⟨hb,hD⟩
 ·rintro⟨h3,rfl|⟨i,hi,h4⟩⟩
  ·exact Lds.whole h3
  ·rw[bae,Bool.not_eq_true',Xba] at h4;exact Lds.step h3 (List.mem_range.1 hi) h4.1 h4.2
end
theorem Xld{l:List Nat}{p q:Nat->Bool}(h:∀i∈l,p i=q i):l.any p=l.any q:=by
 induction l with
 |nil=>rfl
 |cons a l ih=>rw[List.any_cons,List.any_cons,h a (by simp),ih (λi hi=>h i (by simp[hi]))]
theorem XrO{I:Int}{cs:List Int}{K:Int}(hK:0<=K)(h:∀x∈cs,-K<=x/\x<=K)(st:Nat):I-K*cs.length<=Xan I cs st/\Xan I cs st<=I+K*cs.length:=by
 unfold Xan
 have h1:=XqH (l:=(List.range cs.length).map λi=>if st.testBit i then cs.getD i 0 else 0) (K:=K) (λx hx=>by
  obtain⟨i,hi,rfl⟩:=List.mem_map.1 hx;rw[List.mem_range] at hi;split
  ·have:cs.getD i 0=cs[i]:=by rw[List.getD,lgE hi];rfl
   rw[this];exact h _ (List.getElem_mem hi)
  ·omega)
 rw[List.length_map,List.length_range] at h1;omega
structure Lat(W0 lb hb rb gb n N:Nat)(fh fr fg:Nat->Bool)(w:World):Prop where
 n:w.cell? ⟨lb,0,none⟩=some (.int .i64 (n:Int))
 hs:w.cell? ⟨lb,1,none⟩=some (.slice (some ⟨hb,0,none⟩) N N)
 rs:w.cell? ⟨lb,2,none⟩=some (.slice (some ⟨rb,0,none⟩) N N)
 gs:w.cell? ⟨lb,3,none⟩=some (.slice (some ⟨gb,0,none⟩) N N)
 h:w.rowIs hb 4 N (λi=> .bool (fh i))
 r:w.rowIs rb 4 N (λi=> .bool (fr i))
 g:w.rowIs gb 4 N (λi=> .bool (fg i))
 base:W0<=lb/\W0<=hb/\W0<=rb/\W0<=gb
 apart:lb≠hb/\lb≠rb/\lb≠gb/\hb≠rb/\hb≠gb/\rb≠gb
 lt:lb<w.heap.size
theorem cell_of_block{w w':World}{b:Nat}(h:w'.heap[b]? =w.heap[b]?)(i:Nat):w'.cell? ⟨b,i,none⟩=w.cell? ⟨b,i,none⟩:=by
 unfold World.cell?;rw[h]
section
variable {W0 lb hb rb gb n N:Nat} {fh fr fg:Nat->Bool} {w w':World}
theorem Lat.all(h:Lat W0 lb hb rb gb n N fh fr fg w)(hl:w'.heap[lb]? =w.heap[lb]?)(hh:w'.heap[hb]? =w.heap[hb]?)(hr:w'.heap[rb]? =w.heap[rb]?)(hg:w'.heap[gb]? =w.heap[gb]?)(hs:w.heap.size<=w'.heap.size):Lat W0 lb hb rb gb n N fh fr fg w':=
 ⟨by rw[cell_of_block hl];exact h.n,by rw[cell_of_block hl];exact h.hs,by rw[cell_of_block hl];exact h.rs,by rw[cell_of_block hl];exact h.gs,
  h.h.of_block hh,h.r.of_block hr,h.g.of_block hg,h.base,h.apart,Nat.lt_of_lt_of_le h.lt hs⟩
theorem Lat.to(h:Lat W0 lb hb rb gb n N fh fr fg w)(b:Below w.heap.size w w'):Lat W0 lb hb rb gb n N fh fr fg w':=
 h.all (b.block _ h.lt) (b.block _ h.h.lt) (b.block _ h.r.lt) (b.block _ h.g.lt) b.size
theorem Lat.other(h:Lat W0 lb hb rb gb n N fh fr fg w){a:Addr}(hl:lb≠a.block)(hh:hb≠a.block)(hr:rb≠a.block)(hg:gb≠a.block)(v:Value):Lat W0 lb hb rb gb n N fh fr fg (w.setCell a v):=
 h.all (blk_setCell_other _ _ _ _ hl) (blk_setCell_other _ _ _ _ hh) (blk_setCell_other _ _ _ _ hr) (blk_setCell_other _ _ _ _ hg) (by simp[World.setCell])
theorem Lat.setH(h:Lat W0 lb hb rb gb n N fh fr fg w)(k:Nat)(b:Bool):Lat W0 lb hb rb gb n N (λj=>if j=k then b else fh j) fr fg (w.setCell ⟨hb,k,none⟩ (.bool b)):=by
 obtain⟨a1,a2,a3,a4,a5,a6⟩:=h.apart;have e:=blk_setCell_other w ⟨hb,k,none⟩ (.bool b) lb a1
 refine⟨by rw[cell_of_block e];exact h.n,by rw[cell_of_block e];exact h.hs,by rw[cell_of_block e];exact h.rs,by rw[cell_of_block e];exact h.gs,(h.h.set k (.bool b)).congr λj _=> ?_,
  h.r.setOther (a:=⟨hb,k,none⟩) (Ne.symm a4) _,h.g.setOther (a:=⟨hb,k,none⟩) (Ne.symm a5) _,h.base,h.apart,by have:=h.lt;simpa[World.setCell] using this⟩
 by_cases e:j=k<;>simp[e]
theorem Lat.setR(h:Lat W0 lb hb rb gb n N fh fr fg w)(k:Nat)(b:Bool):Lat W0 lb hb rb gb n N fh (λj=>if j=k then b else fr j) fg (w.setCell ⟨rb,k,none⟩ (.bool b)):=by
 obtain⟨a1,a2,a3,a4,a5,a6⟩:=h.apart;have e:=blk_setCell_other w ⟨rb,k,none⟩ (.bool b) lb a2
 refine⟨by rw[cell_of_block e];exact h.n,by rw[cell_of_block e];exact h.hs,by rw[cell_of_block e];exact h.rs,by rw[cell_of_block e];exact h.gs,h.h.setOther (a:=⟨rb,k,none⟩) a4 _,(h.r.set k (.bool b)).congr λj _=> ?_,
  h.g.setOther (a:=⟨rb,k,none⟩) (Ne.symm a6) _,h.base,h.apart,by have:=h.lt;simpa[World.setCell] using this⟩
 by_cases e:j=k<;>simp[e]
theorem Lat.setG(h:Lat W0 lb hb rb gb n N fh fr fg w)(k:Nat)(b:Bool):Lat W0 lb hb rb gb n N fh fr (λj=>if j=k then b else fg j) (w.setCell ⟨gb,k,none⟩ (.bool b)):=by
 obtain⟨a1,a2,a3,a4,a5,a6⟩:=h.apart;have e:=blk_setCell_other w ⟨gb,k,none⟩ (.bool b) lb a3
 refine⟨by rw[cell_of_block e];exact h.n,by rw[cell_of_block e];exact h.hs,by rw[cell_of_block e];exact h.rs,by rw[cell_of_block e];exact h.gs,h.h.setOther (a:=⟨gb,k,none⟩) a5 _,h.r.setOther (a:=⟨gb,k,none⟩) a6 _,
  (h.g.set k (.bool b)).congr λj _=> ?_,h.base,h.apart,by have:=h.lt;simpa[World.setCell] using this⟩
 by_cases e:j=k<;>simp[e]
theorem Lat.congr{fh' fr' fg':Nat->Bool}(h:Lat W0 lb hb rb gb n N fh fr fg w)(e1:∀j,j<N->fh j=fh' j)(e2:∀j,j<N->fr j=fr' j)(e3:∀j,j<N->fg j=fg' j):Lat W0 lb hb rb gb n N fh' fr' fg' w:=
 ⟨h.n,h.hs,h.rs,h.gs,h.h.congr λj hj=>by rw[e1 j hj],h.r.congr λj hj=>by rw[e2 j hj],h.g.congr λj hj=>by rw[e3 j hj],h.base,h.apart,h.lt⟩
end
theorem XaU:∀(os:List Obj) (X:World) (k:Nat),(∀j o,os[j]? =some o->(os.foldl World.alloc X).heap[X.heap.size+j]? =some o)/\(k<X.heap.size->(os.foldl World.alloc X).heap[k]? =X.heap[k]?)/\(os.foldl World.alloc X).heap.size=X.heap.size+os.length
 |[],X,k=>⟨λj o h=>by simp at h,λ_=>rfl,rfl⟩
 |o::os,X,k=>by
  have hz:(X.alloc o).heap.size=X.heap.size+1:=by simp
  obtain⟨-,-,i3⟩:=XaU os (X.alloc o) 0;refine⟨λj u h=> ?_,λhk=> ?_,?_⟩
  ·cases j with
   |zero=>
    have hu:o=u:=by simpa using h
    subst hu;rw[List.foldl_cons,Nat.add_zero,(XaU os (X.alloc o) X.heap.size).2.1 (by omega)];exact blk_alloc_new _ _
   |succ j=>
    have h2:=(XaU os (X.alloc o) 0).1 j u (by simpa using h);rw[hz] at h2;rw[List.foldl_cons,show X.heap.size+(j+1)=X.heap.size+1+j by omega];exact h2
  ·rw[List.foldl_cons,(XaU os (X.alloc o) k).2.1 (by omega)];exact blk_alloc_lt _ _ _ hk
  ·rw[List.foldl_cons,i3,hz,List.length_cons];omega
theorem Xht{B:Nat}{W:World}:∀(os:List Obj) (X:World),Below B W X->B<=X.heap.size->Below B W (os.foldl World.alloc X)
 |[],_,h,_=>h
 |o::os,X,h,hs=>Xht os (X.alloc o) (h.alloc hs o) (by simp;omega)
theorem XQ{W0 n N:Nat}{W X:World}(a b c d e:Nat)(os:List Obj)(hE:Below W0 W X)(hs:W0<=X.heap.size)
 (hl:os[d]? =some (.cells #[.int .i64 (n:Int),.slice (some ⟨X.heap.size+a,0,none⟩) N N,.slice (some ⟨X.heap.size+b,0,none⟩) N N,.slice (some ⟨X.heap.size+c,0,none⟩) N N] 144))
 (ha:os[a]? =some (.cells (madeCells #[.bool false] N) 4)) (hb:os[b]? =some (.cells (madeCells #[.bool false] N) 4)) (hc:os[c]? =some (.cells (madeCells #[.bool false] N) 4))
 (hp:os[e]? =some (.cells #[.pointer (some ⟨X.heap.size+d,0,none⟩)] 139)) (hG:[a,b,c,d,e].Nodup):
 Hid (Below W0 W (os.foldl World.alloc X).drew)/\Hid (Lat W0 (X.heap.size+d) (X.heap.size+a) (X.heap.size+b) (X.heap.size+c) n N (λ_=>false) (λ_=>false) (λ_=>false) (os.foldl World.alloc X).drew)/\
  Hid (W0<=X.heap.size+e/\X.heap.size+e<(os.foldl World.alloc X).drew.heap.size/\X.heap.size+e≠X.heap.size+d/\X.heap.size+e≠X.heap.size+a/\X.heap.size+e≠X.heap.size+b/\X.heap.size+e≠X.heap.size+c/\
   (os.foldl World.alloc X).drew.cell? ⟨X.heap.size+e,0,none⟩=some (.pointer (some ⟨X.heap.size+d,0,none⟩))):=by
 have hg:=λj o h=>(XaU os X 0).1 j o h;have hz:=(XaU os X 0).2.2;have hY:(os.foldl World.alloc X).drew.heap=(os.foldl World.alloc X).heap:=rfl;have hd:=(lgS hl).1;have he:=(lgS hp).1;have hD:∀j,os[j]? =some (.cells (madeCells #[.bool false] N) 4)->(os.foldl World.alloc X).drew.rowIs (X.heap.size+j) 4 N (λ_=> .bool false):=λj hj=>
  ⟨_,(by rw[hY];exact hg j _ hj),size_madeCells _ _,λi hi=>by simp[madeCells,hi,Nat.mod_one]⟩
 have hC:∀j o i,os[j]? =some (.cells o 144)->(os.foldl World.alloc X).drew.cell? ⟨X.heap.size+j,i,none⟩=o[i]? :=λj o i hj=>by
  unfold World.cell?;rw[hY,hg j _ hj];simp
 simp only[List.nodup_cons,List.mem_cons,List.not_mem_nil,or_false,not_or] at hG;obtain⟨⟨n1,n2,n3,n4⟩,⟨n5,n6,n7⟩,⟨n8,n9⟩,n10,-⟩:=hG
 refine⟨Xa (Below.drew (Xht os X hE hs)),Xa ⟨by rw[hC d _ 0 hl];rfl,by rw[hC d _ 1 hl];rfl,by rw[hC d _ 2 hl];rfl,by rw[hC d _ 3 hl];rfl,hD a ha,hD b hb,hD c hc,by omega,by omega,by rw[hY,hz];omega⟩,
  Xa ⟨by omega,by rw[hY,hz];omega,by omega,by omega,by omega,by omega,?_⟩⟩
 unfold World.cell?;rw[hY,hg e _ hp];rfl
end Go.Proofs.YtdcahhbipeaggaaGreatDoor
namespace Go.Proofs.YtdcahhbipeaggaaGreatDoor
open Go Go.RowKit Go.Maps Go.Deep
structure Z0(W:World)(lb hb rb gb pv n N:Nat)(fh fr fg:Nat->Bool)(x:World):Prop where
 bel:Below W.heap.size W x
 lat:Lat W.heap.size lb hb rb gb n N fh fr fg x
 pc:x.cell? ⟨pv,0,none⟩=some (.pointer (some ⟨lb,0,none⟩))
 base:W.heap.size<=pv
 lt:pv<x.heap.size
 apart:pv≠lb/\pv≠hb/\pv≠rb/\pv≠gb
structure Xbs(W:World)(lb hb rb gb pv ib n N:Nat)(fh fr fg:Nat->Bool)(fi:Nat->Int)(x:World):Prop where
 st:Z0 W lb hb rb gb pv n N fh fr fg x
 row:x.rowIs ib 3 N (λj=> .int .i64 (fi j))
 base:W.heap.size<=ib
 apart:ib≠lb/\ib≠hb/\ib≠rb/\ib≠gb/\ib≠pv
section
variable {W:World} {lb hb rb gb pv ib n N:Nat} {fh fr fg:Nat->Bool} {fi:Nat->Int} {x y:World}
theorem Z0.to(h:Z0 W lb hb rb gb pv n N fh fr fg x)(b:Below x.heap.size x y):Z0 W lb hb rb gb pv n N fh fr fg y:=
 ⟨h.bel.trans (b.mono h.bel.size),h.lat.to b,(b.cell h.lt).trans h.pc,h.base,Nat.lt_of_lt_of_le h.lt b.size,h.apart⟩
theorem Z0.lts(h:Z0 W lb hb rb gb pv n N fh fr fg x):lb<x.heap.size/\hb<x.heap.size/\rb<x.heap.size/\gb<x.heap.size/\pv<x.heap.size:=⟨h.lat.lt,h.lat.h.lt,h.lat.r.lt,h.lat.g.lt,h.lt⟩
theorem Z0.other(h:Z0 W lb hb rb gb pv n N fh fr fg x){b i:Nat}(hC:W.heap.size<=b)(h1:b≠lb)(h2:b≠hb)(h3:b≠rb)(h4:b≠gb)(h5:b≠pv)(v:Value):Z0 W lb hb rb gb pv n N fh fr fg (x.setCell ⟨b,i,none⟩ v):=
 ⟨h.bel.setCell hC _,h.lat.other (Ne.symm h1) (Ne.symm h2) (Ne.symm h3) (Ne.symm h4) _,(cell_of_block (blk_setCell_other _ ⟨b,i,none⟩ _ _ (Ne.symm h5)) 0).trans h.pc,h.base,by have:=h.lt;simpa[World.setCell] using this,h.apart⟩
theorem Z0.setH(h:Z0 W lb hb rb gb pv n N fh fr fg x)(k:Nat)(b:Bool):Z0 W lb hb rb gb pv n N (λj=>if j=k then b else fh j) fr fg (x.setCell ⟨hb,k,none⟩ (.bool b)):=
 ⟨h.bel.setCell h.lat.base.2.1 _,h.lat.setH k b,(cell_of_block (blk_setCell_other _ ⟨hb,k,none⟩ _ _ h.apart.2.1) 0).trans h.pc,h.base,by have:=h.lt;simpa[World.setCell] using this,h.apart⟩
theorem Z0.setR(h:Z0 W lb hb rb gb pv n N fh fr fg x)(k:Nat)(b:Bool):Z0 W lb hb rb gb pv n N fh (λj=>if j=k then b else fr j) fg (x.setCell ⟨rb,k,none⟩ (.bool b)):=
 ⟨h.bel.setCell h.lat.base.2.2.1 _,h.lat.setR k b,(cell_of_block (blk_setCell_other _ ⟨rb,k,none⟩ _ _ h.apart.2.2.1) 0).trans h.pc,h.base,by have:=h.lt;simpa[World.setCell] using this,h.apart⟩
theorem Z0.setG(h:Z0 W lb hb rb gb pv n N fh fr fg x)(k:Nat)(b:Bool):Z0 W lb hb rb gb pv n N fh fr (λj=>if j=k then b else fg j) (x.setCell ⟨gb,k,none⟩ (.bool b)):=
 ⟨h.bel.setCell h.lat.base.2.2.2 _,h.lat.setG k b,(cell_of_block (blk_setCell_other _ ⟨gb,k,none⟩ _ _ h.apart.2.2.2) 0).trans h.pc,h.base,by have:=h.lt;simpa[World.setCell] using this,h.apart⟩
theorem Z0.congr{fh' fr' fg':Nat->Bool}(h:Z0 W lb hb rb gb pv n N fh fr fg x)(e1:∀j,j<N->fh j=fh' j)(e2:∀j,j<N->fr j=fr' j)(e3:∀j,j<N->fg j=fg' j):Z0 W lb hb rb gb pv n N fh' fr' fg' x:=
 ⟨h.bel,h.lat.congr e1 e2 e3,h.pc,h.base,h.lt,h.apart⟩
theorem Z0.hAt(h:Z0 W lb hb rb gb pv n N fh fr fg x){j:Nat}(hj:j<N):x.cell? ⟨hb,j,none⟩=some (.bool (fh j)):=h.lat.h.cell hj
theorem Z0.rAt(h:Z0 W lb hb rb gb pv n N fh fr fg x){j:Nat}(hj:j<N):x.cell? ⟨rb,j,none⟩=some (.bool (fr j)):=h.lat.r.cell hj
theorem Z0.gAt(h:Z0 W lb hb rb gb pv n N fh fr fg x){j:Nat}(hj:j<N):x.cell? ⟨gb,j,none⟩=some (.bool (fg j)):=h.lat.g.cell hj
theorem Xbs.to(h:Xbs W lb hb rb gb pv ib n N fh fr fg fi x)(b:Below x.heap.size x y):Xbs W lb hb rb gb pv ib n N fh fr fg fi y:=
 ⟨h.st.to b,h.row.of_block (b.block _ h.row.lt),h.base,h.apart⟩
theorem Xbs.setI(h:Xbs W lb hb rb gb pv ib n N fh fr fg fi x)(k:Nat)(v:Int):Xbs W lb hb rb gb pv ib n N fh fr fg (λj=>if j=k then v else fi j) (x.setCell ⟨ib,k,none⟩ (.int .i64 v)):=by
 obtain⟨a1,a2,a3,a4,a5⟩:=h.apart;exact⟨h.st.other h.base a1 a2 a3 a4 a5 _,(h.row.set k (.int .i64 v)).congr λj _=>by by_cases e:j=k<;>simp[e],h.base,h.apart⟩
theorem Xbs.setH(h:Xbs W lb hb rb gb pv ib n N fh fr fg fi x)(k:Nat)(b:Bool):Xbs W lb hb rb gb pv ib n N (λj=>if j=k then b else fh j) fr fg fi (x.setCell ⟨hb,k,none⟩ (.bool b)):=
 ⟨h.st.setH k b,h.row.setOther (a:=⟨hb,k,none⟩) h.apart.2.1 _,h.base,h.apart⟩
theorem Xbs.congr{fh' fr' fg':Nat->Bool}{fi':Nat->Int}(h:Xbs W lb hb rb gb pv ib n N fh fr fg fi x)(e1:∀j,j<N->fh j=fh' j)(e2:∀j,j<N->fr j=fr' j)(e3:∀j,j<N->fg j=fg' j)(e4:∀j,j<N->fi j=fi' j):
 Xbs W lb hb rb gb pv ib n N fh' fr' fg' fi' x:=⟨h.st.congr e1 e2 e3,h.row.congr λj hj=>by rw[e4 j hj],h.base,h.apart⟩
theorem Xbs.iAt(h:Xbs W lb hb rb gb pv ib n N fh fr fg fi x){j:Nat}(hj:j<N):x.cell? ⟨ib,j,none⟩=some (.int .i64 (fi j)):=h.row.cell hj
theorem Xbs.iFz(h:Xbs W lb hb rb gb pv ib n N fh fr fg fi x)(j:Nat):x.frozen? ⟨ib,j,none⟩=false:=h.row.frozen j
end
theorem Z0.count{W:World}{lb hb rb gb pv n N:Nat}{fh fr fg:Nat->Bool}{x:World}(h:Z0 W lb hb rb gb pv n N fh fr fg x)(v:Int):
 (x.alloc (.cells #[.int .i64 v] 3)).cell? ⟨x.heap.size,0,none⟩=some (.int .i64 v)/\
 Hid ((x.alloc (.cells #[.int .i64 v] 3)).frozen? ⟨x.heap.size,0,none⟩=false/\x.heap.size<(x.alloc (.cells #[.int .i64 v] 3)).heap.size/\W.heap.size<=x.heap.size/\x.heap.size≠lb/\x.heap.size≠hb/\x.heap.size≠rb/\x.heap.size≠gb/\x.heap.size≠pv)/\
 Hid (Z0 W lb hb rb gb pv n N fh fr fg (x.alloc (.cells #[.int .i64 v] 3))):=by
 have hr:=World.rowIs_alloc x #[.int .i64 v] 3 (λ_=> .int .i64 v) (λi hi=>by
  have:i=0:=by simpa using hi
  subst this;rfl)
 obtain⟨h1,h2,h3,h4,h5⟩:=h.lts;exact⟨hr.cell (by simp),Xa ⟨hr.frozen 0,by simp,h.bel.size,by omega,by omega,by omega,by omega,by omega⟩,Xa (h.to (brf.alloc nr _))⟩
def XpS(I:Int)(cs:List Int)(fi:Nat->Int)(m:Nat):Prop:=∀j,j<m->fi j=Xan I cs j
theorem XpS.next{I:Int}{cs:List Int}{fi:Nat->Int}{i st:Nat}(hi:i<cs.length)(hC:st<2^i)(h:XpS I cs fi (2^i+st)):XpS I cs (λj=>if j=st+2^i then fi st+cs.getD i 0 else fi j) (2^i+(st+1)):=by
 intro j hj;by_cases e:j=st+2^i
 ·subst e;simp only[if_true];rw[Xqm hi (Xje (n:=i) hC nr),h st (by omega)]
 ·simp only[if_neg e];exact h j (by omega)
theorem XsS{st i:Nat}(hi:i<=40)(hC:st<2^i):bits .or .i64 (st:Int) ((2^i:Nat):Int)=((st+2^i:Nat):Int):=by
 have h2:2^i<=2^40:=Nat.pow_le_pow_right (by decide) hi;rw[XlF st (2^i) (by omega) (by omega),XlG (Xje (n:=i) hC nr)]
def Xqq(v:Value)(w:World):Nat:=match v with
 |.pointer (some p)=>(match w.cell? p with|some (.int _ n)=>(n+1).toNat|_=>0)
 |_=>0
theorem Xap{w:World}{p:Addr}{k:IntKind}{n:Int}(h:w.cell? p=some (.int k n)):Xqq (.pointer (some p)) w=(n+1).toNat:=by
 unfold Xqq;simp only[h]
end Go.Proofs.YtdcahhbipeaggaaGreatDoor
